/- Structures of the program's types, written by a program. -/
import Derived.Test.YtilbgbhpdjjliaaGreatDoorTy
import Derived.Test.YtilbgbhpdjjliaaGreatDoorVcS
namespace Go.Proofs.YtilbgbhpdjjliaaGreatDoor.Ty
open Go Go.RowKit Go.Proofs.YtilbgbhpdjjliaaGreatDoor.Den
set_option linter.unusedVariables false
set_option linter.unusedSimpArgs false
set_option maxRecDepth 100000
theorem str_iff (a b : ByteArray) : (a.toList = b.toList) = (a = b) := by
  have := str_beq a b
  rw [Bool.eq_iff_iff] at this
  simpa using this

structure T_Spot where
  Switch : Int
  Port : Int
  deriving DecidableEq, Inhabited
def T_Spot.c (x : T_Spot) : List V := [(vi x.Switch), (vi x.Port)]
def T_Spot.e (x : T_Spot) : V := .agg x.c
theorem T_Spot.ext_iff2 (x y : T_Spot) : x = y ↔ x.Switch = y.Switch ∧ x.Port = y.Port := by
  obtain ⟨_, _⟩ := x; obtain ⟨_, _⟩ := y; simp
theorem T_Spot.run_eql (x y : T_Spot) (w : World) : (binOp .eql 114 (.agg #[.int .i64 x.Switch, .int .i64 x.Port]) (.agg #[.int .i64 y.Switch, .int .i64 y.Port])).run Tryz.prog w = .ok (.bool (decide (x = y))) w := by
  rw [run_eql_struct]
  simp [go_sem]
  by_cases e : x = y
  · subst e; simp
  · rw [decide_eq_false e]
    have h := mt (T_Spot.ext_iff2 x y).2 e
    by_cases h0 : ¬ x.Switch = y.Switch
    · exact if_neg h0
    have h0 := Classical.not_not.1 h0
    rw [if_pos h0]
    by_cases h1 : ¬ x.Port = y.Port
    · exact if_neg h1
    have h1 := Classical.not_not.1 h1
    rw [if_pos h1]
    exact absurd ⟨h0, h1⟩ h
theorem T_Spot.eql (x y : T_Spot) {xo yo : Operand} : bin2 Tryz.prog .eql 114 xo yo x.e y.e = some (vb (decide (x = y))) :=
  bin2_lit (u := .agg #[.int .i64 x.Switch, .int .i64 x.Port]) (v := .agg #[.int .i64 y.Switch, .int .i64 y.Port]) rfl rfl (fun w => by simp [eqGuard, T_Spot.run_eql]) rfl
theorem T_Spot.run_neq (x y : T_Spot) (w : World) : (binOp .neq 114 (.agg #[.int .i64 x.Switch, .int .i64 x.Port]) (.agg #[.int .i64 y.Switch, .int .i64 y.Port])).run Tryz.prog w = .ok (.bool (!decide (x = y))) w := by
  rw [run_neq_struct]
  simp [go_sem]
  by_cases e : x = y
  · subst e; simp
  · rw [decide_eq_false e]
    have h := mt (T_Spot.ext_iff2 x y).2 e
    by_cases h0 : ¬ x.Switch = y.Switch
    · exact if_neg h0
    have h0 := Classical.not_not.1 h0
    rw [if_pos h0]
    by_cases h1 : ¬ x.Port = y.Port
    · exact if_neg h1
    have h1 := Classical.not_not.1 h1
    rw [if_pos h1]
    exact absurd ⟨h0, h1⟩ h
theorem T_Spot.neq (x y : T_Spot) {xo yo : Operand} : bin2 Tryz.prog .neq 114 xo yo x.e y.e = some (vb (!decide (x = y))) :=
  bin2_lit (u := .agg #[.int .i64 x.Switch, .int .i64 x.Port]) (v := .agg #[.int .i64 y.Switch, .int .i64 y.Port]) rfl rfl (fun w => by simp [eqGuard, T_Spot.run_neq]) rfl
abbrev sh_Spot : Sh := .st (.cons (Sh.int .i64) (.cons (Sh.int .i64) .nil))
def T_Spot.wf (B : Nat) (x : T_Spot) : Prop := wi64 x.Switch ∧ wi64 x.Port
theorem T_Spot.of {B : Nat} {xs : List V} (h : (sh_Spot).ok B xs) : ∃ a : T_Spot, xs = a.c ∧ a.wf B := by
  obtain ⟨_, _, rfl, h0, _, _, rfl, h1, rfl⟩ := h
  obtain ⟨a0, rfl, w0⟩ := of_i64 h0
  obtain ⟨a1, rfl, w1⟩ := of_i64 h1
  exact ⟨⟨a0, a1⟩, rfl, w0, w1⟩

structure T_Hop where
  At : T_Spot
  Header : Int
  deriving DecidableEq, Inhabited
def T_Hop.c (x : T_Hop) : List V := [(vi x.At.Switch), (vi x.At.Port), (vi x.Header)]
def T_Hop.e (x : T_Hop) : V := .agg x.c
theorem T_Hop.ext_iff2 (x y : T_Hop) : x = y ↔ x.At.Switch = y.At.Switch ∧ x.At.Port = y.At.Port ∧ x.Header = y.Header := by
  obtain ⟨⟨_, _⟩, _⟩ := x; obtain ⟨⟨_, _⟩, _⟩ := y; simp; try simp [and_assoc]
theorem T_Hop.run_eql (x y : T_Hop) (w : World) : (binOp .eql 124 (.agg #[.int .i64 x.At.Switch, .int .i64 x.At.Port, .int .i64 x.Header]) (.agg #[.int .i64 y.At.Switch, .int .i64 y.At.Port, .int .i64 y.Header])).run Tryz.prog w = .ok (.bool (decide (x = y))) w := by
  rw [run_eql_struct]
  simp [go_sem]
  by_cases e : x = y
  · subst e; simp
  · rw [decide_eq_false e]
    have h := mt (T_Hop.ext_iff2 x y).2 e
    by_cases h0 : ¬ x.At.Switch = y.At.Switch
    · exact if_neg h0
    have h0 := Classical.not_not.1 h0
    rw [if_pos h0]
    by_cases h1 : ¬ x.At.Port = y.At.Port
    · exact if_neg h1
    have h1 := Classical.not_not.1 h1
    rw [if_pos h1]
    by_cases h2 : ¬ x.Header = y.Header
    · exact if_neg h2
    have h2 := Classical.not_not.1 h2
    rw [if_pos h2]
    exact absurd ⟨h0, h1, h2⟩ h
theorem T_Hop.eql (x y : T_Hop) {xo yo : Operand} : bin2 Tryz.prog .eql 124 xo yo x.e y.e = some (vb (decide (x = y))) :=
  bin2_lit (u := .agg #[.int .i64 x.At.Switch, .int .i64 x.At.Port, .int .i64 x.Header]) (v := .agg #[.int .i64 y.At.Switch, .int .i64 y.At.Port, .int .i64 y.Header]) rfl rfl (fun w => by simp [eqGuard, T_Hop.run_eql]) rfl
theorem T_Hop.run_neq (x y : T_Hop) (w : World) : (binOp .neq 124 (.agg #[.int .i64 x.At.Switch, .int .i64 x.At.Port, .int .i64 x.Header]) (.agg #[.int .i64 y.At.Switch, .int .i64 y.At.Port, .int .i64 y.Header])).run Tryz.prog w = .ok (.bool (!decide (x = y))) w := by
  rw [run_neq_struct]
  simp [go_sem]
  by_cases e : x = y
  · subst e; simp
  · rw [decide_eq_false e]
    have h := mt (T_Hop.ext_iff2 x y).2 e
    by_cases h0 : ¬ x.At.Switch = y.At.Switch
    · exact if_neg h0
    have h0 := Classical.not_not.1 h0
    rw [if_pos h0]
    by_cases h1 : ¬ x.At.Port = y.At.Port
    · exact if_neg h1
    have h1 := Classical.not_not.1 h1
    rw [if_pos h1]
    by_cases h2 : ¬ x.Header = y.Header
    · exact if_neg h2
    have h2 := Classical.not_not.1 h2
    rw [if_pos h2]
    exact absurd ⟨h0, h1, h2⟩ h
theorem T_Hop.neq (x y : T_Hop) {xo yo : Operand} : bin2 Tryz.prog .neq 124 xo yo x.e y.e = some (vb (!decide (x = y))) :=
  bin2_lit (u := .agg #[.int .i64 x.At.Switch, .int .i64 x.At.Port, .int .i64 x.Header]) (v := .agg #[.int .i64 y.At.Switch, .int .i64 y.At.Port, .int .i64 y.Header]) rfl rfl (fun w => by simp [eqGuard, T_Hop.run_neq]) rfl
abbrev sh_Hop : Sh := .st (.cons sh_Spot (.cons (Sh.int .i64) .nil))
def T_Hop.wf (B : Nat) (x : T_Hop) : Prop := T_Spot.wf B x.At ∧ wi64 x.Header
theorem T_Hop.of {B : Nat} {xs : List V} (h : (sh_Hop).ok B xs) : ∃ a : T_Hop, xs = a.c ∧ a.wf B := by
  obtain ⟨_, _, rfl, h0, _, _, rfl, h1, rfl⟩ := h
  obtain ⟨a0, rfl, w0⟩ := T_Spot.of h0
  obtain ⟨a1, rfl, w1⟩ := of_i64 h1
  exact ⟨⟨a0, a1⟩, rfl, w0, w1⟩

structure T_Cube where
  Mask : Int
  Bits : Int
  deriving DecidableEq, Inhabited
def T_Cube.c (x : T_Cube) : List V := [(vi x.Mask), (vi x.Bits)]
def T_Cube.e (x : T_Cube) : V := .agg x.c
theorem T_Cube.ext_iff2 (x y : T_Cube) : x = y ↔ x.Mask = y.Mask ∧ x.Bits = y.Bits := by
  obtain ⟨_, _⟩ := x; obtain ⟨_, _⟩ := y; simp
theorem T_Cube.run_eql (x y : T_Cube) (w : World) : (binOp .eql 23 (.agg #[.int .i64 x.Mask, .int .i64 x.Bits]) (.agg #[.int .i64 y.Mask, .int .i64 y.Bits])).run Tryz.prog w = .ok (.bool (decide (x = y))) w := by
  rw [run_eql_struct]
  simp [go_sem]
  by_cases e : x = y
  · subst e; simp
  · rw [decide_eq_false e]
    have h := mt (T_Cube.ext_iff2 x y).2 e
    by_cases h0 : ¬ x.Mask = y.Mask
    · exact if_neg h0
    have h0 := Classical.not_not.1 h0
    rw [if_pos h0]
    by_cases h1 : ¬ x.Bits = y.Bits
    · exact if_neg h1
    have h1 := Classical.not_not.1 h1
    rw [if_pos h1]
    exact absurd ⟨h0, h1⟩ h
theorem T_Cube.eql (x y : T_Cube) {xo yo : Operand} : bin2 Tryz.prog .eql 23 xo yo x.e y.e = some (vb (decide (x = y))) :=
  bin2_lit (u := .agg #[.int .i64 x.Mask, .int .i64 x.Bits]) (v := .agg #[.int .i64 y.Mask, .int .i64 y.Bits]) rfl rfl (fun w => by simp [eqGuard, T_Cube.run_eql]) rfl
theorem T_Cube.run_neq (x y : T_Cube) (w : World) : (binOp .neq 23 (.agg #[.int .i64 x.Mask, .int .i64 x.Bits]) (.agg #[.int .i64 y.Mask, .int .i64 y.Bits])).run Tryz.prog w = .ok (.bool (!decide (x = y))) w := by
  rw [run_neq_struct]
  simp [go_sem]
  by_cases e : x = y
  · subst e; simp
  · rw [decide_eq_false e]
    have h := mt (T_Cube.ext_iff2 x y).2 e
    by_cases h0 : ¬ x.Mask = y.Mask
    · exact if_neg h0
    have h0 := Classical.not_not.1 h0
    rw [if_pos h0]
    by_cases h1 : ¬ x.Bits = y.Bits
    · exact if_neg h1
    have h1 := Classical.not_not.1 h1
    rw [if_pos h1]
    exact absurd ⟨h0, h1⟩ h
theorem T_Cube.neq (x y : T_Cube) {xo yo : Operand} : bin2 Tryz.prog .neq 23 xo yo x.e y.e = some (vb (!decide (x = y))) :=
  bin2_lit (u := .agg #[.int .i64 x.Mask, .int .i64 x.Bits]) (v := .agg #[.int .i64 y.Mask, .int .i64 y.Bits]) rfl rfl (fun w => by simp [eqGuard, T_Cube.run_neq]) rfl
abbrev sh_Cube : Sh := .st (.cons (Sh.int .i64) (.cons (Sh.int .i64) .nil))
def T_Cube.wf (B : Nat) (x : T_Cube) : Prop := wi64 x.Mask ∧ wi64 x.Bits
theorem T_Cube.of {B : Nat} {xs : List V} (h : (sh_Cube).ok B xs) : ∃ a : T_Cube, xs = a.c ∧ a.wf B := by
  obtain ⟨_, _, rfl, h0, _, _, rfl, h1, rfl⟩ := h
  obtain ⟨a0, rfl, w0⟩ := of_i64 h0
  obtain ⟨a1, rfl, w1⟩ := of_i64 h1
  exact ⟨⟨a0, a1⟩, rfl, w0, w1⟩

structure T_Rule where
  Prio : Int
  Cube : T_Cube
  Out : Int
  Set : Int
  Value : Int
  deriving DecidableEq, Inhabited
def T_Rule.c (x : T_Rule) : List V := [(vi x.Prio), (vi x.Cube.Mask), (vi x.Cube.Bits), (vi x.Out), (vi x.Set), (vi x.Value)]
def T_Rule.e (x : T_Rule) : V := .agg x.c
theorem T_Rule.ext_iff2 (x y : T_Rule) : x = y ↔ x.Prio = y.Prio ∧ x.Cube.Mask = y.Cube.Mask ∧ x.Cube.Bits = y.Cube.Bits ∧ x.Out = y.Out ∧ x.Set = y.Set ∧ x.Value = y.Value := by
  obtain ⟨_, ⟨_, _⟩, _, _, _⟩ := x; obtain ⟨_, ⟨_, _⟩, _, _, _⟩ := y; simp; try simp [and_assoc]
theorem T_Rule.run_eql (x y : T_Rule) (w : World) : (binOp .eql 25 (.agg #[.int .i64 x.Prio, .int .i64 x.Cube.Mask, .int .i64 x.Cube.Bits, .int .i64 x.Out, .int .i64 x.Set, .int .i64 x.Value]) (.agg #[.int .i64 y.Prio, .int .i64 y.Cube.Mask, .int .i64 y.Cube.Bits, .int .i64 y.Out, .int .i64 y.Set, .int .i64 y.Value])).run Tryz.prog w = .ok (.bool (decide (x = y))) w := by
  rw [run_eql_struct]
  simp [go_sem]
  by_cases e : x = y
  · subst e; simp
  · rw [decide_eq_false e]
    have h := mt (T_Rule.ext_iff2 x y).2 e
    by_cases h0 : ¬ x.Prio = y.Prio
    · exact if_neg h0
    have h0 := Classical.not_not.1 h0
    rw [if_pos h0]
    by_cases h1 : ¬ x.Cube.Mask = y.Cube.Mask
    · exact if_neg h1
    have h1 := Classical.not_not.1 h1
    rw [if_pos h1]
    by_cases h2 : ¬ x.Cube.Bits = y.Cube.Bits
    · exact if_neg h2
    have h2 := Classical.not_not.1 h2
    rw [if_pos h2]
    by_cases h3 : ¬ x.Out = y.Out
    · exact if_neg h3
    have h3 := Classical.not_not.1 h3
    rw [if_pos h3]
    by_cases h4 : ¬ x.Set = y.Set
    · exact if_neg h4
    have h4 := Classical.not_not.1 h4
    rw [if_pos h4]
    by_cases h5 : ¬ x.Value = y.Value
    · exact if_neg h5
    have h5 := Classical.not_not.1 h5
    rw [if_pos h5]
    exact absurd ⟨h0, h1, h2, h3, h4, h5⟩ h
theorem T_Rule.eql (x y : T_Rule) {xo yo : Operand} : bin2 Tryz.prog .eql 25 xo yo x.e y.e = some (vb (decide (x = y))) :=
  bin2_lit (u := .agg #[.int .i64 x.Prio, .int .i64 x.Cube.Mask, .int .i64 x.Cube.Bits, .int .i64 x.Out, .int .i64 x.Set, .int .i64 x.Value]) (v := .agg #[.int .i64 y.Prio, .int .i64 y.Cube.Mask, .int .i64 y.Cube.Bits, .int .i64 y.Out, .int .i64 y.Set, .int .i64 y.Value]) rfl rfl (fun w => by simp [eqGuard, T_Rule.run_eql]) rfl
theorem T_Rule.run_neq (x y : T_Rule) (w : World) : (binOp .neq 25 (.agg #[.int .i64 x.Prio, .int .i64 x.Cube.Mask, .int .i64 x.Cube.Bits, .int .i64 x.Out, .int .i64 x.Set, .int .i64 x.Value]) (.agg #[.int .i64 y.Prio, .int .i64 y.Cube.Mask, .int .i64 y.Cube.Bits, .int .i64 y.Out, .int .i64 y.Set, .int .i64 y.Value])).run Tryz.prog w = .ok (.bool (!decide (x = y))) w := by
  rw [run_neq_struct]
  simp [go_sem]
  by_cases e : x = y
  · subst e; simp
  · rw [decide_eq_false e]
    have h := mt (T_Rule.ext_iff2 x y).2 e
    by_cases h0 : ¬ x.Prio = y.Prio
    · exact if_neg h0
    have h0 := Classical.not_not.1 h0
    rw [if_pos h0]
    by_cases h1 : ¬ x.Cube.Mask = y.Cube.Mask
    · exact if_neg h1
    have h1 := Classical.not_not.1 h1
    rw [if_pos h1]
    by_cases h2 : ¬ x.Cube.Bits = y.Cube.Bits
    · exact if_neg h2
    have h2 := Classical.not_not.1 h2
    rw [if_pos h2]
    by_cases h3 : ¬ x.Out = y.Out
    · exact if_neg h3
    have h3 := Classical.not_not.1 h3
    rw [if_pos h3]
    by_cases h4 : ¬ x.Set = y.Set
    · exact if_neg h4
    have h4 := Classical.not_not.1 h4
    rw [if_pos h4]
    by_cases h5 : ¬ x.Value = y.Value
    · exact if_neg h5
    have h5 := Classical.not_not.1 h5
    rw [if_pos h5]
    exact absurd ⟨h0, h1, h2, h3, h4, h5⟩ h
theorem T_Rule.neq (x y : T_Rule) {xo yo : Operand} : bin2 Tryz.prog .neq 25 xo yo x.e y.e = some (vb (!decide (x = y))) :=
  bin2_lit (u := .agg #[.int .i64 x.Prio, .int .i64 x.Cube.Mask, .int .i64 x.Cube.Bits, .int .i64 x.Out, .int .i64 x.Set, .int .i64 x.Value]) (v := .agg #[.int .i64 y.Prio, .int .i64 y.Cube.Mask, .int .i64 y.Cube.Bits, .int .i64 y.Out, .int .i64 y.Set, .int .i64 y.Value]) rfl rfl (fun w => by simp [eqGuard, T_Rule.run_neq]) rfl
abbrev sh_Rule : Sh := .st (.cons (Sh.int .i64) (.cons sh_Cube (.cons (Sh.int .i64) (.cons (Sh.int .i64) (.cons (Sh.int .i64) .nil)))))
def T_Rule.wf (B : Nat) (x : T_Rule) : Prop := wi64 x.Prio ∧ T_Cube.wf B x.Cube ∧ wi64 x.Out ∧ wi64 x.Set ∧ wi64 x.Value
theorem T_Rule.of {B : Nat} {xs : List V} (h : (sh_Rule).ok B xs) : ∃ a : T_Rule, xs = a.c ∧ a.wf B := by
  obtain ⟨_, _, rfl, h0, _, _, rfl, h1, _, _, rfl, h2, _, _, rfl, h3, _, _, rfl, h4, rfl⟩ := h
  obtain ⟨a0, rfl, w0⟩ := of_i64 h0
  obtain ⟨a1, rfl, w1⟩ := T_Cube.of h1
  obtain ⟨a2, rfl, w2⟩ := of_i64 h2
  obtain ⟨a3, rfl, w3⟩ := of_i64 h3
  obtain ⟨a4, rfl, w4⟩ := of_i64 h4
  exact ⟨⟨a0, a1, a2, a3, a4⟩, rfl, w0, w1, w2, w3, w4⟩

end Go.Proofs.YtilbgbhpdjjliaaGreatDoor.Ty
