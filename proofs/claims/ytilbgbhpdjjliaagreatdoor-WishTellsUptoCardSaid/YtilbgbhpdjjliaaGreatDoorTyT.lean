/- Structures of the program's types, written by a program. -/
import Derived.Test.YtilbgbhpdjjliaaGreatDoorTy
import Derived.Test.YtilbgbhpdjjliaaGreatDoorVcS
namespace Go.Proofs.YtilbgbhpdjjliaaGreatDoor.Ty
open Go Go.RowKit Go.Proofs.YtilbgbhpdjjliaaGreatDoor.Den
set_option linter.unusedVariables false
set_option linter.unusedSimpArgs false
set_option maxRecDepth 100000
theorem str_iff (a b : ByteArray) : (a.toList = b.toList) = (a = b) := by
 have := str_beq a b
 rw [Bool.eq_iff_iff] at this
 simpa using this
structure T_Spot where
 Switch : Int
 Port : Int
 deriving DecidableEq, Inhabited
def T_Spot.c (x : T_Spot) : List V := [(vi x.Switch), (vi x.Port)]
def T_Spot.e (x : T_Spot) : V := .agg x.c
theorem T_Spot.ext_iff2 (x y : T_Spot) : x = y ↔ x.Switch = y.Switch ∧ x.Port = y.Port := by
 obtain ⟨_, _⟩ := x; obtain ⟨_, _⟩ := y; simp
theorem T_Spot.run_eql (x y : T_Spot) (w : World) : (binOp .eql 114 (.agg #[.int .i64 x.Switch, .int .i64 x.Port]) (.agg #[.int .i64 y.Switch, .int .i64 y.Port])).run Tryz.prog w = .ok (.bool (decide (x = y))) w := by
 rw [run_eql_struct]
 simp [go_sem]
 by_cases e : x = y
 ·subst e; simp
 ·rw [decide_eq_false e]
  have h := mt (T_Spot.ext_iff2 x y).2 e
  by_cases h0 : ¬ x.Switch = y.Switch
  ·exact if_neg h0
  have h0 := Classical.not_not.1 h0
  rw [if_pos h0]
  by_cases h1 : ¬ x.Port = y.Port
  ·exact if_neg h1
  have h1 := Classical.not_not.1 h1
  rw [if_pos h1]
  exact absurd ⟨h0, h1⟩ h
theorem T_Spot.eql (x y : T_Spot) {xo yo : Operand} : bin2 Tryz.prog .eql 114 xo yo x.e y.e = some (vb (decide (x = y))) :=
 bin2_lit (u := .agg #[.int .i64 x.Switch, .int .i64 x.Port]) (v := .agg #[.int .i64 y.Switch, .int .i64 y.Port]) rfl rfl (fun w => by simp [eqGuard, T_Spot.run_eql]) rfl
theorem T_Spot.run_neq (x y : T_Spot) (w : World) : (binOp .neq 114 (.agg #[.int .i64 x.Switch, .int .i64 x.Port]) (.agg #[.int .i64 y.Switch, .int .i64 y.Port])).run Tryz.prog w = .ok (.bool (!decide (x = y))) w := by
 rw [run_neq_struct]
 simp [go_sem]
 by_cases e : x = y
 ·subst e; simp
 ·rw [decide_eq_false e]
  have h := mt (T_Spot.ext_iff2 x y).2 e
  by_cases h0 : ¬ x.Switch = y.Switch
  ·exact if_neg h0
  have h0 := Classical.not_not.1 h0
  rw [if_pos h0]
  by_cases h1 : ¬ x.Port = y.Port
  ·exact if_neg h1
  have h1 := Classical.not_not.1 h1
  rw [if_pos h1]
  exact absurd ⟨h0, h1⟩ h
theorem T_Spot.neq (x y : T_Spot) {xo yo : Operand} : bin2 Tryz.prog .neq 114 xo yo x.e y.e = some (vb (!decide (x = y))) :=
 bin2_lit (u := .agg #[.int .i64 x.Switch, .int .i64 x.Port]) (v := .agg #[.int .i64 y.Switch, .int .i64 y.Port]) rfl rfl (fun w => by simp [eqGuard, T_Spot.run_neq]) rfl
abbrev sh_Spot : Sh := .st (.cons (Sh.int .i64) (.cons (Sh.int .i64) .nil))
def T_Spot.wf (B : Nat) (x : T_Spot) : Prop := wi64 x.Switch ∧ wi64 x.Port
theorem T_Spot.of {B : Nat} {xs : List V} (h : (sh_Spot).ok B xs) : ∃ a : T_Spot, xs = a.c ∧ a.wf B := by
 obtain ⟨_, _, rfl, h0, _, _, rfl, h1, rfl⟩ := h
 obtain ⟨a0, rfl, w0⟩ := of_i64 h0
 obtain ⟨a1, rfl, w1⟩ := of_i64 h1
 exact ⟨⟨a0, a1⟩, rfl, w0, w1⟩
structure T_Hop where
 At : T_Spot
 Header : Int
 deriving DecidableEq, Inhabited
def T_Hop.c (x : T_Hop) : List V := [(vi x.At.Switch), (vi x.At.Port), (vi x.Header)]
def T_Hop.e (x : T_Hop) : V := .agg x.c
theorem T_Hop.ext_iff2 (x y : T_Hop) : x = y ↔ x.At.Switch = y.At.Switch ∧ x.At.Port = y.At.Port ∧ x.Header = y.Header := by
 obtain ⟨⟨_, _⟩, _⟩ := x; obtain ⟨⟨_, _⟩, _⟩ := y; simp; try simp [and_assoc]
theorem T_Hop.run_eql (x y : T_Hop) (w : World) : (binOp .eql 124 (.agg #[.int .i64 x.At.Switch, .int .i64 x.At.Port, .int .i64 x.Header]) (.agg #[.int .i64 y.At.Switch, .int .i64 y.At.Port, .int .i64 y.Header])).run Tryz.prog w = .ok (.bool (decide (x = y))) w := by
 rw [run_eql_struct]
 simp [go_sem]
 by_cases e : x = y
 ·subst e; simp
 ·rw [decide_eq_false e]
  have h := mt (T_Hop.ext_iff2 x y).2 e
  by_cases h0 : ¬ x.At.Switch = y.At.Switch
  ·exact if_neg h0
  have h0 := Classical.not_not.1 h0
  rw [if_pos h0]
  by_cases h1 : ¬ x.At.Port = y.At.Port
  ·exact if_neg h1
  have h1 := Classical.not_not.1 h1
  rw [if_pos h1]
  by_cases h2 : ¬ x.Header = y.Header
  ·exact if_neg h2
  have h2 := Classical.not_not.1 h2
  rw [if_pos h2]
  exact absurd ⟨h0, h1, h2⟩ h
theorem T_Hop.eql (x y : T_Hop) {xo yo : Operand} : bin2 Tryz.prog .eql 124 xo yo x.e y.e = some (vb (decide (x = y))) :=
 bin2_lit (u := .agg #[.int .i64 x.At.Switch, .int .i64 x.At.Port, .int .i64 x.Header]) (v := .agg #[.int .i64 y.At.Switch, .int .i64 y.At.Port, .int .i64 y.Header]) rfl rfl (fun w => by simp [eqGuard, T_Hop.run_eql]) rfl
theorem T_Hop.run_neq (x y : T_Hop) (w : World) : (binOp .neq 124 (.agg #[.int .i64 x.At.Switch, .int .i64 x.At.Port, .int .i64 x.Header]) (.agg #[.int .i64 y.At.Switch, .int .i64 y.At.Port, .int .i64 y.Header])).run Tryz.prog w = .ok (.bool (!decide (x = y))) w := by
 rw [run_neq_struct]
 simp [go_sem]
 by_cases e : x = y
 ·subst e; simp
 ·rw [decide_eq_false e]
  have h := mt (T_Hop.ext_iff2 x y).2 e
  by_cases h0 : ¬ x.At.Switch = y.At.Switch
  ·exact if_neg h0
  have h0 := Classical.not_not.1 h0
  rw [if_pos h0]
  by_cases h1 : ¬ x.At.Port = y.At.Port
  ·exact if_neg h1
  have h1 := Classical.not_not.1 h1
  rw [if_pos h1]
  by_cases h2 : ¬ x.Header = y.Header
  ·exact if_neg h2
  have h2 := Classical.not_not.1 h2
  rw [if_pos h2]
  exact absurd ⟨h0, h1, h2⟩ h
theorem T_Hop.neq (x y : T_Hop) {xo yo : Operand} : bin2 Tryz.prog .neq 124 xo yo x.e y.e = some (vb (!decide (x = y))) :=
 bin2_lit (u := .agg #[.int .i64 x.At.Switch, .int .i64 x.At.Port, .int .i64 x.Header]) (v := .agg #[.int .i64 y.At.Switch, .int .i64 y.At.Port, .int .i64 y.Header]) rfl rfl (fun w => by simp [eqGuard, T_Hop.run_neq]) rfl
abbrev sh_Hop : Sh := .st (.cons sh_Spot (.cons (Sh.int .i64) .nil))
def T_Hop.wf (B : Nat) (x : T_Hop) : Prop := T_Spot.wf B x.At ∧ wi64 x.Header
theorem T_Hop.of {B : Nat} {xs : List V} (h : (sh_Hop).ok B xs) : ∃ a : T_Hop, xs = a.c ∧ a.wf B := by
 obtain ⟨_, _, rfl, h0, _, _, rfl, h1, rfl⟩ := h
 obtain ⟨a0, rfl, w0⟩ := T_Spot.of h0
 obtain ⟨a1, rfl, w1⟩ := of_i64 h1
 exact ⟨⟨a0, a1⟩, rfl, w0, w1⟩
structure T_Link where
 A : T_Spot
 B : T_Spot
 deriving DecidableEq, Inhabited
def T_Link.c (x : T_Link) : List V := [(vi x.A.Switch), (vi x.A.Port), (vi x.B.Switch), (vi x.B.Port)]
def T_Link.e (x : T_Link) : V := .agg x.c
theorem T_Link.ext_iff2 (x y : T_Link) : x = y ↔ x.A.Switch = y.A.Switch ∧ x.A.Port = y.A.Port ∧ x.B.Switch = y.B.Switch ∧ x.B.Port = y.B.Port := by
 obtain ⟨⟨_, _⟩, ⟨_, _⟩⟩ := x; obtain ⟨⟨_, _⟩, ⟨_, _⟩⟩ := y; simp; try simp [and_assoc]
theorem T_Link.run_eql (x y : T_Link) (w : World) : (binOp .eql 136 (.agg #[.int .i64 x.A.Switch, .int .i64 x.A.Port, .int .i64 x.B.Switch, .int .i64 x.B.Port]) (.agg #[.int .i64 y.A.Switch, .int .i64 y.A.Port, .int .i64 y.B.Switch, .int .i64 y.B.Port])).run Tryz.prog w = .ok (.bool (decide (x = y))) w := by
 rw [run_eql_struct]
 simp [go_sem]
 by_cases e : x = y
 ·subst e; simp
 ·rw [decide_eq_false e]
  have h := mt (T_Link.ext_iff2 x y).2 e
  by_cases h0 : ¬ x.A.Switch = y.A.Switch
  ·exact if_neg h0
  have h0 := Classical.not_not.1 h0
  rw [if_pos h0]
  by_cases h1 : ¬ x.A.Port = y.A.Port
  ·exact if_neg h1
  have h1 := Classical.not_not.1 h1
  rw [if_pos h1]
  by_cases h2 : ¬ x.B.Switch = y.B.Switch
  ·exact if_neg h2
  have h2 := Classical.not_not.1 h2
  rw [if_pos h2]
  by_cases h3 : ¬ x.B.Port = y.B.Port
  ·exact if_neg h3
  have h3 := Classical.not_not.1 h3
  rw [if_pos h3]
  exact absurd ⟨h0, h1, h2, h3⟩ h
theorem T_Link.eql (x y : T_Link) {xo yo : Operand} : bin2 Tryz.prog .eql 136 xo yo x.e y.e = some (vb (decide (x = y))) :=
 bin2_lit (u := .agg #[.int .i64 x.A.Switch, .int .i64 x.A.Port, .int .i64 x.B.Switch, .int .i64 x.B.Port]) (v := .agg #[.int .i64 y.A.Switch, .int .i64 y.A.Port, .int .i64 y.B.Switch, .int .i64 y.B.Port]) rfl rfl (fun w => by simp [eqGuard, T_Link.run_eql]) rfl
theorem T_Link.run_neq (x y : T_Link) (w : World) : (binOp .neq 136 (.agg #[.int .i64 x.A.Switch, .int .i64 x.A.Port, .int .i64 x.B.Switch, .int .i64 x.B.Port]) (.agg #[.int .i64 y.A.Switch, .int .i64 y.A.Port, .int .i64 y.B.Switch, .int .i64 y.B.Port])).run Tryz.prog w = .ok (.bool (!decide (x = y))) w := by
 rw [run_neq_struct]
 simp [go_sem]
 by_cases e : x = y
 ·subst e; simp
 ·rw [decide_eq_false e]
  have h := mt (T_Link.ext_iff2 x y).2 e
  by_cases h0 : ¬ x.A.Switch = y.A.Switch
  ·exact if_neg h0
  have h0 := Classical.not_not.1 h0
  rw [if_pos h0]
  by_cases h1 : ¬ x.A.Port = y.A.Port
  ·exact if_neg h1
  have h1 := Classical.not_not.1 h1
  rw [if_pos h1]
  by_cases h2 : ¬ x.B.Switch = y.B.Switch
  ·exact if_neg h2
  have h2 := Classical.not_not.1 h2
  rw [if_pos h2]
  by_cases h3 : ¬ x.B.Port = y.B.Port
  ·exact if_neg h3
  have h3 := Classical.not_not.1 h3
  rw [if_pos h3]
  exact absurd ⟨h0, h1, h2, h3⟩ h
theorem T_Link.neq (x y : T_Link) {xo yo : Operand} : bin2 Tryz.prog .neq 136 xo yo x.e y.e = some (vb (!decide (x = y))) :=
 bin2_lit (u := .agg #[.int .i64 x.A.Switch, .int .i64 x.A.Port, .int .i64 x.B.Switch, .int .i64 x.B.Port]) (v := .agg #[.int .i64 y.A.Switch, .int .i64 y.A.Port, .int .i64 y.B.Switch, .int .i64 y.B.Port]) rfl rfl (fun w => by simp [eqGuard, T_Link.run_neq]) rfl
abbrev sh_Link : Sh := .st (.cons sh_Spot (.cons sh_Spot .nil))
def T_Link.wf (B : Nat) (x : T_Link) : Prop := T_Spot.wf B x.A ∧ T_Spot.wf B x.B
theorem T_Link.of {B : Nat} {xs : List V} (h : (sh_Link).ok B xs) : ∃ a : T_Link, xs = a.c ∧ a.wf B := by
 obtain ⟨_, _, rfl, h0, _, _, rfl, h1, rfl⟩ := h
 obtain ⟨a0, rfl, w0⟩ := T_Spot.of h0
 obtain ⟨a1, rfl, w1⟩ := T_Spot.of h1
 exact ⟨⟨a0, a1⟩, rfl, w0, w1⟩
structure T_Host where
 Name : ByteArray
 At : T_Spot
 deriving DecidableEq, Inhabited
def T_Host.c (x : T_Host) : List V := [(vt x.Name), (vi x.At.Switch), (vi x.At.Port)]
def T_Host.e (x : T_Host) : V := .agg x.c
theorem T_Host.ext_iff2 (x y : T_Host) : x = y ↔ x.Name = y.Name ∧ x.At.Switch = y.At.Switch ∧ x.At.Port = y.At.Port := by
 obtain ⟨_, ⟨_, _⟩⟩ := x; obtain ⟨_, ⟨_, _⟩⟩ := y; simp; try simp [and_assoc]
theorem T_Host.run_eql (x y : T_Host) (w : World) : (binOp .eql 116 (.agg #[.string x.Name, .int .i64 x.At.Switch, .int .i64 x.At.Port]) (.agg #[.string y.Name, .int .i64 y.At.Switch, .int .i64 y.At.Port])).run Tryz.prog w = .ok (.bool (decide (x = y))) w := by
 rw [run_eql_struct]
 simp [go_sem, str_iff]
 by_cases e : x = y
 ·subst e; simp
 ·rw [decide_eq_false e]
  have h := mt (T_Host.ext_iff2 x y).2 e
  by_cases h0 : ¬ x.Name = y.Name
  ·exact if_neg h0
  have h0 := Classical.not_not.1 h0
  rw [if_pos h0]
  by_cases h1 : ¬ x.At.Switch = y.At.Switch
  ·exact if_neg h1
  have h1 := Classical.not_not.1 h1
  rw [if_pos h1]
  by_cases h2 : ¬ x.At.Port = y.At.Port
  ·exact if_neg h2
  have h2 := Classical.not_not.1 h2
  rw [if_pos h2]
  exact absurd ⟨h0, h1, h2⟩ h
theorem T_Host.eql (x y : T_Host) {xo yo : Operand} : bin2 Tryz.prog .eql 116 xo yo x.e y.e = some (vb (decide (x = y))) :=
 bin2_lit (u := .agg #[.string x.Name, .int .i64 x.At.Switch, .int .i64 x.At.Port]) (v := .agg #[.string y.Name, .int .i64 y.At.Switch, .int .i64 y.At.Port]) rfl rfl (fun w => by simp [eqGuard, T_Host.run_eql]) rfl
theorem T_Host.run_neq (x y : T_Host) (w : World) : (binOp .neq 116 (.agg #[.string x.Name, .int .i64 x.At.Switch, .int .i64 x.At.Port]) (.agg #[.string y.Name, .int .i64 y.At.Switch, .int .i64 y.At.Port])).run Tryz.prog w = .ok (.bool (!decide (x = y))) w := by
 rw [run_neq_struct]
 simp [go_sem, str_iff]
 by_cases e : x = y
 ·subst e; simp
 ·rw [decide_eq_false e]
  have h := mt (T_Host.ext_iff2 x y).2 e
  by_cases h0 : ¬ x.Name = y.Name
  ·exact if_neg h0
  have h0 := Classical.not_not.1 h0
  rw [if_pos h0]
  by_cases h1 : ¬ x.At.Switch = y.At.Switch
  ·exact if_neg h1
  have h1 := Classical.not_not.1 h1
  rw [if_pos h1]
  by_cases h2 : ¬ x.At.Port = y.At.Port
  ·exact if_neg h2
  have h2 := Classical.not_not.1 h2
  rw [if_pos h2]
  exact absurd ⟨h0, h1, h2⟩ h
theorem T_Host.neq (x y : T_Host) {xo yo : Operand} : bin2 Tryz.prog .neq 116 xo yo x.e y.e = some (vb (!decide (x = y))) :=
 bin2_lit (u := .agg #[.string x.Name, .int .i64 x.At.Switch, .int .i64 x.At.Port]) (v := .agg #[.string y.Name, .int .i64 y.At.Switch, .int .i64 y.At.Port]) rfl rfl (fun w => by simp [eqGuard, T_Host.run_neq]) rfl
abbrev sh_Host : Sh := .st (.cons Sh.str (.cons sh_Spot .nil))
def T_Host.wf (B : Nat) (x : T_Host) : Prop := wS B x.Name ∧ T_Spot.wf B x.At
theorem T_Host.of {B : Nat} {xs : List V} (h : (sh_Host).ok B xs) : ∃ a : T_Host, xs = a.c ∧ a.wf B := by
 obtain ⟨_, _, rfl, h0, _, _, rfl, h1, rfl⟩ := h
 obtain ⟨a0, rfl, w0⟩ := of_str h0
 obtain ⟨a1, rfl, w1⟩ := T_Spot.of h1
 exact ⟨⟨a0, a1⟩, rfl, w0, w1⟩
structure T_Topo where
 Switches : Int
 Links : (List T_Link)
 Hosts : (List T_Host)
 deriving Inhabited
def T_Topo.c (x : T_Topo) : List V := [(vi x.Switches), (V.sl (List.map T_Link.c x.Links)), (V.sl (List.map T_Host.c x.Hosts))]
def T_Topo.e (x : T_Topo) : V := .agg x.c
abbrev sh_Topo : Sh := .st (.cons (Sh.int .i64) (.cons (Sh.sl sh_Link) (.cons (Sh.sl sh_Host) .nil)))
def T_Topo.wf (B : Nat) (x : T_Topo) : Prop := wi64 x.Switches ∧ wL B (fun x => T_Link.wf B x) x.Links ∧ wL B (fun x => T_Host.wf B x) x.Hosts
theorem T_Topo.of {B : Nat} {xs : List V} (h : (sh_Topo).ok B xs) : ∃ a : T_Topo, xs = a.c ∧ a.wf B := by
 obtain ⟨_, _, rfl, h0, _, _, rfl, h1, _, _, rfl, h2, rfl⟩ := h
 obtain ⟨a0, rfl, w0⟩ := of_i64 h0
 obtain ⟨a1, rfl, w1⟩ := (of_sl T_Link.of) h1
 obtain ⟨a2, rfl, w2⟩ := (of_sl T_Host.of) h2
 exact ⟨⟨a0, a1, a2⟩, rfl, w0, w1, w2⟩
structure T_Wish where
 What : Int
 From : ByteArray
 To : ByteArray
 Via : Int
 deriving DecidableEq, Inhabited
def T_Wish.c (x : T_Wish) : List V := [(vi x.What), (vt x.From), (vt x.To), (vi x.Via)]
def T_Wish.e (x : T_Wish) : V := .agg x.c
theorem T_Wish.ext_iff2 (x y : T_Wish) : x = y ↔ x.What = y.What ∧ x.From = y.From ∧ x.To = y.To ∧ x.Via = y.Via := by
 obtain ⟨_, _, _, _⟩ := x; obtain ⟨_, _, _, _⟩ := y; simp
theorem T_Wish.run_eql (x y : T_Wish) (w : World) : (binOp .eql 63 (.agg #[.int .i64 x.What, .string x.From, .string x.To, .int .i64 x.Via]) (.agg #[.int .i64 y.What, .string y.From, .string y.To, .int .i64 y.Via])).run Tryz.prog w = .ok (.bool (decide (x = y))) w := by
 rw [run_eql_struct]
 simp [go_sem, str_iff]
 by_cases e : x = y
 ·subst e; simp
 ·rw [decide_eq_false e]
  have h := mt (T_Wish.ext_iff2 x y).2 e
  by_cases h0 : ¬ x.What = y.What
  ·exact if_neg h0
  have h0 := Classical.not_not.1 h0
  rw [if_pos h0]
  by_cases h1 : ¬ x.From = y.From
  ·exact if_neg h1
  have h1 := Classical.not_not.1 h1
  rw [if_pos h1]
  by_cases h2 : ¬ x.To = y.To
  ·exact if_neg h2
  have h2 := Classical.not_not.1 h2
  rw [if_pos h2]
  by_cases h3 : ¬ x.Via = y.Via
  ·exact if_neg h3
  have h3 := Classical.not_not.1 h3
  rw [if_pos h3]
  exact absurd ⟨h0, h1, h2, h3⟩ h
theorem T_Wish.eql (x y : T_Wish) {xo yo : Operand} : bin2 Tryz.prog .eql 63 xo yo x.e y.e = some (vb (decide (x = y))) :=
 bin2_lit (u := .agg #[.int .i64 x.What, .string x.From, .string x.To, .int .i64 x.Via]) (v := .agg #[.int .i64 y.What, .string y.From, .string y.To, .int .i64 y.Via]) rfl rfl (fun w => by simp [eqGuard, T_Wish.run_eql]) rfl
theorem T_Wish.run_neq (x y : T_Wish) (w : World) : (binOp .neq 63 (.agg #[.int .i64 x.What, .string x.From, .string x.To, .int .i64 x.Via]) (.agg #[.int .i64 y.What, .string y.From, .string y.To, .int .i64 y.Via])).run Tryz.prog w = .ok (.bool (!decide (x = y))) w := by
 rw [run_neq_struct]
 simp [go_sem, str_iff]
 by_cases e : x = y
 ·subst e; simp
 ·rw [decide_eq_false e]
  have h := mt (T_Wish.ext_iff2 x y).2 e
  by_cases h0 : ¬ x.What = y.What
  ·exact if_neg h0
  have h0 := Classical.not_not.1 h0
  rw [if_pos h0]
  by_cases h1 : ¬ x.From = y.From
  ·exact if_neg h1
  have h1 := Classical.not_not.1 h1
  rw [if_pos h1]
  by_cases h2 : ¬ x.To = y.To
  ·exact if_neg h2
  have h2 := Classical.not_not.1 h2
  rw [if_pos h2]
  by_cases h3 : ¬ x.Via = y.Via
  ·exact if_neg h3
  have h3 := Classical.not_not.1 h3
  rw [if_pos h3]
  exact absurd ⟨h0, h1, h2, h3⟩ h
theorem T_Wish.neq (x y : T_Wish) {xo yo : Operand} : bin2 Tryz.prog .neq 63 xo yo x.e y.e = some (vb (!decide (x = y))) :=
 bin2_lit (u := .agg #[.int .i64 x.What, .string x.From, .string x.To, .int .i64 x.Via]) (v := .agg #[.int .i64 y.What, .string y.From, .string y.To, .int .i64 y.Via]) rfl rfl (fun w => by simp [eqGuard, T_Wish.run_neq]) rfl
abbrev sh_Wish : Sh := .st (.cons (Sh.int .i64) (.cons Sh.str (.cons Sh.str (.cons (Sh.int .i64) .nil))))
def T_Wish.wf (B : Nat) (x : T_Wish) : Prop := wi64 x.What ∧ wS B x.From ∧ wS B x.To ∧ wi64 x.Via
theorem T_Wish.of {B : Nat} {xs : List V} (h : (sh_Wish).ok B xs) : ∃ a : T_Wish, xs = a.c ∧ a.wf B := by
 obtain ⟨_, _, rfl, h0, _, _, rfl, h1, _, _, rfl, h2, _, _, rfl, h3, rfl⟩ := h
 obtain ⟨a0, rfl, w0⟩ := of_i64 h0
 obtain ⟨a1, rfl, w1⟩ := of_str h1
 obtain ⟨a2, rfl, w2⟩ := of_str h2
 obtain ⟨a3, rfl, w3⟩ := of_i64 h3
 exact ⟨⟨a0, a1, a2, a3⟩, rfl, w0, w1, w2, w3⟩
structure T_Cube where
 Mask : Int
 Bits : Int
 deriving DecidableEq, Inhabited
def T_Cube.c (x : T_Cube) : List V := [(vi x.Mask), (vi x.Bits)]
def T_Cube.e (x : T_Cube) : V := .agg x.c
theorem T_Cube.ext_iff2 (x y : T_Cube) : x = y ↔ x.Mask = y.Mask ∧ x.Bits = y.Bits := by
 obtain ⟨_, _⟩ := x; obtain ⟨_, _⟩ := y; simp
theorem T_Cube.run_eql (x y : T_Cube) (w : World) : (binOp .eql 23 (.agg #[.int .i64 x.Mask, .int .i64 x.Bits]) (.agg #[.int .i64 y.Mask, .int .i64 y.Bits])).run Tryz.prog w = .ok (.bool (decide (x = y))) w := by
 rw [run_eql_struct]
 simp [go_sem]
 by_cases e : x = y
 ·subst e; simp
 ·rw [decide_eq_false e]
  have h := mt (T_Cube.ext_iff2 x y).2 e
  by_cases h0 : ¬ x.Mask = y.Mask
  ·exact if_neg h0
  have h0 := Classical.not_not.1 h0
  rw [if_pos h0]
  by_cases h1 : ¬ x.Bits = y.Bits
  ·exact if_neg h1
  have h1 := Classical.not_not.1 h1
  rw [if_pos h1]
  exact absurd ⟨h0, h1⟩ h
theorem T_Cube.eql (x y : T_Cube) {xo yo : Operand} : bin2 Tryz.prog .eql 23 xo yo x.e y.e = some (vb (decide (x = y))) :=
 bin2_lit (u := .agg #[.int .i64 x.Mask, .int .i64 x.Bits]) (v := .agg #[.int .i64 y.Mask, .int .i64 y.Bits]) rfl rfl (fun w => by simp [eqGuard, T_Cube.run_eql]) rfl
theorem T_Cube.run_neq (x y : T_Cube) (w : World) : (binOp .neq 23 (.agg #[.int .i64 x.Mask, .int .i64 x.Bits]) (.agg #[.int .i64 y.Mask, .int .i64 y.Bits])).run Tryz.prog w = .ok (.bool (!decide (x = y))) w := by
 rw [run_neq_struct]
 simp [go_sem]
 by_cases e : x = y
 ·subst e; simp
 ·rw [decide_eq_false e]
  have h := mt (T_Cube.ext_iff2 x y).2 e
  by_cases h0 : ¬ x.Mask = y.Mask
  ·exact if_neg h0
  have h0 := Classical.not_not.1 h0
  rw [if_pos h0]
  by_cases h1 : ¬ x.Bits = y.Bits
  ·exact if_neg h1
  have h1 := Classical.not_not.1 h1
  rw [if_pos h1]
  exact absurd ⟨h0, h1⟩ h
theorem T_Cube.neq (x y : T_Cube) {xo yo : Operand} : bin2 Tryz.prog .neq 23 xo yo x.e y.e = some (vb (!decide (x = y))) :=
 bin2_lit (u := .agg #[.int .i64 x.Mask, .int .i64 x.Bits]) (v := .agg #[.int .i64 y.Mask, .int .i64 y.Bits]) rfl rfl (fun w => by simp [eqGuard, T_Cube.run_neq]) rfl
abbrev sh_Cube : Sh := .st (.cons (Sh.int .i64) (.cons (Sh.int .i64) .nil))
def T_Cube.wf (B : Nat) (x : T_Cube) : Prop := wi64 x.Mask ∧ wi64 x.Bits
theorem T_Cube.of {B : Nat} {xs : List V} (h : (sh_Cube).ok B xs) : ∃ a : T_Cube, xs = a.c ∧ a.wf B := by
 obtain ⟨_, _, rfl, h0, _, _, rfl, h1, rfl⟩ := h
 obtain ⟨a0, rfl, w0⟩ := of_i64 h0
 obtain ⟨a1, rfl, w1⟩ := of_i64 h1
 exact ⟨⟨a0, a1⟩, rfl, w0, w1⟩
structure T_Rule where
 Prio : Int
 Cube : T_Cube
 Out : Int
 Set : Int
 Value : Int
 deriving DecidableEq, Inhabited
def T_Rule.c (x : T_Rule) : List V := [(vi x.Prio), (vi x.Cube.Mask), (vi x.Cube.Bits), (vi x.Out), (vi x.Set), (vi x.Value)]
def T_Rule.e (x : T_Rule) : V := .agg x.c
theorem T_Rule.ext_iff2 (x y : T_Rule) : x = y ↔ x.Prio = y.Prio ∧ x.Cube.Mask = y.Cube.Mask ∧ x.Cube.Bits = y.Cube.Bits ∧ x.Out = y.Out ∧ x.Set = y.Set ∧ x.Value = y.Value := by
 obtain ⟨_, ⟨_, _⟩, _, _, _⟩ := x; obtain ⟨_, ⟨_, _⟩, _, _, _⟩ := y; simp; try simp [and_assoc]
theorem T_Rule.run_eql (x y : T_Rule) (w : World) : (binOp .eql 25 (.agg #[.int .i64 x.Prio, .int .i64 x.Cube.Mask, .int .i64 x.Cube.Bits, .int .i64 x.Out, .int .i64 x.Set, .int .i64 x.Value]) (.agg #[.int .i64 y.Prio, .int .i64 y.Cube.Mask, .int .i64 y.Cube.Bits, .int .i64 y.Out, .int .i64 y.Set, .int .i64 y.Value])).run Tryz.prog w = .ok (.bool (decide (x = y))) w := by
 rw [run_eql_struct]
 simp [go_sem]
 by_cases e : x = y
 ·subst e; simp
 ·rw [decide_eq_false e]
  have h := mt (T_Rule.ext_iff2 x y).2 e
  by_cases h0 : ¬ x.Prio = y.Prio
  ·exact if_neg h0
  have h0 := Classical.not_not.1 h0
  rw [if_pos h0]
  by_cases h1 : ¬ x.Cube.Mask = y.Cube.Mask
  ·exact if_neg h1
  have h1 := Classical.not_not.1 h1
  rw [if_pos h1]
  by_cases h2 : ¬ x.Cube.Bits = y.Cube.Bits
  ·exact if_neg h2
  have h2 := Classical.not_not.1 h2
  rw [if_pos h2]
  by_cases h3 : ¬ x.Out = y.Out
  ·exact if_neg h3
  have h3 := Classical.not_not.1 h3
  rw [if_pos h3]
  by_cases h4 : ¬ x.Set = y.Set
  ·exact if_neg h4
  have h4 := Classical.not_not.1 h4
  rw [if_pos h4]
  by_cases h5 : ¬ x.Value = y.Value
  ·exact if_neg h5
  have h5 := Classical.not_not.1 h5
  rw [if_pos h5]
  exact absurd ⟨h0, h1, h2, h3, h4, h5⟩ h
theorem T_Rule.eql (x y : T_Rule) {xo yo : Operand} : bin2 Tryz.prog .eql 25 xo yo x.e y.e = some (vb (decide (x = y))) :=
 bin2_lit (u := .agg #[.int .i64 x.Prio, .int .i64 x.Cube.Mask, .int .i64 x.Cube.Bits, .int .i64 x.Out, .int .i64 x.Set, .int .i64 x.Value]) (v := .agg #[.int .i64 y.Prio, .int .i64 y.Cube.Mask, .int .i64 y.Cube.Bits, .int .i64 y.Out, .int .i64 y.Set, .int .i64 y.Value]) rfl rfl (fun w => by simp [eqGuard, T_Rule.run_eql]) rfl
theorem T_Rule.run_neq (x y : T_Rule) (w : World) : (binOp .neq 25 (.agg #[.int .i64 x.Prio, .int .i64 x.Cube.Mask, .int .i64 x.Cube.Bits, .int .i64 x.Out, .int .i64 x.Set, .int .i64 x.Value]) (.agg #[.int .i64 y.Prio, .int .i64 y.Cube.Mask, .int .i64 y.Cube.Bits, .int .i64 y.Out, .int .i64 y.Set, .int .i64 y.Value])).run Tryz.prog w = .ok (.bool (!decide (x = y))) w := by
 rw [run_neq_struct]
 simp [go_sem]
 by_cases e : x = y
 ·subst e; simp
 ·rw [decide_eq_false e]
  have h := mt (T_Rule.ext_iff2 x y).2 e
  by_cases h0 : ¬ x.Prio = y.Prio
  ·exact if_neg h0
  have h0 := Classical.not_not.1 h0
  rw [if_pos h0]
  by_cases h1 : ¬ x.Cube.Mask = y.Cube.Mask
  ·exact if_neg h1
  have h1 := Classical.not_not.1 h1
  rw [if_pos h1]
  by_cases h2 : ¬ x.Cube.Bits = y.Cube.Bits
  ·exact if_neg h2
  have h2 := Classical.not_not.1 h2
  rw [if_pos h2]
  by_cases h3 : ¬ x.Out = y.Out
  ·exact if_neg h3
  have h3 := Classical.not_not.1 h3
  rw [if_pos h3]
  by_cases h4 : ¬ x.Set = y.Set
  ·exact if_neg h4
  have h4 := Classical.not_not.1 h4
  rw [if_pos h4]
  by_cases h5 : ¬ x.Value = y.Value
  ·exact if_neg h5
  have h5 := Classical.not_not.1 h5
  rw [if_pos h5]
  exact absurd ⟨h0, h1, h2, h3, h4, h5⟩ h
theorem T_Rule.neq (x y : T_Rule) {xo yo : Operand} : bin2 Tryz.prog .neq 25 xo yo x.e y.e = some (vb (!decide (x = y))) :=
 bin2_lit (u := .agg #[.int .i64 x.Prio, .int .i64 x.Cube.Mask, .int .i64 x.Cube.Bits, .int .i64 x.Out, .int .i64 x.Set, .int .i64 x.Value]) (v := .agg #[.int .i64 y.Prio, .int .i64 y.Cube.Mask, .int .i64 y.Cube.Bits, .int .i64 y.Out, .int .i64 y.Set, .int .i64 y.Value]) rfl rfl (fun w => by simp [eqGuard, T_Rule.run_neq]) rfl
abbrev sh_Rule : Sh := .st (.cons (Sh.int .i64) (.cons sh_Cube (.cons (Sh.int .i64) (.cons (Sh.int .i64) (.cons (Sh.int .i64) .nil)))))
def T_Rule.wf (B : Nat) (x : T_Rule) : Prop := wi64 x.Prio ∧ T_Cube.wf B x.Cube ∧ wi64 x.Out ∧ wi64 x.Set ∧ wi64 x.Value
theorem T_Rule.of {B : Nat} {xs : List V} (h : (sh_Rule).ok B xs) : ∃ a : T_Rule, xs = a.c ∧ a.wf B := by
 obtain ⟨_, _, rfl, h0, _, _, rfl, h1, _, _, rfl, h2, _, _, rfl, h3, _, _, rfl, h4, rfl⟩ := h
 obtain ⟨a0, rfl, w0⟩ := of_i64 h0
 obtain ⟨a1, rfl, w1⟩ := T_Cube.of h1
 obtain ⟨a2, rfl, w2⟩ := of_i64 h2
 obtain ⟨a3, rfl, w3⟩ := of_i64 h3
 obtain ⟨a4, rfl, w4⟩ := of_i64 h4
 exact ⟨⟨a0, a1, a2, a3, a4⟩, rfl, w0, w1, w2, w3, w4⟩
structure T_Net where
 Topo : T_Topo
 Tables : (List (List T_Rule))
 deriving Inhabited
def T_Net.c (x : T_Net) : List V := [(vi x.Topo.Switches), (V.sl (List.map T_Link.c x.Topo.Links)), (V.sl (List.map T_Host.c x.Topo.Hosts)), (V.sl (List.map (cS T_Rule.c) x.Tables))]
def T_Net.e (x : T_Net) : V := .agg x.c
abbrev sh_Net : Sh := .st (.cons sh_Topo (.cons (Sh.sl (Sh.sl sh_Rule)) .nil))
def T_Net.wf (B : Nat) (x : T_Net) : Prop := T_Topo.wf B x.Topo ∧ wL B (fun x => wL B (fun x => T_Rule.wf B x) x) x.Tables
theorem T_Net.of {B : Nat} {xs : List V} (h : (sh_Net).ok B xs) : ∃ a : T_Net, xs = a.c ∧ a.wf B := by
 obtain ⟨_, _, rfl, h0, _, _, rfl, h1, rfl⟩ := h
 obtain ⟨a0, rfl, w0⟩ := T_Topo.of h0
 obtain ⟨a1, rfl, w1⟩ := (of_sl (of_sl T_Rule.of)) h1
 exact ⟨⟨a0, a1⟩, rfl, w0, w1⟩
structure T_Fate where
 How : Int
 Host : ByteArray
 Hops : (List T_Hop)
 deriving Inhabited
def T_Fate.c (x : T_Fate) : List V := [(vi x.How), (vt x.Host), (V.sl (List.map T_Hop.c x.Hops))]
def T_Fate.e (x : T_Fate) : V := .agg x.c
abbrev sh_Fate : Sh := .st (.cons (Sh.int .i64) (.cons Sh.str (.cons (Sh.sl sh_Hop) .nil)))
def T_Fate.wf (B : Nat) (x : T_Fate) : Prop := wi64 x.How ∧ wS B x.Host ∧ wL B (fun x => T_Hop.wf B x) x.Hops
theorem T_Fate.of {B : Nat} {xs : List V} (h : (sh_Fate).ok B xs) : ∃ a : T_Fate, xs = a.c ∧ a.wf B := by
 obtain ⟨_, _, rfl, h0, _, _, rfl, h1, _, _, rfl, h2, rfl⟩ := h
 obtain ⟨a0, rfl, w0⟩ := of_i64 h0
 obtain ⟨a1, rfl, w1⟩ := of_str h1
 obtain ⟨a2, rfl, w2⟩ := (of_sl T_Hop.of) h2
 exact ⟨⟨a0, a1, a2⟩, rfl, w0, w1, w2⟩
structure T_PProof where
 Wish : Int
 From : ByteArray
 Header : Int
 deriving DecidableEq, Inhabited
def T_PProof.c (x : T_PProof) : List V := [(vi x.Wish), (vt x.From), (vi x.Header)]
def T_PProof.e (x : T_PProof) : V := .agg x.c
theorem T_PProof.ext_iff2 (x y : T_PProof) : x = y ↔ x.Wish = y.Wish ∧ x.From = y.From ∧ x.Header = y.Header := by
 obtain ⟨_, _, _⟩ := x; obtain ⟨_, _, _⟩ := y; simp
theorem T_PProof.run_eql (x y : T_PProof) (w : World) : (binOp .eql 78 (.agg #[.int .i64 x.Wish, .string x.From, .int .i64 x.Header]) (.agg #[.int .i64 y.Wish, .string y.From, .int .i64 y.Header])).run Tryz.prog w = .ok (.bool (decide (x = y))) w := by
 rw [run_eql_struct]
 simp [go_sem, str_iff]
 by_cases e : x = y
 ·subst e; simp
 ·rw [decide_eq_false e]
  have h := mt (T_PProof.ext_iff2 x y).2 e
  by_cases h0 : ¬ x.Wish = y.Wish
  ·exact if_neg h0
  have h0 := Classical.not_not.1 h0
  rw [if_pos h0]
  by_cases h1 : ¬ x.From = y.From
  ·exact if_neg h1
  have h1 := Classical.not_not.1 h1
  rw [if_pos h1]
  by_cases h2 : ¬ x.Header = y.Header
  ·exact if_neg h2
  have h2 := Classical.not_not.1 h2
  rw [if_pos h2]
  exact absurd ⟨h0, h1, h2⟩ h
theorem T_PProof.eql (x y : T_PProof) {xo yo : Operand} : bin2 Tryz.prog .eql 78 xo yo x.e y.e = some (vb (decide (x = y))) :=
 bin2_lit (u := .agg #[.int .i64 x.Wish, .string x.From, .int .i64 x.Header]) (v := .agg #[.int .i64 y.Wish, .string y.From, .int .i64 y.Header]) rfl rfl (fun w => by simp [eqGuard, T_PProof.run_eql]) rfl
theorem T_PProof.run_neq (x y : T_PProof) (w : World) : (binOp .neq 78 (.agg #[.int .i64 x.Wish, .string x.From, .int .i64 x.Header]) (.agg #[.int .i64 y.Wish, .string y.From, .int .i64 y.Header])).run Tryz.prog w = .ok (.bool (!decide (x = y))) w := by
 rw [run_neq_struct]
 simp [go_sem, str_iff]
 by_cases e : x = y
 ·subst e; simp
 ·rw [decide_eq_false e]
  have h := mt (T_PProof.ext_iff2 x y).2 e
  by_cases h0 : ¬ x.Wish = y.Wish
  ·exact if_neg h0
  have h0 := Classical.not_not.1 h0
  rw [if_pos h0]
  by_cases h1 : ¬ x.From = y.From
  ·exact if_neg h1
  have h1 := Classical.not_not.1 h1
  rw [if_pos h1]
  by_cases h2 : ¬ x.Header = y.Header
  ·exact if_neg h2
  have h2 := Classical.not_not.1 h2
  rw [if_pos h2]
  exact absurd ⟨h0, h1, h2⟩ h
theorem T_PProof.neq (x y : T_PProof) {xo yo : Operand} : bin2 Tryz.prog .neq 78 xo yo x.e y.e = some (vb (!decide (x = y))) :=
 bin2_lit (u := .agg #[.int .i64 x.Wish, .string x.From, .int .i64 x.Header]) (v := .agg #[.int .i64 y.Wish, .string y.From, .int .i64 y.Header]) rfl rfl (fun w => by simp [eqGuard, T_PProof.run_neq]) rfl
abbrev sh_PProof : Sh := .st (.cons (Sh.int .i64) (.cons Sh.str (.cons (Sh.int .i64) .nil)))
def T_PProof.wf (B : Nat) (x : T_PProof) : Prop := wi64 x.Wish ∧ wS B x.From ∧ wi64 x.Header
theorem T_PProof.of {B : Nat} {xs : List V} (h : (sh_PProof).ok B xs) : ∃ a : T_PProof, xs = a.c ∧ a.wf B := by
 obtain ⟨_, _, rfl, h0, _, _, rfl, h1, _, _, rfl, h2, rfl⟩ := h
 obtain ⟨a0, rfl, w0⟩ := of_i64 h0
 obtain ⟨a1, rfl, w1⟩ := of_str h1
 obtain ⟨a2, rfl, w2⟩ := of_i64 h2
 exact ⟨⟨a0, a1, a2⟩, rfl, w0, w1, w2⟩
end Go.Proofs.YtilbgbhpdjjliaaGreatDoor.Ty
