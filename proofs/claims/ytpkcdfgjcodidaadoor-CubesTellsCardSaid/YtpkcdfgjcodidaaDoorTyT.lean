/- Structures of the program's types, written by a program. -/
import Derived.Test.YtpkcdfgjcodidaaDoorTy
import Derived.Test.YtpkcdfgjcodidaaDoorVcS
namespace Go.Proofs.YtpkcdfgjcodidaaDoor.Ty
open Go Go.RowKit Go.Proofs.YtpkcdfgjcodidaaDoor.Den
set_option linter.unusedVariables false
set_option linter.unusedSimpArgs false
set_option maxRecDepth 100000

structure T_Cube where
  Mask : Int
  Bits : Int
  deriving DecidableEq, Inhabited
def T_Cube.c (x : T_Cube) : List V := [(vi x.Mask), (vi x.Bits)]
def T_Cube.e (x : T_Cube) : V := .agg x.c
theorem T_Cube.ext_iff2 (x y : T_Cube) : x = y ↔ x.Mask = y.Mask ∧ x.Bits = y.Bits := by
  obtain ⟨_, _⟩ := x; obtain ⟨_, _⟩ := y; simp
theorem T_Cube.run_eql (x y : T_Cube) (w : World) : (binOp .eql 23 (.agg #[.int .i64 x.Mask, .int .i64 x.Bits]) (.agg #[.int .i64 y.Mask, .int .i64 y.Bits])).run Tryd.prog w = .ok (.bool (decide (x = y))) w := by
  rw [run_eql_struct]
  simp [go_sem]
  by_cases e : x = y
  · subst e; simp
  · rw [decide_eq_false e]
    have h := mt (T_Cube.ext_iff2 x y).2 e
    by_cases h0 : ¬ x.Mask = y.Mask
    · exact if_neg h0
    have h0 := Classical.not_not.1 h0
    rw [if_pos h0]
    by_cases h1 : ¬ x.Bits = y.Bits
    · exact if_neg h1
    have h1 := Classical.not_not.1 h1
    rw [if_pos h1]
    exact absurd ⟨h0, h1⟩ h
theorem T_Cube.eql (x y : T_Cube) {xo yo : Operand} : bin2 Tryd.prog .eql 23 xo yo x.e y.e = some (vb (decide (x = y))) :=
  bin2_lit (u := .agg #[.int .i64 x.Mask, .int .i64 x.Bits]) (v := .agg #[.int .i64 y.Mask, .int .i64 y.Bits]) rfl rfl (fun w => by simp [eqGuard, T_Cube.run_eql]) rfl
theorem T_Cube.run_neq (x y : T_Cube) (w : World) : (binOp .neq 23 (.agg #[.int .i64 x.Mask, .int .i64 x.Bits]) (.agg #[.int .i64 y.Mask, .int .i64 y.Bits])).run Tryd.prog w = .ok (.bool (!decide (x = y))) w := by
  rw [run_neq_struct]
  simp [go_sem]
  by_cases e : x = y
  · subst e; simp
  · rw [decide_eq_false e]
    have h := mt (T_Cube.ext_iff2 x y).2 e
    by_cases h0 : ¬ x.Mask = y.Mask
    · exact if_neg h0
    have h0 := Classical.not_not.1 h0
    rw [if_pos h0]
    by_cases h1 : ¬ x.Bits = y.Bits
    · exact if_neg h1
    have h1 := Classical.not_not.1 h1
    rw [if_pos h1]
    exact absurd ⟨h0, h1⟩ h
theorem T_Cube.neq (x y : T_Cube) {xo yo : Operand} : bin2 Tryd.prog .neq 23 xo yo x.e y.e = some (vb (!decide (x = y))) :=
  bin2_lit (u := .agg #[.int .i64 x.Mask, .int .i64 x.Bits]) (v := .agg #[.int .i64 y.Mask, .int .i64 y.Bits]) rfl rfl (fun w => by simp [eqGuard, T_Cube.run_neq]) rfl
abbrev sh_Cube : Sh := .st (.cons (Sh.int .i64) (.cons (Sh.int .i64) .nil))
def T_Cube.wf (B : Nat) (x : T_Cube) : Prop := wi64 x.Mask ∧ wi64 x.Bits
theorem T_Cube.of {B : Nat} {xs : List V} (h : (sh_Cube).ok B xs) : ∃ a : T_Cube, xs = a.c ∧ a.wf B := by
  obtain ⟨_, _, rfl, h0, _, _, rfl, h1, rfl⟩ := h
  obtain ⟨a0, rfl, w0⟩ := of_i64 h0
  obtain ⟨a1, rfl, w1⟩ := of_i64 h1
  exact ⟨⟨a0, a1⟩, rfl, w0, w1⟩

end Go.Proofs.YtpkcdfgjcodidaaDoor.Ty
