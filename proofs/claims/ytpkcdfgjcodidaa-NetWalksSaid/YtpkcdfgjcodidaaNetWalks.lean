/- NetWalks: each hop of what becomes of a packet in a net is where the step ahead goes out, at the other end of the link; none is there twice; from any of its hops on it ends likewise. -/
import Derived.Test.YtpkcdfgjcodidaaOpen
import Derived.Test.YtpkcdfgjcodidaaSNetWalks
import Derived.Test.YtpkcdfgjcodidaaVcS
import Derived.JoinedCond
namespace Go.Proofs.Ytpkcdfgjcodidaa.lawNetWalks
open Go.ChangeShapes Go.WideShapes Go.ChangeAt Go.RowKit
open Go.Proofs.Ytpkcdfgjcodidaa.Den Go.Proofs.Ytpkcdfgjcodidaa.Ty
open Go.ChangeMaps (open_string shut_string)
set_option linter.unusedSimpArgs false
set_option linter.unusedVariables false

set_option maxRecDepth 100000 in
theorem contract (H : Type) (enc : TypeId × Value → H) (W : World) (base : Nat) (args : Array Value) (ds gs : List (DataW H)) (before : List MemPlace)
    (hval : ∀ (j : Nat) t v, Try.f6.params[j]? = some t → args[j]? = some v → Value.okWide Try.prog W .any base t v)
    (hW : DataW.Whole enc Try.prog Try.f6.params.toList Rows.netWalksSpec.vars false W args.toList ds gs before) :
    Calls Try.prog 6 args W fun e W' => ∃ v, e = .returned v ∧ Rows.netWalksSpec.post enc Try.prog Try.f6 false true false false W args v W' := by
  have hW' := hW
  obtain ⟨p, q, hA0, hV, rfl, hfz, hnd⟩ := hW
  have hA : DataW.TrodAll enc Try.prog W 0 (fun _ => true) true Try.f6.params.toList args.toList ds p := hA0
  rw [Try.params6] at hA hval
  obtain ⟨v0, vs0, d0, ds0, p0, q0, hargs, rfl, rfl, h0, r0⟩ := trodAll_cons hA
  obtain ⟨v1, vs1, d1, ds1, p1, q1, rfl, rfl, rfl, h1, r1⟩ := trodAll_cons r0
  obtain ⟨v2, vs2, d2, ds2, p2, q2, rfl, rfl, rfl, h2, r2⟩ := trodAll_cons r1
  obtain ⟨v3, vs3, d3, ds3, p3, q3, rfl, rfl, rfl, h3, r3⟩ := trodAll_cons r2
  obtain ⟨rfl, rfl, rfl⟩ := trodAll_nil r3
  obtain rfl : args = #[v0, v1, v2, v3] := by cases args; simp_all
  obtain ⟨rfl, rfl⟩ := trodVars_none hV
  have k0 := h0
  have lt0 : ∀ x ∈ p0, x.block < W.heap.size := by obtain ⟨m, hm⟩ := k0; exact DataW.trod_lt m _ _ _ hm
  have k1 := h1
  have lt1 : ∀ x ∈ p1, x.block < W.heap.size := by obtain ⟨m, hm⟩ := k1; exact DataW.trod_lt m _ _ _ hm
  have k2 := h2
  have lt2 : ∀ x ∈ p2, x.block < W.heap.size := by obtain ⟨m, hm⟩ := k2; exact DataW.trod_lt m _ _ _ hm
  have k3 := h3
  have lt3 : ∀ x ∈ p3, x.block < W.heap.size := by obtain ⟨m, hm⟩ := k3; exact DataW.trod_lt m _ _ _ hm
  obtain ⟨x0, o0, e0⟩ := arg_of (sh := sh_Net) (B := maxLen) (by kernel_rfl) (hval 0 28 v0 rfl rfl) h0 (.inl (Nat.le_refl _))
  obtain ⟨a0, rfl, u0⟩ := T_Net.of o0
  obtain ⟨x1, o1, e1⟩ := arg_of (sh := sh_Spot) (B := maxLen) (by kernel_rfl) (hval 1 51 v1 rfl rfl) h1 (.inl (Nat.le_refl _))
  obtain ⟨a1, rfl, u1⟩ := T_Spot.of o1
  obtain ⟨x2, o2, e2⟩ := arg_of (sh := (Sh.int .i64)) (B := maxLen) (by kernel_rfl) (hval 2 3 v2 rfl rfl) h2 (.inl (Nat.le_refl _))
  obtain ⟨a2, rfl, u2⟩ := of_i64 o2
  obtain ⟨x3, o3, e3⟩ := arg_of (sh := (Sh.int .i64)) (B := maxLen) (by kernel_rfl) (hval 3 3 v3 rfl rfl) h3 (.inl (Nat.le_refl _))
  obtain ⟨a3, rfl, u3⟩ := of_i64 o3
  clear hA0
  refine (law_calls (ok_raillaw1_NetWalks bigN _ _ (ty_raillaw1_NetWalks (Nat.le_refl _) a0 a1 a2 a3 true (walk_NetWalks a0 a1 a2 a3 u0 u1 u2 u3))) trivial (relL_cons e0 (relL_cons e1 (relL_cons e2 (relL_cons e3 relL_nil))))).mono fun e W' ⟨he, bel⟩ => ?_
  subst he
  exact ⟨_, rfl, _, _, _, [], _, [], hW', trodAll_mk1 (shut_bool Try.underlying4 _), (trodAll_cons_mk (Below.trod laidOut (by kernel_rfl) (of_decide_eq_true (by kernel_rfl)) k0 bel lt0) (trodAll_cons_mk (Below.trod laidOut (by kernel_rfl) (of_decide_eq_true (by kernel_rfl)) k1 bel lt1) (trodAll_cons_mk (Below.trod laidOut (by kernel_rfl) (of_decide_eq_true (by kernel_rfl)) k2 bel lt2) (trodAll_cons_mk (Below.trod laidOut (by kernel_rfl) (of_decide_eq_true (by kernel_rfl)) k3 bel lt3) trodAll_mk0)))), rfl, bel.frame _, fun h => by cases h⟩

set_option maxRecDepth 100000 in
theorem lifted (os : Os) (started : os.Started) (H : Type) (enc : TypeId × Value → H) :
    ReturnsInHanded {} Try.checked os 6 .any (Rows.netWalksSpec.pre6 enc Try.prog Try.f6 Rows.netWalksRow.domain false) (Rows.netWalksSpec.post enc Try.prog Try.f6 false true false false) := by
  refine returnsInHanded_of_change (C := Try.checked) own started (by kernel_rfl) Try.func6
    (ChangeSpec.witness6 (enc := enc) (C := Try.checked) false ⟨#[], #[.agg #[.int .i64 0, .slice none 0 0, .slice none 0 0, .slice none 0 0], .agg #[.int .i64 0, .int .i64 0], .int .i64 0, .int .i64 0], []⟩ 8 (by kernel_rfl) (by kernel_rfl) (by kernel_rfl) (by kernel_rfl)) ?_
  intro W base args ds gs before hval0 hW hcnd _
  exact contract H enc W base args ds gs before hval0 hW

theorem over : Rows.netWalksRow.holds Try.pinned (OpenSpec.ofChange Rows.netWalksSpec) :=
  OpenClaim.holds_of_wide 6 Try.f6 rfl rfl rfl rfl rfl rfl rfl ⟨rfl, rfl, rfl, rfl, rfl⟩ rfl rfl rfl rfl rfl (by kernel_rfl) Try.func6 (by kernel_rfl)
    (of_decide_eq_true (by kernel_rfl)) (by unfold Func.isWrapper; first | (rw [if_pos (by decide +kernel)]; kernel_rfl) | (rw [if_neg (by decide +kernel)]; exact ⟨rfl, rfl⟩))
    (fun os started H enc _ => lifted os started H enc)

theorem proved : Rows.NetWalksSaid := over
end Go.Proofs.Ytpkcdfgjcodidaa.lawNetWalks
