/- Cubes, rules, ops and messages as trees; their shapes. -/
import Derived.Test.YtedgcbcphlonpaaDoorWirePlain
import Derived.Test.YtedgcbcphlonpaaDoorShape
namespace Go.Proofs.YtedgcbcphlonpaaDoor.Sem
open Go Go.RowKit Go.Proofs.YtedgcbcphlonpaaDoor.Den
set_option linter.unusedSimpArgs false
set_option linter.unusedVariables false

abbrev cubeSh : Sh := .st (.cons (.int .i64) (.cons (.int .i64) .nil))
abbrev ruleSh : Sh := .st (.cons (.int .i64) (.cons cubeSh (.cons (.int .i64) (.cons (.int .i64) (.cons (.int .i64) .nil)))))
abbrev opSh : Sh := .st (.cons (.int .i64) (.cons .bool (.cons ruleSh .nil)))
abbrev msgSh : Sh := .st (.cons (.int .i64) (.cons (.int .i64) (.cons (.int .i64) (.cons (.int .i64) (.cons opSh .nil)))))
theorem cube_of {B : Nat} {xs : List V} (h : cubeSh.ok B xs) : ∃ c : Cb, xs = [vi c.m, vi c.b] ∧ I64 c.m ∧ I64 c.b := by
  obtain ⟨_, _, rfl, ⟨m, rfl, hm⟩, _, _, rfl, ⟨b, rfl, hb⟩, rfl⟩ := h
  exact ⟨⟨m, b⟩, rfl, i64_of_wf hm, i64_of_wf hb⟩
theorem rule_of {B : Nat} {xs : List V} (h : ruleSh.ok B xs) : ∃ r : Rl, xs = [vi r.p, vi r.m, vi r.b, vi r.o, vi r.s, vi r.v] ∧ I64 r.p ∧ I64 r.m ∧ I64 r.b ∧ I64 r.o ∧ I64 r.s ∧ I64 r.v := by
  obtain ⟨_, _, rfl, ⟨p, rfl, hp⟩, _, _, rfl, hc, _, _, rfl, ⟨o, rfl, ho⟩, _, _, rfl, ⟨s, rfl, hs⟩, _, _, rfl, ⟨v, rfl, hv⟩, rfl⟩ := h
  obtain ⟨⟨m, b⟩, rfl, hm, hb⟩ := cube_of hc
  exact ⟨⟨p, m, b, o, s, v⟩, rfl, i64_of_wf hp, hm, hb, i64_of_wf ho, i64_of_wf hs, i64_of_wf hv⟩
theorem op_of {B : Nat} {xs : List V} (h : opSh.ok B xs) : ∃ x : Opx, xs = [vi x.s, vb x.add, vi x.r.p, vi x.r.m, vi x.r.b, vi x.r.o, vi x.r.s, vi x.r.v] ∧ I64 x.s := by
  obtain ⟨_, _, rfl, ⟨s, rfl, hs⟩, _, _, rfl, ⟨a, rfl⟩, _, _, rfl, hr, rfl⟩ := h
  obtain ⟨r, rfl, -⟩ := rule_of hr
  exact ⟨⟨s, a, r⟩, rfl, i64_of_wf hs⟩
theorem msg_of {B : Nat} {xs : List V} (h : msgSh.ok B xs) : ∃ x : Mg, xs = [vi x.k, vi x.s, vi x.r, vi x.i, vi x.o.s, vb x.o.add, vi x.o.r.p, vi x.o.r.m, vi x.o.r.b, vi x.o.r.o, vi x.o.r.s, vi x.o.r.v] := by
  obtain ⟨_, _, rfl, ⟨k, rfl, hk⟩, _, _, rfl, ⟨s, rfl, hs⟩, _, _, rfl, ⟨r, rfl, hr⟩, _, _, rfl, ⟨i, rfl, hi⟩, _, _, rfl, ho, rfl⟩ := h
  obtain ⟨o, rfl, -⟩ := op_of ho
  exact ⟨⟨k, s, r, i, o⟩, rfl⟩
theorem int_of {B : Nat} {xs : List V} (h : (Sh.int .i64).ok B xs) : ∃ n, xs = [vi n] ∧ I64 n := by
  obtain ⟨n, rfl, hn⟩ := h
  exact ⟨n, rfl, i64_of_wf hn⟩
theorem byte_of {B : Nat} {xs : List V} (h : (Sh.int .u8).ok B xs) : ∃ n, xs = [.lit (.int .u8 n)] ∧ 0 ≤ n ∧ n < 256 := by
  obtain ⟨n, rfl, hn⟩ := h
  refine ⟨n, rfl, ?_⟩
  simp [Lit.wf, IntKind.min, IntKind.max, IntKind.signed, IntKind.bits] at hn
  omega
theorem str_of {B : Nat} {xs : List V} (h : (Sh.str).ok B xs) : ∃ s : ByteArray, xs = [vt s] ∧ s.size ≤ B := h
theorem bool_of {B : Nat} {xs : List V} (h : (Sh.bool).ok B xs) : ∃ b, xs = [vb b] := h
/-- a slice whose elements are all of one form -/
theorem sl_of {B : Nat} {e : Sh} {α : Type} {f : α → List V} (hf : ∀ {xs}, e.ok B xs → ∃ a, xs = f a) {xs : List V} (h : (Sh.sl e).ok B xs) : ∃ l : List α, xs = [.sl (l.map f)] ∧ l.length ≤ B := by
  obtain ⟨rows, rfl, hl, hr⟩ := h
  have : ∃ l : List α, rows = l.map f := by
    clear hl
    induction rows with
    | nil => exact ⟨[], rfl⟩
    | cons r rows ih =>
      obtain ⟨a, rfl⟩ := hf (hr r (by simp))
      obtain ⟨l, rfl⟩ := ih fun q hq => hr q (by simp [hq])
      exact ⟨a :: l, rfl⟩
  obtain ⟨l, rfl⟩ := this
  exact ⟨l, rfl, by simpa using hl⟩
theorem relL_nil {M : Mem} : RelL M [] [] := ⟨rfl, fun i x h => by simp at h⟩
theorem relL_cons {M : Mem} {v : Value} {x : V} {vs : List Value} {xs : List V} (h : Rel M v x) (k : RelL M vs xs) : RelL M (v :: vs) (x :: xs) :=
  ⟨by simp [k.1], fun i y hy => by
    cases i with
    | zero => simp at hy; subst hy; simpa using h
    | succ i => simpa using k.2 i y (by simpa using hy)⟩
/-- a law that the reader shows true, as the row asks it -/
theorem law_calls {P : Program} {Dw : World → Prop} {f : FuncId} {xs : List V} {W : World} {args : Array Value} (h : SCalls P Dw f xs (.lit (.bool true))) (hd : Dw W) (hr : RelL (wmem W) args.toList xs) :
    Calls P f args W fun e W' => e = .returned (.bool true) ∧ Below W.heap.size W W' :=
  (h.2 W (wmem W) args hd (fun _ _ _ h => h) hr).mono fun e W' ⟨v, M', he, hg, hv⟩ => ⟨by rw [he, rel_val hv rfl], hg.below⟩
end Go.Proofs.YtedgcbcphlonpaaDoor.Sem
