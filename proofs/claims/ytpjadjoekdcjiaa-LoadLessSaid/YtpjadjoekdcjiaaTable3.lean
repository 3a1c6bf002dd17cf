/- What table.All, Diff, Same come to. -/
import Derived.Test.YtpjadjoekdcjiaaTable2
namespace Go.Proofs.Ytpjadjoekdcjiaa
open Go.RowKit
set_option maxRecDepth 100000
set_option linter.unusedSimpArgs false
set_option linter.unusedVariables false

/-- an op, and its cells -/
structure Opx where
  s : Int
  add : Bool
  r : Rl
deriving DecidableEq
instance : Inhabited Opx := ⟨⟨0, false, default⟩⟩
def Opx.cells (x : Opx) : List Value := [.int .i64 x.s, .bool x.add, .int .i64 x.r.p, .int .i64 x.r.m, .int .i64 x.r.b, .int .i64 x.r.o, .int .i64 x.r.s, .int .i64 x.r.v]
def Ops (w : World) (A : Option Addr) (c : Nat) (l : List Opx) : Prop := RowC w 8 A l.length c (l.map Opx.cells)
theorem Ops.below {w w' : World} {A : Option Addr} {c : Nat} {l : List Opx} (h : Ops w A c l) (hb : Below w.heap.size w w') : Ops w' A c l := RowC.below h hb
theorem Ops.le {w : World} {A : Option Addr} {c : Nat} {l : List Opx} (h : Ops w A c l) : l.length ≤ c := h.2.1
theorem Ops.at_ {w : World} {A : Option Addr} {c : Nat} {l : List Opx} (h : Ops w A c l) {i : Nat} (hi : i < l.length) : ∃ b o, A = some ⟨b, o, none⟩ ∧ b < w.heap.size ∧
    w.cell? ⟨b, o + i * 8, none⟩ = some (.int .i64 l[i].s) ∧ w.cell? ⟨b, o + i * 8 + 1, none⟩ = some (.bool l[i].add) ∧ w.cell? ⟨b, o + i * 8 + 2, none⟩ = some (.int .i64 l[i].r.p) ∧
    w.cell? ⟨b, o + i * 8 + 3, none⟩ = some (.int .i64 l[i].r.m) ∧ w.cell? ⟨b, o + i * 8 + 4, none⟩ = some (.int .i64 l[i].r.b) ∧ w.cell? ⟨b, o + i * 8 + 5, none⟩ = some (.int .i64 l[i].r.o) ∧
    w.cell? ⟨b, o + i * 8 + 6, none⟩ = some (.int .i64 l[i].r.s) ∧ w.cell? ⟨b, o + i * 8 + 7, none⟩ = some (.int .i64 l[i].r.v) := by
  obtain ⟨b, o, cs, e, hlt, hx, hc⟩ := RowC.at_ h hi
  rw [List.getElem?_map, List.getElem?_eq_getElem hi] at hx
  simp only [Option.map_some, Option.some.injEq] at hx
  subst hx
  exact ⟨b, o, e, hlt, hc 0 _ rfl, hc 1 _ rfl, hc 2 _ rfl, hc 3 _ rfl, hc 4 _ rfl, hc 5 _ rfl, hc 6 _ rfl, hc 7 _ rfl⟩
theorem el_op : Elem Try.prog 44 65 8 64 := elem_of (z := .agg #[.int .i64 0, .bool false, .int .i64 0, .int .i64 0, .int .i64 0, .int .i64 0, .int .i64 0, .int .i64 0]) Try.underlying44 (by kernel_rfl) rfl (by omega)
theorem Owns.ops {w : World} {base e : Nat} {v : Value} {l : List Opx} (h : Owns w base e 8 v (l.map Opx.cells)) : ∃ A c, v = .slice A l.length c ∧ Ops w A c l := by
  obtain ⟨A, c, rfl, hr⟩ := h.row
  rw [List.length_map] at hr ⊢
  exact ⟨A, c, rfl, hr⟩
theorem ops_one (l : List Opx) : ∀ cs ∈ l.map Opx.cells, ∀ u ∈ cs, u.oneCell' = true := by
  intro cs hcs
  obtain ⟨x, -, rfl⟩ := List.mem_map.1 hcs
  simp [Opx.cells, Value.oneCell']

/-- rules of one that another one has not -/
def lacks (a b : List Rl) (add : Bool) : List Opx := a.filterMap fun r => if (b.any fun x => decide (r = x)) = true then none else some ⟨0, add, r⟩
theorem lacks_le (a b : List Rl) (add : Bool) : (lacks a b add).length ≤ a.length := List.length_filterMap_le _ _
theorem lacks_take {a b : List Rl} {add : Bool} {k : Nat} (hk : k < a.length) : lacks (a.take (k + 1)) b add = lacks (a.take k) b add ++ if (b.any fun x => decide (a[k] = x)) = true then [] else [⟨0, add, a[k]⟩] := by
  unfold lacks
  rw [List.take_succ_eq_append_getElem hk, List.filterMap_append]
  congr 1
  rw [List.filterMap_cons, List.filterMap_nil]
  by_cases h : (b.any fun x => decide (a[k] = x)) = true
  · rw [if_pos h, if_pos h]
  · rw [if_neg h, if_neg h]
theorem lacks_none {a b : List Rl} {add : Bool} {k : Nat} (hk : k < a.length) (h : (b.any fun x => decide (a[k] = x)) = true) : lacks (a.take (k + 1)) b add = lacks (a.take k) b add := by
  rw [lacks_take hk, if_pos h, List.append_nil]
theorem lacks_one {a b : List Rl} {add : Bool} {k : Nat} (hk : k < a.length) (h : (b.any fun x => decide (a[k] = x)) = false) : lacks (a.take (k + 1)) b add = lacks (a.take k) b add ++ [⟨0, add, a[k]⟩] := by
  rw [lacks_take hk, if_neg (by rw [h]; exact Bool.false_ne_true)]

def RetT0 (l : List Rl) (er : Value) (w : World) (e : Ending) (w' : World) : Prop := ∃ A c, e = .returned (.tuple #[.slice A l.length c, er]) ∧ Rules w' A c l ∧ Below w.heap.size w w'
theorem RetT0.bad {l : List Rl} {w w' : World} {er : Value} (hl : l = []) (hb : Below w.heap.size w w') : RetT0 l er w (.returned (.tuple #[.slice none 0 0, er])) w' := by
  subst hl; exact ⟨none, 0, rfl, RowC.none_ _ _, hb⟩
def RetOps (l : List Opx) (w : World) (e : Ending) (w' : World) : Prop := ∃ v, e = .returned v ∧ Owns w' w.heap.size 65 8 v (l.map Opx.cells) ∧ Below w.heap.size w w'

/-- the fault of two tables -/
def t2chk (a b : List Rl) : Int := if tchk a ≠ 0 then tchk a else tchk b
theorem t2chk_0 {a b : List Rl} (h : t2chk a b = 0) : tchk a = 0 ∧ tchk b = 0 := by
  unfold t2chk at h
  by_cases h1 : tchk a = 0
  · rw [if_neg (by simpa using h1)] at h; exact ⟨h1, h⟩
  · rw [if_pos h1] at h; exact absurd h h1

/-- what is between two tables -/
def tdiff (a b : List Rl) : List Opx := lacks a b false ++ lacks b a true
def RetOpsV (l : List Opx) (er : Value) (w : World) (e : Ending) (w' : World) : Prop := ∃ v, e = .returned (.tuple #[v, er]) ∧ Owns w' w.heap.size 65 8 v (l.map Opx.cells) ∧ Below w.heap.size w w'
theorem nil_len (l : List Opx) : decide ((l.length : Int) = 0) = l.isEmpty := by cases l <;> simp; omega
/-! ### table.All -/
/-- one op behind another one: the fault, or the table -/
def tallF (t : List Rl) : List Opx → Int
  | [] => 0
  | o :: r => if tdoF t o.add o.r ≠ 0 then tdoF t o.add o.r else tallF (tdoR t o.add o.r) r
def tallR (t : List Rl) : List Opx → List Rl
  | [] => t
  | o :: r => tallR (tdoR t o.add o.r) r
/-- the table behind all ops: none, if one can't be done -/
def tallV (t : List Rl) (l : List Opx) : List Rl := if tchk t = 0 ∧ tallF t l = 0 then tallR t l else []
def tallE (t : List Rl) (l : List Opx) : Int := if tchk t ≠ 0 then tchk t else tallF t l
theorem tallF_step {t : List Rl} {l : List Opx} {k : Nat} (h : k < l.length) : tallF t (l.drop k) = if tdoF t l[k].add l[k].r ≠ 0 then tdoF t l[k].add l[k].r else tallF (tdoR t l[k].add l[k].r) (l.drop (k + 1)) := by
  rw [List.drop_eq_getElem_cons h]; rfl
theorem tallR_step {t : List Rl} {l : List Opx} {k : Nat} (h : k < l.length) : tallR t (l.drop k) = tallR (tdoR t l[k].add l[k].r) (l.drop (k + 1)) := by
  rw [List.drop_eq_getElem_cons h]; rfl

end Go.Proofs.Ytpjadjoekdcjiaa
