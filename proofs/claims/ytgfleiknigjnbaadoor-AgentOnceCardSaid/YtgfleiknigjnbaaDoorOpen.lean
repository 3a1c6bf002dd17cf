/- Arguments read as data: what shape the values have. -/
import Derived.Test.YtgfleiknigjnbaaDoorPlain
import Derived.Test.YtgfleiknigjnbaaDoorRows
import Derived.ProofKit
import Derived.OpenShut
import Derived.ShutString
import Derived.Below
import Derived.Deep.Slices
namespace Go.Proofs.YtgfleiknigjnbaaDoor
open Go.ChangeShapes Go.WideShapes Go.RowKit
open Go.ChangeMaps (open_string shut_string)
set_option linter.unusedSimpArgs false
set_option linter.unusedVariables false

theorem own : ownKnob Tryd.prog.godebug = none := by kernel_rfl
theorem laidOut : laidOutB Tryd.prog = true := by kernel_rfl

/-- an int of 64 bits -/
def I64 (n : Int) : Prop := -9223372036854775808 ≤ n ∧ n ≤ 9223372036854775807
theorem i64_of_wf {n : Int} (h : (Lit.int .i64 n).wf = true) : I64 n := by
  simpa [Lit.wf, IntKind.min, IntKind.max, IntKind.signed, IntKind.bits, I64] using h

section
variable {H : Type} {enc : TypeId × Value → H} {w : World} {base : Nat} {spare : Nat → Bool} {held : Bool}
theorem fld {t : TypeId} {fs : Array Field} {fuel : Nat} {cs : List Value} {x : DataW H × List MemPlace} (hs : Tryd.prog.underlying t = some (.struct fs))
    (h : DataW.trod enc Tryd.prog w base spare held fuel t cs = some x) (i : Nat) (T off k : Nat) (hf : (fs[i]?).map (fun f => (f.type, f.offset)) = some (T, off)) (hk : Tryd.prog.cellsOf T = k) :
    ∃ n y, DataW.trod enc Tryd.prog w base spare held n T ((cs.drop off).take k) = some y := by
  obtain ⟨xs, n, -, -, -, hlen, hg⟩ := DataW.trod_struct hs h
  obtain ⟨f, hf1, hf2⟩ := Option.map_eq_some_iff.1 hf
  simp only [Prod.mk.injEq] at hf2
  obtain ⟨rfl, rfl⟩ := hf2
  have hi : i < fs.size := (Array.getElem?_eq_some_iff.1 hf1).1
  have h1 := hg i f hf1
  rw [List.getElem?_eq_getElem (by omega), hk] at h1
  exact ⟨n, _, h1⟩
theorem len_struct {t : TypeId} {fs : Array Field} {fuel : Nat} {cs : List Value} {x : DataW H × List MemPlace} (hs : Tryd.prog.underlying t = some (.struct fs))
    (h : DataW.trod enc Tryd.prog w base spare held fuel t cs = some x) : cs.length = Tryd.prog.cellsOf t := (DataW.trod_struct hs h).choose_spec.choose_spec.2.2.1
theorem int_of_trod {fuel : Nat} {c : Value} {x : DataW H × List MemPlace} (h : DataW.trod enc Tryd.prog w base spare held fuel 3 [c] = some x) : ∃ n, c = .int .i64 n ∧ I64 n := by
  obtain ⟨n, e, -, hw⟩ := DataW.trod_int Tryd.underlying3 h
  exact ⟨n, by simpa using e, i64_of_wf hw⟩
theorem cells_int : Tryd.prog.cellsOf 3 = 1 := by kernel_rfl
theorem cells_cube : Tryd.prog.cellsOf 33 = 2 := by kernel_rfl

theorem cube_of_trod {fuel : Nat} {cs : List Value} {x : DataW H × List MemPlace} (h : DataW.trod enc Tryd.prog w base spare held fuel 33 cs = some x) :
    ∃ m b, cs = [.int .i64 m, .int .i64 b] ∧ I64 m ∧ I64 b := by
  have hl := len_struct Tryd.underlying33 h
  rw [cells_cube] at hl
  match cs, hl with
  | [c0, c1], _ =>
    obtain ⟨_, _, h0⟩ := fld Tryd.underlying33 h 0 3 0 1 rfl cells_int
    obtain ⟨_, _, h1⟩ := fld Tryd.underlying33 h 1 3 1 1 rfl cells_int
    simp only [List.drop_zero, List.drop_succ_cons, List.take_succ_cons, List.take_zero] at h0 h1
    obtain ⟨m, rfl, hm⟩ := int_of_trod h0
    obtain ⟨b, rfl, hb⟩ := int_of_trod h1
    exact ⟨m, b, rfl, hm, hb⟩
set_option maxRecDepth 100000 in
theorem open_cube {r : Reach} {b0 : Nat} {v : Value} {d : DataW H} {p : List MemPlace} (hv : Value.okWide Tryd.prog w r b0 33 v) (h : DataW.Trod enc Tryd.prog w base spare held 33 v d p) :
    ∃ m b, v = .agg #[.int .i64 m, .int .i64 b] ∧ I64 m ∧ I64 b := by
  obtain ⟨cs, rfl, -⟩ := okWide_struct Tryd.underlying33 hv
  obtain ⟨fuel, hf⟩ := h
  obtain ⟨m, b, e, h1, h2⟩ := cube_of_trod hf
  refine ⟨m, b, ?_, h1, h2⟩
  obtain ⟨l⟩ := cs
  simp only [Value.cells] at e
  rw [e]
theorem cells_rule : Tryd.prog.cellsOf 35 = 6 := by kernel_rfl
theorem rule_of_trod {fuel : Nat} {cs : List Value} {x : DataW H × List MemPlace} (h : DataW.trod enc Tryd.prog w base spare held fuel 35 cs = some x) :
    ∃ p m b o s v, cs = [.int .i64 p, .int .i64 m, .int .i64 b, .int .i64 o, .int .i64 s, .int .i64 v] ∧ I64 p ∧ I64 m ∧ I64 b ∧ I64 o ∧ I64 s ∧ I64 v := by
  have hl := len_struct Tryd.underlying35 h
  rw [cells_rule] at hl
  match cs, hl with
  | [c0, c1, c2, c3, c4, c5], _ =>
    obtain ⟨_, _, h0⟩ := fld Tryd.underlying35 h 0 3 0 1 rfl cells_int
    obtain ⟨_, _, h1⟩ := fld Tryd.underlying35 h 1 33 1 2 rfl cells_cube
    obtain ⟨_, _, h2⟩ := fld Tryd.underlying35 h 2 3 3 1 rfl cells_int
    obtain ⟨_, _, h3⟩ := fld Tryd.underlying35 h 3 3 4 1 rfl cells_int
    obtain ⟨_, _, h4⟩ := fld Tryd.underlying35 h 4 3 5 1 rfl cells_int
    simp only [List.drop_zero, List.drop_succ_cons, List.take_succ_cons, List.take_zero] at h0 h1 h2 h3 h4
    obtain ⟨p, rfl, hp⟩ := int_of_trod h0
    obtain ⟨m, b, e, hm, hb⟩ := cube_of_trod h1
    obtain ⟨o, rfl, ho⟩ := int_of_trod h2
    obtain ⟨s, rfl, hs⟩ := int_of_trod h3
    obtain ⟨v, rfl, hv⟩ := int_of_trod h4
    simp only [List.cons.injEq, and_true] at e
    obtain ⟨rfl, rfl⟩ := e
    exact ⟨p, m, b, o, s, v, rfl, hp, hm, hb, ho, hs, hv⟩
set_option maxRecDepth 100000 in
theorem open_rule {r : Reach} {b0 : Nat} {v : Value} {d : DataW H} {p : List MemPlace} (hv : Value.okWide Tryd.prog w r b0 35 v) (h : DataW.Trod enc Tryd.prog w base spare held 35 v d p) :
    ∃ p m b o s x, v = .agg #[.int .i64 p, .int .i64 m, .int .i64 b, .int .i64 o, .int .i64 s, .int .i64 x] ∧ I64 p ∧ I64 m ∧ I64 b ∧ I64 o ∧ I64 s ∧ I64 x := by
  obtain ⟨cs, rfl, -⟩ := okWide_struct Tryd.underlying35 hv
  obtain ⟨fuel, hf⟩ := h
  obtain ⟨p, m, b, o, s, x, e, hh⟩ := rule_of_trod hf
  refine ⟨p, m, b, o, s, x, ?_, hh⟩
  obtain ⟨l⟩ := cs
  simp only [Value.cells] at e
  rw [e]
end
end Go.Proofs.YtgfleiknigjnbaaDoor
