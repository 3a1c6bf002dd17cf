/- What the row's list gives a seat of texts: the words of wishes; a world for the witness. -/
import Derived.Test.YtikfnpemmcmioaaDoorDenWords
import Derived.Test.YtikfnpemmcmioaaDoorRows
import Derived.LaidLaws
import Derived.LaidHandle
import Derived.MakeChecks
import Derived.ChangeArms
import Derived.OpenShut
import Derived.FnData
import Derived.Lib.LaidU8
import Derived.Stop.Joined
namespace Go.Proofs.YtikfnpemmcmioaaDoor
open Go.ChangeShapes Go.WideShapes Go.RowKit
set_option maxRecDepth 100000

theorem own_ : ownKnob Tryd.prog.godebug = none := by kernel_rfl
/-- the list of the given rows -/
def doorList (H : Type) : List (String × DataW H) := [("math/bits.deBruijn32tab", Rows.laid_math_bits_deBruijn32tab), ("math/bits.deBruijn64tab", Rows.laid_math_bits_deBruijn64tab), ("internal/strconv.uint64pow10", Rows.laid_internal_strconv_uint64pow10), ("railpoint/wish.words", Rows.laid_railpoint_wish_words)]
theorem k_ww : Tryd.prog.globalNamed "railpoint/wish.words" = some 0 := by kernel_rfl
theorem k_wt : (Tryd.prog.globals[0]?).map (·.type) = some 65 := by kernel_rfl
theorem ba_of_list {s : ByteArray} {l : List UInt8} (h : s.data.toList = l) : s = ⟨l.toArray⟩ := by subst h; rfl
theorem door_of_laid {W : World} (h : laidMetH Tryd.prog (doorList Unit) W) : Den.DW W := by
  rw [MakeChecks.laidMetH_plain _ _ _ (by kernel_rfl)] at h
  obtain ⟨g, t, cs, fuel, p, hg, ht, hv, hd⟩ := Lib.laidMet.reads h (n := "railpoint/wish.words") (d := Rows.laid_railpoint_wish_words) (.tail _ (.tail _ (.tail _ (.head _))))
  obtain rfl := Option.some.inj (k_ww.symm.trans hg)
  obtain rfl := Option.some.inj (k_wt.symm.trans ht)
  have c1 : Tryd.prog.cellsOf 9 = 1 := by kernel_rfl
  have c5 : Tryd.prog.cellsOf 65 = 5 := by kernel_rfl
  obtain ⟨xs, m, _, ex, hlen, hl, hel⟩ := DataW.trod_array Tryd.underlying65 hd
  rw [c5] at hlen
  have hcell := fun i => World.var?_cell k_ww hv i
  obtain ⟨l⟩ := cs
  match l, hlen with
  | [a, b, c, d, e], _ =>
    match xs, hl with
    | [x0, x1, x2, x3, x4], _ =>
      have e3 := (DataW.agg.inj (Prod.mk.inj ex).1)
      simp only [List.map_cons, List.map_nil, List.cons.injEq, and_true] at e3
      obtain ⟨q0, q1, q2, q3, q4⟩ := e3
      have k0 := hel 0 (by omega); have k1 := hel 1 (by omega); have k2 := hel 2 (by omega); have k3 := hel 3 (by omega); have k4 := hel 4 (by omega)
      rw [c1] at k0 k1 k2 k3 k4
      obtain ⟨s0, a0, b0, _⟩ := DataW.trod_string Tryd.underlying9 k0
      obtain ⟨s1, a1, b1, _⟩ := DataW.trod_string Tryd.underlying9 k1
      obtain ⟨s2, a2, b2, _⟩ := DataW.trod_string Tryd.underlying9 k2
      obtain ⟨s3, a3, b3, _⟩ := DataW.trod_string Tryd.underlying9 k3
      obtain ⟨s4, a4, b4, _⟩ := DataW.trod_string Tryd.underlying9 k4
      simp at a0 a1 a2 a3 a4 b0 b1 b2 b3 b4
      subst a0; subst a1; subst a2; subst a3; subst a4
      subst b0; subst b1; subst b2; subst b3; subst b4
      simp at q0 q1 q2 q3 q4
      intro j hj
      rw [hcell j]
      match j, hj with
      | 0, _ => show some (Value.string s0) = _; rw [show s0 = ⟨#[]⟩ from congrArg ByteArray.mk q0]; rfl
      | 1, _ => show some (Value.string s1) = _; rw [ba_of_list q1.symm]; rfl
      | 2, _ => show some (Value.string s2) = _; rw [ba_of_list q2.symm]; rfl
      | 3, _ => show some (Value.string s3) = _; rw [ba_of_list q3.symm]; rfl
      | 4, _ => show some (Value.string s4) = _; rw [ba_of_list q4.symm]; rfl

/-- the cells of a list of literals -/
def litsV : DataW Unit → Array Value
  | .agg l => (l.map fun x => match x with
    | .lit (.int k z) => Value.int k z
    | .lit (.string s) => Value.string ⟨s.toArray⟩
    | _ => undef).toArray
  | _ => #[]
/-- a world that meets the list: the settled one, the cells laid -/
noncomputable def laidWorld (os : Os) : World :=
  let w0 := World.holding Tryd.prog os ⟨#[], #[], []⟩
  { w0 with heap := (doorList Unit).foldl (fun h x => h.modify ((Tryd.prog.globalNamed x.1).getD 0) fun
      | .cells _ t frozen => .cells (litsV x.2) t frozen
      | o => o) w0.heap }
theorem laidWorld_met (os : Os) (args : Array Value) : laidMetH Tryd.prog (doorList Unit) ((laidWorld os).forCall (fun _ _ => 0) ⟨#[], args, []⟩).memory := by
  rw [MakeChecks.laidMetH_plain _ _ _ (by kernel_rfl)]
  exact laidMet_of_run' 8 (by kernel_rfl) (by kernel_rfl)
end Go.Proofs.YtikfnpemmcmioaaDoor
