/- What the row's list gives a seat of rules' texts with errors.As: the handle of error, the words of wishes, strconv's table and errors, bytealg's bound; a world for the witness. -/
import Derived.Test.YtilbgbhpdjjliaaGreatDoorShelfT
import Derived.Test.YtilbgbhpdjjliaaGreatDoorToldWalk
import Derived.Test.YtilbgbhpdjjliaaGreatDoorDenGreatW
import Derived.Lib.LaidU8
import Derived.ChangeArms
import Derived.Test.YtilbgbhpdjjliaaGreatDoorRows
import Derived.LaidLaws
import Derived.LaidHandle
import Derived.MakeChecks
import Derived.OpenShut
import Derived.FnData
import Derived.LaidMore
import Derived.Lay
import Derived.LaidOnce
import Derived.Lib.LaidTab
import Derived.Stop.LaidErr
import Derived.Stop.Joined
namespace Go.Proofs.YtilbgbhpdjjliaaGreatDoor
open Go.ChangeShapes Go.WideShapes Go.RowKit
set_option maxRecDepth 100000
theorem own_ : ownKnob Tryz.prog.godebug = none := by kernel_rfl
theorem k_et : Tryz.prog.globalNamed "errors.errorType" = some 1 := by kernel_rfl
theorem k_rt : (Tryz.prog.cutTypes.find? (·.1 == "internal/reflectlite.rtype")).map (·.2) = some 184 := by kernel_rfl
theorem k_oneRow : ((List.range 268).filter fun t => Tryz.prog.rowNamed t [101, 114, 114, 111, 114]) = [31] := by kernel_rfl
theorem k_ntypes : Tryz.prog.types.size = 268 := by kernel_rfl
def doorList (_ : Type) : List (String × DataW Unit) := [("math/bits.deBruijn32tab", Rows.laid_math_bits_deBruijn32tab), ("math/bits.deBruijn64tab", Rows.laid_math_bits_deBruijn64tab), ("internal/strconv.uint64pow10", Rows.laid_internal_strconv_uint64pow10), ("unicode/utf8.acceptRanges", Rows.laid_unicode_utf8_acceptRanges), ("errors.errorType", Rows.laid_errors_errorType), ("strconv.ErrRange", Rows.laid_strconv_ErrRange), ("strconv.ErrSyntax", Rows.laid_strconv_ErrSyntax), ("railpoint/wish.words", Rows.laid_railpoint_wish_words), ("unicode/utf8.first", Rows.laid_unicode_utf8_first)]
def dataList : List (String × DataW Unit) := [("math/bits.deBruijn32tab", Rows.laid_math_bits_deBruijn32tab), ("math/bits.deBruijn64tab", Rows.laid_math_bits_deBruijn64tab), ("internal/strconv.uint64pow10", Rows.laid_internal_strconv_uint64pow10), ("unicode/utf8.acceptRanges", Rows.laid_unicode_utf8_acceptRanges), ("strconv.ErrRange", Rows.laid_strconv_ErrRange), ("strconv.ErrSyntax", Rows.laid_strconv_ErrSyntax), ("railpoint/wish.words", Rows.laid_railpoint_wish_words), ("unicode/utf8.first", Rows.laid_unicode_utf8_first)]
theorem k_ww : Tryz.prog.globalNamed "railpoint/wish.words" = some 0 := by kernel_rfl
theorem k_wt : (Tryz.prog.globals[0]?).map (·.type) = some 111 := by kernel_rfl
theorem ba_of_list {s : ByteArray} {l : List UInt8} (h : s.data.toList = l) : s = ⟨l.toArray⟩ := by subst h; rfl
theorem words_of_laid {W : World} (h : laidMet Tryz.prog dataList W) : ∀ j, j < 5 → W.cell? ⟨0, j, none⟩ = some (.string (Den.wordsL.getD j ⟨#[]⟩)) := by
 obtain ⟨g, t, cs, fuel, p, hg, ht, hv, hd⟩ := Lib.laidMet.reads h (n := "railpoint/wish.words") (d := Rows.laid_railpoint_wish_words) (.tail _ (.tail _ (.tail _ (.tail _ (.tail _ (.tail _ (.head _)))))))
 obtain rfl := Option.some.inj (k_ww.symm.trans hg)
 obtain rfl := Option.some.inj (k_wt.symm.trans ht)
 have c1 : Tryz.prog.cellsOf 9 = 1 := by kernel_rfl
 have c5 : Tryz.prog.cellsOf 111 = 5 := by kernel_rfl
 obtain ⟨xs, m, _, ex, hlen, hl, hel⟩ := DataW.trod_array Tryz.underlying111 hd
 rw [c5] at hlen
 have hcell := fun i => World.var?_cell k_ww hv i
 obtain ⟨l⟩ := cs
 match l, hlen with
 | [a, b, c, d, e], _ =>
  match xs, hl with
  | [x0, x1, x2, x3, x4], _ =>
   have e3 := (DataW.agg.inj (Prod.mk.inj ex).1)
   simp only [List.map_cons, List.map_nil, List.cons.injEq, and_true] at e3
   obtain ⟨q0, q1, q2, q3, q4⟩ := e3
   have k0 := hel 0 (by omega); have k1 := hel 1 (by omega); have k2 := hel 2 (by omega); have k3 := hel 3 (by omega); have k4 := hel 4 (by omega)
   rw [c1] at k0 k1 k2 k3 k4
   obtain ⟨s0, a0, b0, _⟩ := DataW.trod_string Tryz.underlying9 k0
   obtain ⟨s1, a1, b1, _⟩ := DataW.trod_string Tryz.underlying9 k1
   obtain ⟨s2, a2, b2, _⟩ := DataW.trod_string Tryz.underlying9 k2
   obtain ⟨s3, a3, b3, _⟩ := DataW.trod_string Tryz.underlying9 k3
   obtain ⟨s4, a4, b4, _⟩ := DataW.trod_string Tryz.underlying9 k4
   simp at a0 a1 a2 a3 a4 b0 b1 b2 b3 b4
   subst a0; subst a1; subst a2; subst a3; subst a4
   subst b0; subst b1; subst b2; subst b3; subst b4
   simp at q0 q1 q2 q3 q4
   intro j hj
   rw [hcell j]
   match j, hj with
   | 0, _ => show some (Value.string s0) = _; rw [show s0 = ⟨#[]⟩ from congrArg ByteArray.mk q0]; rfl
   | 1, _ => show some (Value.string s1) = _; rw [ba_of_list q1.symm]; rfl
   | 2, _ => show some (Value.string s2) = _; rw [ba_of_list q2.symm]; rfl
   | 3, _ => show some (Value.string s3) = _; rw [ba_of_list q3.symm]; rfl
   | 4, _ => show some (Value.string s4) = _; rw [ba_of_list q4.symm]; rfl
theorem starE : "*" ++ "errors.errorString" = "*errors.errorString" := by decide
theorem rowE (u : TypeId) (h : Tryz.prog.typeName? 3 u = some "*errors.errorString") : u = 235 :=
 typeName_ptr_named (nm := "errors.errorString") (by rw [starE]; kernel_rfl) (by kernel_rfl) (by decide) u (by rw [starE]; exact h)
theorem door_of_laid {W : World} (h0 : laidMetH Tryz.prog (doorList Unit) W) (hsh : W.ShapedOpen Tryz.prog) : Den.DW W := by
 have h' : laidMet Tryz.prog dataList W ∧ handlesMet Tryz.prog [("errors.errorType", Rows.laid_errors_errorType)] W := h0
 clear h0
 have hdoor : Door W := by
  obtain ⟨name, u, ty, e1, e2, e3, e4, e5⟩ := h'.2 _ (List.mem_singleton.2 rfl)
  have en : name = [101, 114, 114, 111, 114] := (Option.some.inj e1).symm
  subst en
  obtain rfl := Option.some.inj (k_rt.symm.trans e2)
  have hm : ty ∈ (List.range 268).filter fun t => Tryz.prog.rowNamed t [101, 114, 114, 111, 114] := List.mem_filter.2 ⟨List.mem_range.2 (by rw [← k_ntypes]; exact e3), e4⟩
  rw [k_oneRow] at hm
  obtain rfl := List.mem_singleton.1 hm
  have hh : typeHandle Tryz.prog 31 = .pointer (some ⟨10, 31, none⟩) := by kernel_rfl
  rw [hh] at e5
  unfold Door
  simpa using World.var?_cell k_et e5 0
 have h := h'.1
 clear h'
 have cE : Tryz.prog.cellsOf 237 = 1 := by kernel_rfl
 have cS : Tryz.prog.cellsOf 9 = 1 := by kernel_rfl
 obtain ⟨a0, s0, hv0, -, -, -⟩ := laid_sentinel h.tail.tail.tail.tail (show Tryz.prog.globalNamed "strconv.ErrRange" = some 5 by kernel_rfl) (show (Tryz.prog.globals[5]?).map (·.type) = some 31 by kernel_rfl) Tryz.underlying31 rowE Tryz.underlying235 Tryz.underlying237 rfl rfl Tryz.underlying9 cE cS
 obtain ⟨a1, s1, hv1, -, -, -⟩ := laid_sentinel h.tail.tail.tail.tail.tail (show Tryz.prog.globalNamed "strconv.ErrSyntax" = some 4 by kernel_rfl) (show (Tryz.prog.globals[4]?).map (·.type) = some 31 by kernel_rfl) Tryz.underlying31 rowE Tryz.underlying235 Tryz.underlying237 rfl rfl Tryz.underlying9 cE cS
 have c0 := World.var?_cell (show Tryz.prog.globalNamed "strconv.ErrRange" = some 5 by kernel_rfl) hv0 0
 have c1 := World.var?_cell (show Tryz.prog.globalNamed "strconv.ErrSyntax" = some 4 by kernel_rfl) hv1 0
 exact ⟨hdoor, Lib.tabIs_of_head (zs := Lib.pow10Tab) (k := .u64) (show Tryz.prog.globalNamed "internal/strconv.uint64pow10" = some 2 by kernel_rfl) (show (Tryz.prog.globals[2]?).map (·.type) = some 216 by kernel_rfl) Tryz.underlying216 Tryz.underlying198 (by kernel_rfl) (by kernel_rfl) (by rw [show Lib.tabData .u64 Lib.pow10Tab = Rows.laid_internal_strconv_uint64pow10 by kernel_rfl]; exact h.tail.tail), ⟨_, _, by simpa using c1⟩, ⟨_, _, by simpa using c0⟩, words_of_laid h, Den.lSplit.s1_3 W hsh⟩
noncomputable def baseWorld (os : Os) : World :=
 let w0 := World.holding Tryz.prog os ⟨#[], #[], []⟩
 { w0 with heap := w0.heap.modify 1 fun
   | .cells _ t frozen => .cells #[.iface 184 (.agg #[.pointer (some ⟨10, 31, none⟩)])] t frozen
   | o => o }
noncomputable def laidWorld (os : Os) : World := (baseWorld os).layVars Tryz.prog dataList
theorem data_met (os : Os) : laidMet Tryz.prog dataList (laidWorld os) :=
 laidMet_layVars (w0 := baseWorld os) (dataList.map (·.1)) [] (by rw [show (dataList.filter fun x => (dataList.map (·.1)).contains x.1) = dataList by kernel_rfl]; rfl) (by kernel_rfl) (by kernel_rfl) (by rw [show (dataList.filter fun x => !(dataList.map (·.1)).contains x.1) = [] by kernel_rfl]; exact LaidIn.none)
theorem laidWorld_met (os : Os) (args : Array Value) : laidMetH Tryz.prog (doorList Unit) ((laidWorld os).forCall (fun _ _ => 0) ⟨#[], args, []⟩).memory :=
 laidMetH_of_parts (by
  show laidMet Tryz.prog dataList _
  exact (data_met os).of_heap (by simp [World.memory, World.forCall, Input.heap])) (by kernel_rfl)
end Go.Proofs.YtilbgbhpdjjliaaGreatDoor
