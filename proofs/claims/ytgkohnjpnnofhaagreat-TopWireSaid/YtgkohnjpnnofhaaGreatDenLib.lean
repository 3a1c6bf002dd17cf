/- A reader of Go code in plain values: what the operations give on numbers, truth values, texts, lists. -/
import Derived.Test.YtgkohnjpnnofhaaGreatDen13
namespace Go.Proofs.YtgkohnjpnnofhaaGreat.Den
set_option linter.unusedSimpArgs false
set_option linter.unusedVariables false
set_option linter.unnecessarySimpa false
open Go.RowKit
abbrev vi (n : Int) : V := .lit (.int .i64 n)
abbrev vb (b : Bool) : V := .lit (.bool b)
abbrev vt (s : ByteArray) : V := .lit (.string s)
def pickB (b w : Bool) (x : V) : V := if b = w then x else .tup []
def guardB (b w : Bool) (y : Option V) : Option V := if b = w then y else some (.tup [])
def gateB (b w : Bool) (y : Option V) : Option V := if b = w then y else none
@[congr] theorem guardB_congr {b b' w w' : Bool} {y y' : Option V} (hb : b = b') (hw : w = w') (h : b' = w' → y = y') : guardB b w y = guardB b' w' y' := by
 subst hb hw
 unfold guardB
 by_cases e : b = w
 ·rw [if_pos e, if_pos e, h e]
 ·rw [if_neg e, if_neg e]
section
variable {P : Program} {t : TypeId} {xo yo : Operand} {a b : Int} {p q : Bool} {s r : ByteArray}
theorem bin2_of {op : BinOp} {x y z : V} {u v r : Value} (hx : x.val? = some u) (hy : y.val? = some v) (h : ∀ w, (do eqGuard op t xo yo u v; binOp op t u v : Sem Value).run P w = .ok r w) (hz : ofVal r = some z) : bin2 P op t xo yo x y = some z := by
 unfold bin2
 rw [hx, hy]
 simp only
 rw [pure?_of h]
 exact hz
theorem scal1_of {f : Value → Sem Value} {x z : V} {u r : Value} (hx : x.val? = some u) (h : ∀ w, (f u).run P w = .ok r w) (hz : ofVal r = some z) : scal1 P f x = some z := by
 unfold scal1
 rw [hx]
 simp only
 rw [pure?_of h]
 exact hz
theorem scal2_of {f : Value → Value → Sem Value} {x y z : V} {u v r : Value} (hx : x.val? = some u) (hy : y.val? = some v) (h : ∀ w, (f u v).run P w = .ok r w) (hz : ofVal r = some z) : scal2 P f x y = some z := by
 unfold scal2
 rw [hx, hy]
 simp only
 rw [pure?_of h]
 exact hz
theorem bin2_lit {op : BinOp} {x y : V} {u v r : Value} (hx : x.val? = some u) (hy : y.val? = some v) (h : ∀ w, (do eqGuard op t xo yo u v; binOp op t u v : Sem Value).run P w = .ok r w) (hz : ofVal r = some (.lit r)) : bin2 P op t xo yo x y = some (.lit r) := bin2_of hx hy h hz
theorem scal1_lit {f : Value → Sem Value} {x : V} {u r : Value} (hx : x.val? = some u) (h : ∀ w, (f u).run P w = .ok r w) (hz : ofVal r = some (.lit r)) : scal1 P f x = some (.lit r) := scal1_of hx h hz
theorem d_add : bin2 P .add t xo yo (vi a) (vi b) = some (vi (IntKind.i64.wrap (a + b))) := bin2_lit rfl rfl (fun w => by simp [eqGuard, binOp, Op.intArith]) rfl
theorem d_sub : bin2 P .sub t xo yo (vi a) (vi b) = some (vi (IntKind.i64.wrap (a - b))) := bin2_lit rfl rfl (fun w => by simp [eqGuard, binOp, Op.intArith]) rfl
theorem d_eql : bin2 P .eql t xo yo (vi a) (vi b) = some (vb (decide (a = b))) := bin2_lit rfl rfl (fun w => by simp [eqGuard, binOp, Op.intCmp]; rfl) rfl
theorem d_neq : bin2 P .neq t xo yo (vi a) (vi b) = some (vb (decide (a ≠ b))) := bin2_lit rfl rfl (fun w => by simp [eqGuard, binOp, Op.intCmp, bne]; rfl) rfl
theorem d_lss : bin2 P .lss t xo yo (vi a) (vi b) = some (vb (decide (a < b))) := bin2_lit rfl rfl (fun w => by simp [eqGuard, binOp, Op.intCmp]) rfl
theorem d_leq : bin2 P .leq t xo yo (vi a) (vi b) = some (vb (decide (a ≤ b))) := bin2_lit rfl rfl (fun w => by simp [eqGuard, binOp, Op.intCmp]) rfl
theorem d_gtr : bin2 P .gtr t xo yo (vi a) (vi b) = some (vb (decide (b < a))) := bin2_lit rfl rfl (fun w => by simp [eqGuard, binOp, Op.intCmp]) rfl
theorem d_geq : bin2 P .geq t xo yo (vi a) (vi b) = some (vb (decide (b ≤ a))) := bin2_lit rfl rfl (fun w => by simp [eqGuard, binOp, Op.intCmp]) rfl
theorem d_andNot : bin2 P .andNot t xo yo (vi a) (vi b) = some (vi (bits .andNot .i64 a b)) := bin2_lit rfl rfl (fun w => by simp [eqGuard, binOp, go_sem]) rfl
theorem d_rem (h : b ≠ 0) : bin2 P .rem t xo yo (vi a) (vi b) = some (vi (a.tmod b)) := bin2_lit rfl rfl (fun w => by simp [eqGuard, binOp, Op.intDiv, h]) rfl
theorem d_eql_str : bin2 P .eql t xo yo (vt s) (vt r) = some (vb (s.toList == r.toList)) := bin2_lit rfl rfl (fun w => by simp [eqGuard, binOp, Op.stringOp]) rfl
theorem d_neq_str : bin2 P .neq t xo yo (vt s) (vt r) = some (vb (!(s.toList == r.toList))) := bin2_lit rfl rfl (fun w => by simp [eqGuard, binOp, Op.stringOp]) rfl
theorem d_add_str (h : s.size + r.size ≤ 9223372036854775807) : bin2 P .add t xo yo (vt s) (vt r) = some (vt (s ++ r)) := bin2_lit rfl rfl (fun w => by simp [eqGuard, binOp, Op.stringOp]; omega) rfl
theorem d_not : scal1 P (Op.unary .not) (vb p) = some (vb (!p)) := scal1_lit rfl (fun w => by simp [Op.unary]) rfl
theorem d_app {k : Nat} {rows ys : List (List V)} (h1 : ys.all (fun r => decide (r.length = k)) = true) (h2 : rows.length + ys.length ≤ 4294967296) : appV k rows (.sl ys) = some (.sl (rows ++ ys)) := by
 simp only [appV, appR, h1, h2, and_self, if_true, Option.map_some]
theorem d_mkI {t : TypeId} {v : Value} (h : P.underlying t = some (.int .i64)) : scal1 P (Instr.makeInterface t) (.lit v) = some (.lit (.iface t v)) := scal1_lit rfl (fun w => by simp [Instr.makeInterface, run_underlying h]) rfl
theorem wrap_id {x : Int} (h1 : -9223372036854775808 ≤ x) (h2 : x ≤ 9223372036854775807) : IntKind.i64.wrap x = x := IntWalk.i64_in _ ⟨h1, h2⟩
theorem d_slc_hi {k h : Nat} {rows : List (List V)} (hr : rows.all (fun r => decide (r.length = k)) = true) (h1 : h ≤ rows.length) : slc (some k) (.sl rows) none (some (vi (h : Int))) = some (.sl (rows.take h)) := by
 simp [slc, boundL, hr, h1]
theorem str_beq (s r : ByteArray) : (s.toList == r.toList) = decide (s = r) := by
 rw [Bool.eq_iff_iff, beq_iff_eq, decide_eq_true_iff, ByteArray.toList_eq, ByteArray.toList_eq]
 constructor
 ·intro h
  have : s.data = r.data := Array.toList_inj.1 h
  cases s; cases r; simp only at this; rw [this]
 ·intro h; rw [h]
def bAt (s : ByteArray) (j : Nat) : Int := ((s.data.toList.getD j 0).toNat : Int)
theorem bAt_range (s : ByteArray) (j : Nat) : 0 ≤ bAt s j ∧ bAt s j < 256 := by
 unfold bAt
 have := (s.data.toList.getD j 0).toNat_lt
 omega
theorem d_index (h : P.underlying t = some .string) {k : IntKind} {i : Int} (h0 : 0 ≤ i) (h1 : i < s.size) : scal2 P (Instr.index t) (vt s) (.lit (.int k i)) = some (.lit (.int .u8 (bAt s i.toNat))) := by
 refine scal2_of rfl rfl (r := .int .u8 (bAt s i.toNat)) (fun w => ?_) rfl
 rw [run_index_string w t s k i h, dif_pos ⟨h0, h1⟩]
 have h2 : i.toNat < s.size := by omega
 have e : (s[i.toNat]'h2) = s.data.toList.getD i.toNat 0 := by
  have h3 : i.toNat < s.data.toList.length := by rw [Array.length_toList]; exact h2
  rw [List.getD_eq_getElem?_getD, gE_ h3]
  simp [ByteArray.getElem_eq_getElem_data]
 rw [e]
 rfl
theorem wrap_u8_id {x : Int} (h1 : 0 ≤ x) (h2 : x < 256) : IntKind.u8.wrap x = x := IntWalk.u8_in _ ⟨h1, by omega⟩
abbrev brow (x : Int) : List V := [.lit (.int .u8 x)]
abbrev irow (x : Int) : List V := [vi x]
theorem bytesL_rows : ∀ xs : List Int, bytesL (xs.map brow) = some xs
 | [] => rfl
 | x :: xs => by
  show (byteOf (brow x)).bind (fun n => (bytesL (xs.map brow)).map (n :: ·)) = _
  rw [bytesL_rows xs]
  rfl
theorem d_b2s (xs : List Int) : b2s (.sl (xs.map brow)) = some (vt (strOfNums xs)) := by
 show (bytesL (xs.map brow)).map (fun xs => V.lit (.string (strOfNums xs))) = _
 rw [bytesL_rows]
 rfl
theorem d_slc_str_hi {n : Int} (h0 : 0 ≤ n) (h1 : n ≤ s.size) : slc none (vt s) none (some (vi n)) = some (vt (s.extract 0 n.toNat)) := by
 have : n.toNat ≤ s.size := by omega
 simp [slc, boundL, h0, this]
theorem d_slc_str_lo {n : Int} (h0 : 0 ≤ n) (h1 : n ≤ s.size) : slc none (vt s) (some (vi n)) none = some (vt (s.extract n.toNat s.size)) := by
 have : n.toNat ≤ s.size := by omega
 simp [slc, boundL, h0, this]
end
end Go.Proofs.YtgkohnjpnnofhaaGreat.Den
