/- A reader of Go code in plain values: what the operations give on numbers, truth values, texts, lists. -/
import Derived.Test.YtgfleiknigjnbaaDoorDen13
namespace Go.Proofs.YtgfleiknigjnbaaDoor.Den
open Go.RowKit
set_option linter.unusedSimpArgs false
set_option linter.unusedVariables false
set_option linter.unnecessarySimpa false

abbrev vi (n : Int) : V := .lit (.int .i64 n)
abbrev vb (b : Bool) : V := .lit (.bool b)
abbrev vt (s : ByteArray) : V := .lit (.string s)
/-! guards, without ways that part -/
def pickB (b w : Bool) (x : V) : V := if b = w then x else .tup []
def guardB (b w : Bool) (y : Option V) : Option V := if b = w then y else some (.tup [])
def gateB (b w : Bool) (y : Option V) : Option V := if b = w then y else none
theorem d_guardB {b w : Bool} {y : Option V} : guardV (vb b) w y = guardB b w y := by cases b <;> cases w <;> rfl
theorem d_gateB {b w : Bool} {y : Option V} : gate (vb b) w y = gateB b w y := by cases b <;> cases w <;> rfl
theorem d_guard_pick {b w w2 : Bool} {x : V} {y : Option V} : guardV (pickB b w x) w2 y = guardB b w (guardV x w2 y) := by cases b <;> cases w <;> rfl
theorem d_guard_some {b w : Bool} {x : V} : guardB b w (some x) = some (pickB b w x) := by cases b <;> cases w <;> rfl
theorem d_pickB_pos {b w : Bool} {x : V} (h : b = w) : pickB b w x = x := if_pos h
theorem d_gateB_pos {b w : Bool} {y : Option V} (h : b = w) : gateB b w y = y := if_pos h
theorem d_pickB_tt {x : V} : pickB true true x = x := rfl
theorem d_pickB_ff {x : V} : pickB false false x = x := rfl
theorem d_guardB_tt {y : Option V} : guardB true true y = y := rfl
theorem d_guardB_ff {y : Option V} : guardB false false y = y := rfl
theorem d_guardB_tf {y : Option V} : guardB true false y = some (.tup []) := rfl
theorem d_guardB_ft {y : Option V} : guardB false true y = some (.tup []) := rfl
theorem d_gateB_tt {y : Option V} : gateB true true y = y := rfl
theorem d_gateB_ff {y : Option V} : gateB false false y = y := rfl
theorem d_pickB_pick {b w b2 w2 : Bool} {x : V} : pickB b w (pickB b2 w2 x) = if b = w then pickB b2 w2 x else .tup [] := rfl
@[congr] theorem guardB_congr {b b' w w' : Bool} {y y' : Option V} (hb : b = b') (hw : w = w') (h : b' = w' → y = y') : guardB b w y = guardB b' w' y' := by
  subst hb hw
  unfold guardB
  by_cases e : b = w
  · rw [if_pos e, if_pos e, h e]
  · rw [if_neg e, if_neg e]
section
variable {P : Program} {t : TypeId} {xo yo : Operand} {a b : Int} {p q : Bool} {s r : ByteArray}
theorem bin2_of {op : BinOp} {x y z : V} {u v r : Value} (hx : x.val? = some u) (hy : y.val? = some v) (h : ∀ w, (do eqGuard op t xo yo u v; binOp op t u v : Sem Value).run P w = .ok r w) (hz : ofVal r = some z) : bin2 P op t xo yo x y = some z := by
  unfold bin2
  rw [hx, hy]
  simp only
  rw [pure?_of h]
  exact hz
theorem scal1_of {f : Value → Sem Value} {x z : V} {u r : Value} (hx : x.val? = some u) (h : ∀ w, (f u).run P w = .ok r w) (hz : ofVal r = some z) : scal1 P f x = some z := by
  unfold scal1
  rw [hx]
  simp only
  rw [pure?_of h]
  exact hz
theorem scal2_of {f : Value → Value → Sem Value} {x y z : V} {u v r : Value} (hx : x.val? = some u) (hy : y.val? = some v) (h : ∀ w, (f u v).run P w = .ok r w) (hz : ofVal r = some z) : scal2 P f x y = some z := by
  unfold scal2
  rw [hx, hy]
  simp only
  rw [pure?_of h]
  exact hz
theorem bin2_lit {op : BinOp} {x y : V} {u v r : Value} (hx : x.val? = some u) (hy : y.val? = some v) (h : ∀ w, (do eqGuard op t xo yo u v; binOp op t u v : Sem Value).run P w = .ok r w) (hz : ofVal r = some (.lit r)) : bin2 P op t xo yo x y = some (.lit r) := bin2_of hx hy h hz
theorem scal1_lit {f : Value → Sem Value} {x : V} {u r : Value} (hx : x.val? = some u) (h : ∀ w, (f u).run P w = .ok r w) (hz : ofVal r = some (.lit r)) : scal1 P f x = some (.lit r) := scal1_of hx h hz
theorem d_add : bin2 P .add t xo yo (vi a) (vi b) = some (vi (IntKind.i64.wrap (a + b))) := bin2_lit rfl rfl (fun w => by simp [eqGuard, binOp, Op.intArith]) rfl
theorem d_sub : bin2 P .sub t xo yo (vi a) (vi b) = some (vi (IntKind.i64.wrap (a - b))) := bin2_lit rfl rfl (fun w => by simp [eqGuard, binOp, Op.intArith]) rfl
theorem d_mul : bin2 P .mul t xo yo (vi a) (vi b) = some (vi (IntKind.i64.wrap (a * b))) := bin2_lit rfl rfl (fun w => by simp [eqGuard, binOp, Op.intArith]) rfl
theorem d_eql : bin2 P .eql t xo yo (vi a) (vi b) = some (vb (decide (a = b))) := bin2_lit rfl rfl (fun w => by simp [eqGuard, binOp, Op.intCmp]; rfl) rfl
theorem d_neq : bin2 P .neq t xo yo (vi a) (vi b) = some (vb (decide (a ≠ b))) := bin2_lit rfl rfl (fun w => by simp [eqGuard, binOp, Op.intCmp, bne]; rfl) rfl
theorem d_lss : bin2 P .lss t xo yo (vi a) (vi b) = some (vb (decide (a < b))) := bin2_lit rfl rfl (fun w => by simp [eqGuard, binOp, Op.intCmp]) rfl
theorem d_leq : bin2 P .leq t xo yo (vi a) (vi b) = some (vb (decide (a ≤ b))) := bin2_lit rfl rfl (fun w => by simp [eqGuard, binOp, Op.intCmp]) rfl
theorem d_gtr : bin2 P .gtr t xo yo (vi a) (vi b) = some (vb (decide (b < a))) := bin2_lit rfl rfl (fun w => by simp [eqGuard, binOp, Op.intCmp]) rfl
theorem d_geq : bin2 P .geq t xo yo (vi a) (vi b) = some (vb (decide (b ≤ a))) := bin2_lit rfl rfl (fun w => by simp [eqGuard, binOp, Op.intCmp]) rfl
theorem d_and : bin2 P .and t xo yo (vi a) (vi b) = some (vi (bits .and .i64 a b)) := bin2_lit rfl rfl (fun w => by simp [eqGuard, binOp, go_sem]) rfl
theorem d_or : bin2 P .or t xo yo (vi a) (vi b) = some (vi (bits .or .i64 a b)) := bin2_lit rfl rfl (fun w => by simp [eqGuard, binOp, go_sem]) rfl
theorem d_xor : bin2 P .xor t xo yo (vi a) (vi b) = some (vi (bits .xor .i64 a b)) := bin2_lit rfl rfl (fun w => by simp [eqGuard, binOp, go_sem]) rfl
theorem d_andNot : bin2 P .andNot t xo yo (vi a) (vi b) = some (vi (bits .andNot .i64 a b)) := bin2_lit rfl rfl (fun w => by simp [eqGuard, binOp, go_sem]) rfl
theorem d_rem (h : b ≠ 0) : bin2 P .rem t xo yo (vi a) (vi b) = some (vi (a.tmod b)) := bin2_lit rfl rfl (fun w => by simp [eqGuard, binOp, Op.intDiv, h]) rfl
theorem d_quo (h : b ≠ 0) : bin2 P .quo t xo yo (vi a) (vi b) = some (vi (IntKind.i64.wrap (a.tdiv b))) := bin2_lit rfl rfl (fun w => by simp [eqGuard, binOp, Op.intDiv, h]) rfl
theorem d_shl {k : IntKind} (h : 0 ≤ b) : bin2 P .shl t xo yo (vi a) (.lit (.int k b)) = some (vi (IntKind.i64.wrap (a * 2 ^ (min b.toNat 64)))) := bin2_lit rfl rfl (fun w => by simp [eqGuard, binOp, Op.shift, IntKind.bits, Int.not_lt.2 h]) rfl
theorem d_shr {k : IntKind} (h : 0 ≤ b) : bin2 P .shr t xo yo (vi a) (.lit (.int k b)) = some (vi (a.fdiv (2 ^ (min b.toNat 64)))) := bin2_lit rfl rfl (fun w => by simp [eqGuard, binOp, Op.shift, IntKind.bits, Int.not_lt.2 h]) rfl
theorem d_eql_str : bin2 P .eql t xo yo (vt s) (vt r) = some (vb (s.toList == r.toList)) := bin2_lit rfl rfl (fun w => by simp [eqGuard, binOp, Op.stringOp]) rfl
theorem d_neq_str : bin2 P .neq t xo yo (vt s) (vt r) = some (vb (!(s.toList == r.toList))) := bin2_lit rfl rfl (fun w => by simp [eqGuard, binOp, Op.stringOp]) rfl
theorem d_add_str (h : s.size + r.size ≤ 9223372036854775807) : bin2 P .add t xo yo (vt s) (vt r) = some (vt (s ++ r)) := bin2_lit rfl rfl (fun w => by simp [eqGuard, binOp, Op.stringOp]; omega) rfl
theorem d_not : scal1 P (Op.unary .not) (vb p) = some (vb (!p)) := scal1_lit rfl (fun w => by simp [Op.unary]) rfl
theorem d_neg : scal1 P (Op.unary .neg) (vi a) = some (vi (IntKind.i64.wrap (-a))) := scal1_lit rfl (fun w => by simp [Op.unary, Op.intArith]) rfl
theorem d_guard_t {y : Option V} : guardV (vb true) true y = y := rfl
theorem d_guard_f {y : Option V} : guardV (vb false) false y = y := rfl
theorem d_guard_tf {y : Option V} : guardV (vb true) false y = some (.tup []) := rfl
theorem d_guard_ft {y : Option V} : guardV (vb false) true y = some (.tup []) := rfl
theorem d_gate_t {y : Option V} : gate (vb true) true y = y := rfl
theorem d_gate_f {y : Option V} : gate (vb false) false y = y := rfl
theorem d_pick_t {x y : V} : pickV (vb true) x y = some x := rfl
theorem d_pick_f {x y : V} : pickV (vb false) x y = some y := rfl
theorem d_cond {X Y : Option V} : condV (vb p) X Y = if p = true then X else Y := rfl
theorem d_cond_t {X Y : Option V} : condV (vb true) X Y = X := rfl
theorem d_cond_f {X Y : Option V} : condV (vb false) X Y = Y := rfl
theorem d_guard_skip {q : Bool} {y : Option V} : guardV (.tup []) q y = some (.tup []) := rfl
theorem d_pick_or : pickV (vb p) (vb true) (pickB p false (vb q)) = some (vb (p || q)) := by cases p <;> rfl
theorem d_pick_and : pickV (vb p) (pickB p true (vb q)) (vb false) = some (vb (p && q)) := by cases p <;> rfl
theorem d_pick_ite {x y : V} : pickV (vb p) x y = some (if p = true then x else y) := by cases p <;> rfl
theorem d_len {rows : List (List V)} : lenS [.sl rows] = some (vi rows.length) := rfl
theorem d_lenT : lenT [vt s] = some (vi s.size) := rfl
theorem d_join {J : List V → Option V} {B : (List V → Option V) → Option V} : JoinPt J B = B J := rfl
theorem d_ldk_some {n : Nat} {l : List V} (h : n ≤ l.length) : ldk (some n) l = some (.agg (l.take n)) := by simp [ldk, loadA, h]
theorem d_ldk_none {l : List V} : ldk none l = l[0]? := rfl
theorem d_ldp {k : Option Nat} {l : List V} : ldp k (.ptr l) = ldk k l := rfl
theorem d_fld {k : Option Nat} {off : Nat} {l : List V} : fld k off (.agg l) = ldk k (l.drop off) := rfl
theorem d_ptrF {d : Nat} {l : List V} : ptrF d (.ptr l) = some (.ptr (l.drop d)) := rfl
theorem d_ext {l : List V} {i : Nat} : extractV (.tup l) i = l[i]? := rfl
theorem d_agg {l : List V} : aggL (.agg l) = l := rfl
theorem d_sl {l : List (List V)} : slL (.sl l) = l := rfl
theorem d_cells_agg {l : List V} : V.cellsO (.agg l) = some l := rfl
theorem d_cells_lit {v : Value} : V.cellsO (.lit v) = some [.lit v] := rfl
theorem d_cells_sl {l : List (List V)} : V.cellsO (.sl l) = some [.sl l] := rfl
theorem d_fill_nil {l : List V} : fillL l [] = some l := rfl
theorem d_fill_cons {l : List V} {p : Nat × Nat × V} {r : List (Nat × Nat × V)} : fillL l (p :: r) = p.2.2.cellsO.bind fun cs => (spliceO l p.1 p.2.1 cs).bind fun c => fillL c r := rfl
theorem d_splice {l cs : List V} {off k : Nat} (h : cs.length = k ∧ off + k ≤ l.length) : spliceO l off k cs = some (l.take off ++ cs ++ l.drop (off + k)) := if_pos h
theorem d_spliceV {l cs : List V} {off k : Nat} {y : V} (hc : y.cellsO = some cs) (h : cs.length = k ∧ off + k ≤ l.length) : spliceV l off k y = some (.agg (l.take off ++ cs ++ l.drop (off + k))) := by
  unfold spliceV; rw [hc]; simp only [Option.bind_some]; rw [d_splice h]; rfl
theorem d_idx {k : Nat} {rows : List (List V)} {n : Nat} {r : List V} (h : rows[n]? = some r) (hr : r.length = k) : idxS k (.sl rows) (vi (n : Int)) = some (.ptr r) := by
  simp [idxS, h, hr]
theorem d_app {k : Nat} {rows ys : List (List V)} (h1 : ys.all (fun r => decide (r.length = k)) = true) (h2 : rows.length + ys.length ≤ 4294967296) : appV k rows (.sl ys) = some (.sl (rows ++ ys)) := by
  simp only [appV, appR, h1, h2, and_self, if_true, Option.map_some]
theorem d_mkI {t : TypeId} {v : Value} (h : P.underlying t = some (.int .i64)) : scal1 P (Instr.makeInterface t) (.lit v) = some (.lit (.iface t v)) := scal1_lit rfl (fun w => by simp [Instr.makeInterface, run_underlying h]) rfl
theorem wrap_id {x : Int} (h1 : -9223372036854775808 ≤ x) (h2 : x ≤ 9223372036854775807) : IntKind.i64.wrap x = x := IntWalk.i64_in _ ⟨h1, h2⟩
theorem d_slc {k l h : Nat} {rows : List (List V)} (hr : rows.all (fun r => decide (r.length = k)) = true) (h1 : l ≤ h) (h2 : h ≤ rows.length) : slc (some k) (.sl rows) (some (vi (l : Int))) (some (vi (h : Int))) = some (.sl ((rows.take h).drop l)) := by
  simp [slc, boundL, hr, h1, h2]
theorem d_slc_lo {k l : Nat} {rows : List (List V)} (hr : rows.all (fun r => decide (r.length = k)) = true) (h1 : l ≤ rows.length) : slc (some k) (.sl rows) (some (vi (l : Int))) none = some (.sl (rows.drop l)) := by
  simp [slc, boundL, hr, h1]
theorem d_slc_hi {k h : Nat} {rows : List (List V)} (hr : rows.all (fun r => decide (r.length = k)) = true) (h1 : h ≤ rows.length) : slc (some k) (.sl rows) none (some (vi (h : Int))) = some (.sl (rows.take h)) := by
  simp [slc, boundL, hr, h1]

theorem str_beq (s r : ByteArray) : (s.toList == r.toList) = decide (s = r) := by
  rw [Bool.eq_iff_iff, beq_iff_eq, decide_eq_true_iff, ByteArray.toList_eq, ByteArray.toList_eq]
  constructor
  · intro h
    have : s.data = r.data := Array.toList_inj.1 h
    cases s; cases r; simp only at this; rw [this]
  · intro h; rw [h]
theorem d_eql_str' : bin2 P .eql t xo yo (vt s) (vt r) = some (vb (decide (s = r))) := by rw [d_eql_str, str_beq]
theorem d_neq_str' : bin2 P .neq t xo yo (vt s) (vt r) = some (vb (!decide (s = r))) := by rw [d_neq_str, str_beq]
/-- a text's byte -/
def bAt (s : ByteArray) (j : Nat) : Int := ((s.data.toList.getD j 0).toNat : Int)
theorem bAt_range (s : ByteArray) (j : Nat) : 0 ≤ bAt s j ∧ bAt s j < 256 := by
  unfold bAt
  have := (s.data.toList.getD j 0).toNat_lt
  omega
theorem d_index (h : P.underlying t = some .string) {k : IntKind} {i : Int} (h0 : 0 ≤ i) (h1 : i < s.size) : scal2 P (Instr.index t) (vt s) (.lit (.int k i)) = some (.lit (.int .u8 (bAt s i.toNat))) := by
  refine scal2_of rfl rfl (r := .int .u8 (bAt s i.toNat)) (fun w => ?_) rfl
  rw [run_index_string w t s k i h, dif_pos ⟨h0, h1⟩]
  have h2 : i.toNat < s.size := by omega
  have e : (s[i.toNat]'h2) = s.data.toList.getD i.toNat 0 := by
    have h3 : i.toNat < s.data.toList.length := by rw [Array.length_toList]; exact h2
    rw [List.getD_eq_getElem?_getD, List.getElem?_eq_getElem h3]
    simp [ByteArray.getElem_eq_getElem_data]
  rw [e]
  rfl
theorem wrap_u8_id {x : Int} (h1 : 0 ≤ x) (h2 : x < 256) : IntKind.u8.wrap x = x := IntWalk.u8_in _ ⟨h1, by omega⟩
abbrev brow (x : Int) : List V := [.lit (.int .u8 x)]
abbrev irow (x : Int) : List V := [vi x]
theorem bytesL_rows : ∀ xs : List Int, bytesL (xs.map brow) = some xs
  | [] => rfl
  | x :: xs => by
    show (byteOf (brow x)).bind (fun n => (bytesL (xs.map brow)).map (n :: ·)) = _
    rw [bytesL_rows xs]
    rfl
theorem d_b2s (xs : List Int) : b2s (.sl (xs.map brow)) = some (vt (strOfNums xs)) := by
  show (bytesL (xs.map brow)).map (fun xs => V.lit (.string (strOfNums xs))) = _
  rw [bytesL_rows]
  rfl
theorem d_slc_str_hi {n : Int} (h0 : 0 ≤ n) (h1 : n ≤ s.size) : slc none (vt s) none (some (vi n)) = some (vt (s.extract 0 n.toNat)) := by
  have : n.toNat ≤ s.size := by omega
  simp [slc, boundL, h0, this]
theorem d_slc_str_lo {n : Int} (h0 : 0 ≤ n) (h1 : n ≤ s.size) : slc none (vt s) (some (vi n)) none = some (vt (s.extract n.toNat s.size)) := by
  have : n.toNat ≤ s.size := by omega
  simp [slc, boundL, h0, this]
theorem d_slc_str {m n : Int} (h0 : 0 ≤ m) (hm : m ≤ n) (h1 : n ≤ s.size) : slc none (vt s) (some (vi m)) (some (vi n)) = some (vt (s.extract m.toNat n.toNat)) := by
  have h2 : m.toNat ≤ n.toNat := by omega
  have h3 : n.toNat ≤ s.size := by omega
  have h4 : 0 ≤ n := by omega
  simp [slc, boundL, h0, h2, h3, h4]
/-- a loop: what each round does, and what comes of the whole -/
theorem fix_ind {α : Type} {F : (List V → Option V) → List V → Option V} {st : α → List V} {res : α → Option V} {μ : α → Nat} (h : ∀ (a : α) (rec : List V → Option V), (∀ b, μ b < μ a → rec (st b) = res b) → F rec (st a) = res a) :
    ∀ (n : Nat) (a : α), μ a < n → fixN F n (st a) = res a
  | 0, a, hn => absurd hn (by omega)
  | n + 1, a, hn => h a _ fun b hb => fix_ind h n b (by omega)
/-- a loop that counts up: the states at k = 0, 1, .. -/
theorem fix_up {F : (List V → Option V) → List V → Option V} {st : Nat → List V} {res : Option V} {m n : Nat} (step : ∀ k, k < m → ∀ rec, F rec (st k) = rec (st (k + 1))) (last : ∀ rec, F rec (st m) = res) (hn : m < n) : fixN F n (st 0) = res := by
  have : ∀ (d k : Nat), d + k = m → ∀ n, d < n → fixN F n (st k) = res := by
    intro d
    induction d with
    | zero => intro k hk n hn; obtain rfl : k = m := by omega
              cases n with
              | zero => omega
              | succ n => exact last _
    | succ d ih =>
      intro k hk n hn
      cases n with
      | zero => omega
      | succ n => rw [show fixN F (n + 1) (st k) = F (fixN F n) (st k) from rfl, step k (by omega)]; exact ih (k + 1) (by omega) n (by omega)
  exact this m 0 (by omega) n hn
/-- a loop that counts up and may end earlier: at the first k where it does -/
theorem fix_find {F : (List V → Option V) → List V → Option V} {st : Nat → List V} {res : Option V} {m n : Nat} (step : ∀ k, k < m → ∀ rec, F rec (st k) = rec (st (k + 1)) ∨ F rec (st k) = res) (last : ∀ rec, F rec (st m) = res) (hn : m < n) : fixN F n (st 0) = res := by
  have : ∀ (d k : Nat), d + k = m → ∀ n, d < n → fixN F n (st k) = res := by
    intro d
    induction d with
    | zero => intro k hk n hn; obtain rfl : k = m := by omega
              cases n with
              | zero => omega
              | succ n => exact last _
    | succ d ih =>
      intro k hk n hn
      cases n with
      | zero => omega
      | succ n =>
        rw [show fixN F (n + 1) (st k) = F (fixN F n) (st k) from rfl]
        rcases step k (by omega) (fixN F n) with h | h
        · rw [h]; exact ih (k + 1) (by omega) n (by omega)
        · exact h
  exact this m 0 (by omega) n hn
end
end Go.Proofs.YtgfleiknigjnbaaDoor.Den
