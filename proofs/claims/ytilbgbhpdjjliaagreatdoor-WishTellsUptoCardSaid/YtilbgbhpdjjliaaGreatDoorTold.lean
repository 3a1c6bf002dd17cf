/- errors.As and plain.Told, at a target of type api.Errno: the door seats. TURNED from the kit's worked toy of errors.As. -/
import Derived.Test.YtilbgbhpdjjliaaGreatDoorRows
import Derived.Test.YtilbgbhpdjjliaaGreatDoorQuiet
import Derived.WalkKit
import Derived.WalkSpells
import Derived.WalkLawsBesides
import Derived.Handy
import Derived.Deep.Light
import Derived.Lib.Hide
import Derived.LaidEql
import Derived.Stop.Asserts
import Derived.RowKitTokens
import Derived.LaidHandle
import Derived.Stop.Joined
import Derived.LaidLaws
namespace Go.Proofs.YtilbgbhpdjjliaaGreatDoor
open Go.RowKit Go.Extern.Stop Go.Stop Go.Extern
set_option maxRecDepth 100000
set_option linter.unusedSimpArgs false
set_option linter.unusedVariables false
def Door (w : World) : Prop := w.cell? ⟨1, 0, none⟩ = some (.iface 184 (.agg #[.pointer (some ⟨10, 31, none⟩)]))
theorem Door.lt {w : World} (h : Door w) : 1 < w.heap.size := by
 rcases Nat.lt_or_ge 1 w.heap.size with h1 | h0
 ·exact h1
 ·simp [Door, World.cell?, Array.getElem?_eq_none (show w.heap.size ≤ 1 from h0)] at h
theorem Door.below {w w' : World} (h : Door w) (hb : Below w.heap.size w w') : Door w' := (hb.cell (p := ⟨1, 0, none⟩) h.lt).trans h
theorem k_valueOfP (t : Addr) (w : World) : (ReflectliteValue.unpack (.iface 127 (.pointer (some t)))).run Tryz.prog w
  = .ok (.agg #[.pointer (some ⟨10, 127, none⟩), .pointer (some ⟨w.heap.size, 0, none⟩), .int .u64 150]) (w.alloc (.cells #[.pointer (some t)] 127)) := by kernel_rfl
theorem k_typeP (a : Addr) (w : World) : (ReflectliteValue.methodAny (ReflectliteValue.valueError "reflectlite.Value.Type" 0) (fun t _ _ _ => ReflectliteType.toType t) #[.agg #[.pointer (some ⟨10, 127, none⟩), .pointer (some a), .int .u64 150]]).run Tryz.prog w
  = .ok (.iface 184 (.agg #[.pointer (some ⟨10, 127, none⟩)])) w := by kernel_rfl
theorem k_mKind (h : Value) (w : World) : (Go.method 368 184 (.agg #[h]) "Kind").run Tryz.prog w = .ok (159, h) w := by kernel_rfl
theorem k_kindP (w : World) : ((ReflectliteType.abiMethod fun t => (fun a : Nat => Value.int IntKind.u8 (a : Int)) <$> Rtype.kind t) #[.pointer (some ⟨10, 127, none⟩)]).run Tryz.prog w = .ok (.int .u8 22) w := by kernel_rfl
theorem k_kindE (w : World) : ((ReflectliteType.abiMethod fun t => (fun a : Nat => Value.int IntKind.u8 (a : Int)) <$> Rtype.kind t) #[.pointer (some ⟨10, 86, none⟩)]).run Tryz.prog w = .ok (.int .u8 2) w := by kernel_rfl
theorem k_rlm (z : Sem Value) (f : TypeId → Addr → Nat → Nat → Sem Value) (v : Value) :
  ReflectliteValue.method z f #[v] = (do match ← ReflectliteValue.parts v with | none => z | some (t, a, fl) => f t a fl (fl % 32)) := rfl
theorem k_partsP (a : Addr) (w : World) : (ReflectliteValue.parts (.agg #[.pointer (some ⟨10, 127, none⟩), .pointer (some a), .int .u64 150])).run Tryz.prog w = .ok (some (127, a, 150)) w := by kernel_rfl
theorem k_isNil (a p : Addr) (W : World) (ha : W.cell? a = some (.pointer (some p))) :
  (ReflectliteValue.method (ReflectliteValue.valueError "reflectlite.Value.IsNil" 0) ReflectliteValue.isNil #[.agg #[.pointer (some ⟨10, 127, none⟩), .pointer (some a), .int .u64 150]]).run Tryz.prog W = .ok (.bool false) W := by
 rw [k_rlm]
 simp only [Sem.run_bind, k_partsP, Result.andThen]
 simp [ReflectliteValue.isNil, loadVar, isAgg, underlying, Tryz.underlying127, ha, Result.andThen]
theorem k_mElem (h : Value) (w : World) : (Go.method 368 184 (.agg #[h]) "Elem").run Tryz.prog w = .ok (169, .agg #[h]) w := by kernel_rfl
theorem k_mImpl (h : Value) (w : World) : (Go.method 368 184 (.agg #[h]) "Implements").run Tryz.prog w = .ok (170, .agg #[h]) w := by kernel_rfl
theorem k_mAssign (h : Value) (w : World) : (Go.method 368 184 (.agg #[h]) "AssignableTo").run Tryz.prog w = .ok (167, .agg #[h]) w := by kernel_rfl
theorem k_elem (w : World) : (ReflectliteType.method ReflectliteType.elem #[.agg #[.pointer (some ⟨10, 127, none⟩)]]).run Tryz.prog w = .ok (.iface 184 (.agg #[.pointer (some ⟨10, 86, none⟩)])) w := by kernel_rfl
theorem k_impl (w : World) : (ReflectliteType.relation "Implements" ReflectliteType.implements_ #[.agg #[.pointer (some ⟨10, 86, none⟩)], .iface 184 (.agg #[.pointer (some ⟨10, 31, none⟩)])]).run Tryz.prog w = .ok (.bool true) w := by kernel_rfl
theorem k_typeOf (v : Value) (w : World) : (ReflectliteType.typeOf #[.iface 86 v]).run Tryz.prog w = .ok (.iface 184 (.agg #[.pointer (some ⟨10, 86, none⟩)])) w := by kernel_rfl
theorem k_assign (w : World) : (ReflectliteType.relation "AssignableTo" ReflectliteType.assignableTo #[.agg #[.pointer (some ⟨10, 86, none⟩)], .iface 184 (.agg #[.pointer (some ⟨10, 86, none⟩)])]).run Tryz.prog w = .ok (.bool true) w := by kernel_rfl
theorem k_valueOfE (n : Int) (w : World) : (ReflectliteValue.unpack (.iface 86 (.int .i64 n))).run Tryz.prog w
  = .ok (.agg #[.pointer (some ⟨10, 86, none⟩), .pointer (some ⟨w.heap.size, 0, none⟩), .int .u64 130]) (w.alloc (.cells #[.int .i64 n] 86)) := by kernel_rfl
theorem k_elemOf (w : World) : (Rtype.elem? 127).run Tryz.prog w = .ok (some 86) w := by kernel_rfl
theorem k_mk (p : Addr) (w : World) : (ReflectliteValue.mk 86 p ReflectliteValue.flagAddr).run Tryz.prog w = .ok (.agg #[.pointer (some ⟨10, 86, none⟩), .pointer (some p), .int .u64 386]) w := by kernel_rfl
theorem k_elemV (a p : Addr) (W : World) (ha : W.cell? a = some (.pointer (some p))) :
  (ReflectliteValue.method (ReflectliteValue.valueError "reflectlite.Value.Elem" 0) ReflectliteValue.elem #[.agg #[.pointer (some ⟨10, 127, none⟩), .pointer (some a), .int .u64 150]]).run Tryz.prog W
   = .ok (.agg #[.pointer (some ⟨10, 86, none⟩), .pointer (some p), .int .u64 386]) W := by
 rw [k_rlm]
 simp only [Sem.run_bind, k_partsP, Result.andThen]
 simp [ReflectliteValue.elem, loadVar, isAgg, underlying, Tryz.underlying127, ha, Result.andThen, k_elemOf, k_mk]
theorem k_rls (v x : Value) : ReflectliteValue.set #[v, x] = (do
  let (some (dst, a, fl), some (src, b, _)) := (← ReflectliteValue.parts v, ← ReflectliteValue.parts x)
   | unsupported (.noEntry "extern/(internal/reflectlite.Value).Set.zeroValue")
  if fl / ReflectliteValue.flagAddr % 2 == 0 then unsupported (.noEntry "extern/(internal/reflectlite.Value).Set.unaddressable")
  let val ← loadVar src b
  if ← Rtype.directlyAssignable dst src then storeVar dst a val
  else if ← Rtype.implements dst src then
   if (← Rtype.kind src) == 20 then
    match val with
    | .nilIface => unsupported (.noEntry "extern/reflectlite: a nil value of one interface type handed on as a value of another")
    | _ => storeVar dst a val
   else storeVar dst a (.iface src val)
  else panicString ("reflectlite.Set: value of type " ++ (← Rtype.spelt src) ++ " is not assignable to type " ++ (← Rtype.spelt dst))
  pure (.tuple #[])) := rfl
theorem k_partsEa (a : Addr) (w : World) : (ReflectliteValue.parts (.agg #[.pointer (some ⟨10, 86, none⟩), .pointer (some a), .int .u64 386])).run Tryz.prog w = .ok (some (86, a, 386)) w := by kernel_rfl
theorem k_partsE (a : Addr) (w : World) : (ReflectliteValue.parts (.agg #[.pointer (some ⟨10, 86, none⟩), .pointer (some a), .int .u64 130])).run Tryz.prog w = .ok (some (86, a, 130)) w := by kernel_rfl
theorem k_direct (w : World) : (Rtype.directlyAssignable 86 86).run Tryz.prog w = .ok true w := by kernel_rfl
theorem k_set (ta b : Addr) (n : Int) (old : Value) (W : World) (hb : W.cell? b = some (.int .i64 n)) (ht : W.cell? ta = some old) (hf : W.frozen? ta = false) :
  (ReflectliteValue.set #[.agg #[.pointer (some ⟨10, 86, none⟩), .pointer (some ta), .int .u64 386], .agg #[.pointer (some ⟨10, 86, none⟩), .pointer (some b), .int .u64 130]]).run Tryz.prog W
   = .ok (.tuple #[]) (W.setCell ta (.int .i64 n)) := by
 rw [k_rls]
 simp only [Sem.run_bind, k_partsEa, k_partsE, Result.andThen]
 simp [ReflectliteValue.flagAddr, loadVar, isAgg, underlying, Tryz.underlying86, hb, Result.andThen, k_direct, storeVar, Value.cells, storeCells, Addr.add]
 rw [run_store Tryz.prog W ta _ _ (by rfl)]
 simp [ht, hf]
end Go.Proofs.YtilbgbhpdjjliaaGreatDoor
