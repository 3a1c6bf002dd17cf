/- The walks of errors.as, errors.As and plain.Told. -/
import Derived.Test.YtgfleiknigjnbaaDoorTold
namespace Go.Proofs.YtgfleiknigjnbaaDoor
open Go.RowKit Go.Extern.Stop Go.Stop Go.Extern
set_option maxRecDepth 100000
set_option maxHeartbeats 1000000
set_option linter.unusedSimpArgs false
set_option linter.unusedVariables false

/-- errors.as at an error that is an Errno: the target is set -/
theorem as_hit_in (n : Int) (t a : Addr) (w : World) (ha : w.cell? a = some (.pointer (some t))) (htl : t.block < w.heap.size) (old : Value) (ht0 : w.cell? t = some old) (hf0 : w.frozen? t = false) :
    Calls Tryd.prog 89 #[.iface 87 (.int .i64 n), .iface 130 (.pointer (some t)), .agg #[.pointer (some ⟨1, 130, none⟩), .pointer (some a), .int .u64 150], .iface 168 (.agg #[.pointer (some ⟨1, 87, none⟩)])] w fun ev w' => ev = .returned (.bool true) ∧ ∃ w2, Below w.heap.size w w2 ∧ w' = w2.setCell t (.int .i64 n) := by
  have h6 := @run_callFunc_extern Tryd.prog 86 _ (fun args => ReflectliteValue.unpack (args.getD 0 (.tuple #[]))) Tryd.func86 (by kernel_rfl) (by kernel_rfl) (by kernel_rfl) (by kernel_rfl)
  have h10 := @run_callFunc_extern Tryd.prog 94 _ (ReflectliteType.typeOf) Tryd.func94 (by kernel_rfl) (by kernel_rfl) (by kernel_rfl) (by kernel_rfl)
  have h35 := @run_callFunc_extern Tryd.prog 137 _ (ReflectliteType.relation "AssignableTo" ReflectliteType.assignableTo) Tryd.func137 (by kernel_rfl) (by kernel_rfl) (by kernel_rfl) (by kernel_rfl)
  have h11 := @run_callFunc_extern Tryd.prog 95 _ (ReflectliteValue.method (ReflectliteValue.valueError "reflectlite.Value.Elem" 0) ReflectliteValue.elem) Tryd.func95 (by kernel_rfl) (by kernel_rfl) (by kernel_rfl) (by kernel_rfl)
  have h12 := @run_callFunc_extern Tryd.prog 96 _ (ReflectliteValue.set) Tryd.func96 (by kernel_rfl) (by kernel_rfl) (by kernel_rfl) (by kernel_rfl)
  have tO := k_typeOf
  have mA := k_mAssign
  have a25 := k_assign
  have v25 := k_valueOfE
  have hal : a.block < w.heap.size := by
    rcases Nat.lt_or_ge a.block w.heap.size with h | h
    · exact h
    · simp [World.cell?, Array.getElem?_eq_none h] at ha
  have el := k_elemV a t (w.alloc (.cells #[.pointer (some ⟨1, 130, none⟩), .pointer (some a), .int .u64 150] 151)) (by rw [World.cell?_alloc_lt _ _ a hal]; exact ha)
  have st := k_set t ⟨w.heap.size + 1, 0, none⟩ n old ((w.alloc (.cells #[.pointer (some ⟨1, 130, none⟩), .pointer (some a), .int .u64 150] 151)).alloc (.cells #[.int .i64 n] 87))
    (by rw [World.cell?_alloc_at _ _ _ _ (by simp)]; rfl)
    (by rw [World.cell?_alloc_lt _ _ t (by simp; omega), World.cell?_alloc_lt _ _ t htl]; exact ht0)
    (by rw [World.frozen?_alloc_old _ _ t (by simp; omega), World.frozen?_alloc_old _ _ t (Nat.ne_of_lt htl)]; exact hf0)
  go_enter Tryd.func89, Tryd.ntmps89
  go_wp2_with fail
  refine wp_loop_rounds 1 ?_
  rw [rounds_succ]
  go_wp2_with fail
  go_ret
  refine ⟨rfl, _, ?_, rfl⟩
  go_grown

/-- errors.As at an error that is an Errno: the target is set -/
theorem as_hit (n : Int) (t : Addr) (w : World) (hd : Door w) (htl : t.block < w.heap.size) (old : Value) (ht0 : w.cell? t = some old) (hf0 : w.frozen? t = false) :
    Calls Tryd.prog 71 #[.iface 87 (.int .i64 n), .iface 130 (.pointer (some t))] w fun ev w' => ev = .returned (.bool true) ∧ ∃ w2, Below w.heap.size w w2 ∧ w' = w2.setCell t (.int .i64 n) := by
  have h6 := @run_callFunc_extern Tryd.prog 86 _ (fun args => ReflectliteValue.unpack (args.getD 0 (.tuple #[]))) Tryd.func86 (by kernel_rfl) (by kernel_rfl) (by kernel_rfl) (by kernel_rfl)
  have h7 := @run_callFunc_extern Tryd.prog 87 _ (ReflectliteValue.methodAny (ReflectliteValue.valueError "reflectlite.Value.Type" 0) (fun t _ _ _ => ReflectliteType.toType t)) Tryd.func87 (by kernel_rfl) (by kernel_rfl) (by kernel_rfl) (by kernel_rfl)
  have h8 := @run_callFunc_extern Tryd.prog 88 _ (ReflectliteValue.method (ReflectliteValue.valueError "reflectlite.Value.IsNil" 0) ReflectliteValue.isNil) Tryd.func88 (by kernel_rfl) (by kernel_rfl) (by kernel_rfl) (by kernel_rfl)
  have h27 := @run_callFunc_extern Tryd.prog 129 _ (ReflectliteType.abiMethod fun t => do pure (.int .u8 (← Rtype.kind t))) Tryd.func129 (by kernel_rfl) (by kernel_rfl) (by kernel_rfl) (by kernel_rfl)
  have h37 := @run_callFunc_extern Tryd.prog 139 _ (ReflectliteType.method ReflectliteType.elem) Tryd.func139 (by kernel_rfl) (by kernel_rfl) (by kernel_rfl) (by kernel_rfl)
  have h38 := @run_callFunc_extern Tryd.prog 140 _ (ReflectliteType.relation "Implements" ReflectliteType.implements_) Tryd.func140 (by kernel_rfl) (by kernel_rfl) (by kernel_rfl) (by kernel_rfl)
  have f6 := k_valueOfP
  have f7 := k_typeP
  have mK := k_mKind
  have mE := k_mElem
  have mI := k_mImpl
  have k27 := k_kindP
  have k25 := k_kindE
  have e27 := k_elem
  have i25 := k_impl
  have n8 := k_isNil ⟨w.heap.size, 0, none⟩ t ((w.alloc (.cells #[.pointer (some t)] 130)).alloc (.cells #[.pointer (some ⟨1, 130, none⟩), .pointer (some ⟨w.heap.size, 0, none⟩), .int .u64 150] 151)) (by simp)
  have hlt := hd.lt
  have hg2 : ((w.alloc (.cells #[.pointer (some t)] 130)).alloc (.cells #[.pointer (some ⟨1, 130, none⟩), .pointer (some ⟨w.heap.size, 0, none⟩), .int .u64 150] 151)).cell? ⟨0, 0, none⟩ = some (.iface 168 (.agg #[.pointer (some ⟨1, 27, none⟩)])) := by
    rw [World.cell?_alloc_lt _ _ ⟨0, 0, none⟩ (by simp <;> omega), World.cell?_alloc_lt _ _ ⟨0, 0, none⟩ hlt]; exact hd
  have hin := as_hit_in n t ⟨w.heap.size, 0, none⟩ ((w.alloc (.cells #[.pointer (some t)] 130)).alloc (.cells #[.pointer (some ⟨1, 130, none⟩), .pointer (some ⟨w.heap.size, 0, none⟩), .int .u64 150] 151)) (by simp) (by simp; omega) old (by rw [World.cell?_alloc_lt _ _ t (by simp; omega), World.cell?_alloc_lt _ _ t htl]; exact ht0) (by rw [World.frozen?_alloc_old _ _ t (by simp; omega), World.frozen?_alloc_old _ _ t (Nat.ne_of_lt htl)]; exact hf0)
  have HIN := Lib.hid hin
  clear hin
  go_enter Tryd.func71, Tryd.ntmps71
  go_wp2_with (go_at_call 89; refine HIN.out.mono ?_; rintro e w2 ⟨rfl, w3, hb3, rfl⟩)
  go_ret
  refine ⟨rfl, _, ?_, rfl⟩
  exact (((Below.refl _ _).alloc (Nat.le_refl _) _).alloc (by simp) _).trans (hb3.mono (by simp; omega))

/-- plain.Told -/
theorem told_nil (w : World) : Calls Tryd.prog 39 #[.nilIface] w fun e w' => e = .returned (.int .i64 0) ∧ Below w.heap.size w w' := by
  go_enter Tryd.func39, Tryd.ntmps39
  go_wp2_with fail
  go_ret
  exact ⟨rfl, by go_grown⟩
theorem told_errno (n : Int) (w : World) (hd : Door w) : Calls Tryd.prog 39 #[.iface 87 (.int .i64 n)] w fun e w' => e = .returned (.int .i64 n) ∧ Below w.heap.size w w' := by
  have hb1 : Below w.heap.size w (w.alloc (.cells #[.int .i64 0] 87)) := (Below.refl _ _).alloc (Nat.le_refl _) _
  have HD := Lib.hid (as_hit n ⟨w.heap.size, 0, none⟩ (w.alloc (.cells #[.int .i64 0] 87)) (hd.below hb1) (by simp) (.int .i64 0) (by simp) (by simp))
  clear hd
  go_enter Tryd.func39, Tryd.ntmps39
  go_wp2_with (go_at_call 71; refine HD.out.mono ?_; rintro e w2 ⟨rfl, w3, hb3, rfl⟩; have hc3 : (w3.setCell ⟨w.heap.size, 0, none⟩ (.int .i64 n)).cell? ⟨w.heap.size, 0, none⟩ = some (.int .i64 n) := World.cell?_setCell_same _ _ _ (u := .int .i64 0) ((hb3.cell (p := ⟨w.heap.size, 0, none⟩) (by simp)).trans (by simp)))
  go_ret
  exact ⟨rfl, (hb1.trans (hb3.mono (by simp))).setCell (by simp) _⟩
end Go.Proofs.YtgfleiknigjnbaaDoor
