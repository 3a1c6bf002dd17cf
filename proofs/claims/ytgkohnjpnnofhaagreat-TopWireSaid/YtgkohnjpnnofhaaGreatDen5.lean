/- A reader of Go code in plain values: each operation that may come at any time is right (3): what makes memory; calls; all of them. -/
import Derived.Test.YtgkohnjpnnofhaaGreatDen4
namespace Go.Proofs.YtgkohnjpnnofhaaGreat.Den
set_option linter.unusedSimpArgs false
set_option linter.unusedVariables false
set_option linter.unnecessarySimpa false
open Go.RowKit
section
variable {P : Program} {Dw : World → Prop} {F0 : Par} {base : Nat} {M0 : Mem} {w0 w : World} {N : Nat} {g : Ghost} {st : St} {a : Act} {o : Oper} {s : Nat}
theorem mem_lt {M : Mem} (hm : ∀ b o u, M b o = some u → w.cell? ⟨b, o, none⟩ = some u) {b o : Nat} {u : Value} (h : M b o = some u) : b < w.heap.size := by
 have := hm b o u h
 unfold World.cell? at this
 rcases Nat.lt_or_ge b w.heap.size with hl | hl
 ·exact hl
 ·simp only [Array.getElem?_eq_none hl] at this; cases this
theorem grow_box {M : Mem} (hm : ∀ b o u, M b o = some u → w.cell? ⟨b, o, none⟩ = some u) (ob : Obj) : Grow M w M (w.alloc ob) where
 below := (Below.refl _ _).alloc (Nat.le_refl _) _
 mono := fun _ _ _ h => h
 mem := fun b o u h => by
  have hl := mem_lt hm h
  rw [((Below.refl w.heap.size w).alloc (Nat.le_refl _) ob).cell (p := ⟨b, o, none⟩) hl]
  exact hm b o u h
 fresh := fun _ _ _ h _ => h
def withBlock (M : Mem) (b : Nat) (cs : Array Value) : Mem := fun b' o => if b' = b then cs[o]? else M b' o
theorem grow_row {M : Mem} (hm : ∀ b o u, M b o = some u → w.cell? ⟨b, o, none⟩ = some u) (cs : Array Value) (ty : TypeId) : Grow M w (withBlock M w.heap.size cs) (w.alloc (.cells cs ty)) where
 below := (Below.refl _ _).alloc (Nat.le_refl _) _
 mono := fun b o u h => by
  have hl := mem_lt hm h
  unfold withBlock
  rw [if_neg (by omega)]; exact h
 mem := fun b o u h => by
  unfold withBlock at h
  split at h
  ·rename_i e
   subst e
   rw [World.cell?_alloc_at _ _ _ _ rfl]
   exact h
  ·have hl := mem_lt hm h
   rw [((Below.refl w.heap.size w).alloc (Nat.le_refl _) _).cell (p := ⟨b, o, none⟩) hl]
   exact hm b o u h
 fresh := fun b o u h hb => by
  unfold withBlock at h
  rwa [if_neg (by omega)] at h
theorem post_box (hS : Sim P Dw F0 base M0 w0 N g st a w) {l : List V} {cs : Array Value} {ty : TypeId} (h : RelCells g.M cs l) : Post P g w s (.box s ⟨[], 0⟩, some l) (.pointer (some ⟨w.heap.size, 0, none⟩)) (w.alloc (.cells cs ty)) := by
 refine ⟨g.M, grow_box hS.mem _, .inl ⟨rfl, w.heap.size, cs, ty, Nat.le_refl _, rfl, ?_, fun o => ?_, h⟩⟩
 ·show (w.heap.push _)[w.heap.size]? = _
  simp
 ·cases hm : g.M w.heap.size o with
  | none => rfl
  | some u => exact absurd (mem_lt hS.mem hm) (by omega)
theorem rep_flat {z : List V} {k : Nat} (hz : z.length = k) : ∀ (n i : Nat) (x : V), (List.replicate n z).flatten[i]? = some x → z[i % k]? = some x ∧ i < n * k
 | 0, i, x, h => by simp at h
 | n + 1, i, x, h => by
  rw [List.replicate_succ, List.flatten_cons] at h
  by_cases hi : i < k
  ·rw [List.getElem?_append_left (by omega)] at h
   rw [Nat.mod_eq_of_lt hi]
   exact ⟨h, by rw [Nat.add_mul]; omega⟩
  ·rw [List.getElem?_append_right (by omega), hz] at h
   obtain ⟨h1, h2⟩ := rep_flat hz n (i - k) x h
   refine ⟨?_, by rw [Nat.add_mul]; omega⟩
   rw [← Nat.mod_eq_sub_mod (by omega)] at h1
   exact h1
theorem rep_len {z : List V} {k : Nat} (hz : z.length = k) (n : Nat) : (List.replicate n z).flatten.length = n * k := by
 simp [hz]
theorem chunks_at {α : Type} {k : Nat} : ∀ (n : Nat) (l : List α) (i : Nat) (r : List α), (chunks k n l)[i]? = some r → r = (l.drop (i * k)).take k ∧ i < n
 | 0, l, i, r, h => by simp [chunks] at h
 | n + 1, l, 0, r, h => by
  simp [chunks] at h
  subst h
  simp
 | n + 1, l, i + 1, r, h => by
  simp only [chunks, List.getElem?_cons_succ] at h
  obtain ⟨h1, h2⟩ := chunks_at n (l.drop k) i r h
  refine ⟨?_, by omega⟩
  rw [h1, List.drop_drop]
  congr 2
  rw [Nat.add_mul]; omega
theorem chunks_len {α : Type} {k : Nat} : ∀ (n : Nat) (l : List α), (chunks k n l).length = n
 | 0, l => rfl
 | n + 1, l => by simp [chunks, chunks_len n]
theorem fillL_len : ∀ {ps : List (Nat × Nat × V)} {l out : List V}, fillL l ps = some out → out.length = l.length
 | [], l, out, h => by simp only [fillL, oE_] at h; rw [h]
 | p :: ps, l, out, h => by
  simp only [fillL] at h
  obtain ⟨cs, hcs, h⟩ := oB_ h
  obtain ⟨c2, hc2, h⟩ := oB_ h
  obtain ⟨e0, e00, rfl⟩ := spliceO_some hc2
  rw [fillL_len h]
  simp
  omega
theorem chunks_flat {α : Type} {k : Nat} : ∀ (n : Nat) (l : List α), l.length = n * k → (chunks k n l).flatten = l
 | 0, l, h => by simp at h; simp [chunks, h]
 | n + 1, l, h => by
  simp only [chunks, List.flatten_cons]
  rw [chunks_flat n (l.drop k) (by rw [List.length_drop, h, Nat.add_mul]; omega)]
  exact List.take_append_drop k l
theorem chunks_row {α : Type} {k : Nat} : ∀ (n : Nat) (l : List α), l.length = n * k → ∀ r ∈ chunks k n l, r.length = k
 | 0, l, h, r, hr => by simp [chunks] at hr
 | n + 1, l, h, r, hr => by
  simp only [chunks, List.mem_cons] at hr
  rw [Nat.add_mul] at h
  rcases hr with rfl | hr
  ·rw [List.length_take]; omega
  ·exact chunks_row n (l.drop k) (by rw [List.length_drop, h]; omega) r hr
theorem buildSlice_ok2 (hm : ∀ b o u, g.M b o = some u → w.cell? ⟨b, o, none⟩ = some u) {t : TypeId} {n : Nat} {parts : List (Nat × V)} {vparts : Array (Nat × Value)} {y : V} (hl : vparts.toList.length = parts.length) (hp : ∀ (i : Nat) (p : Nat × V), parts[i]? = some p → ∃ v, vparts.toList[i]? = some (p.1, v) ∧ Rel g.M v p.2) (h : buildSliceO P t n parts = some y) :
  ∃ e k cells out, P.underlying t = some (.slice e) ∧ sizeP P e = some k ∧ y = .sl (chunks k n out) ∧ out.length = n * k ∧ RelCells g.M cells out ∧ 0 < k ∧ n * k ≤ 16777216 ∧
   (Instr.buildSlice t n vparts).run P w = .ok (.slice (some ⟨w.heap.size, 0, none⟩) n n) (w.alloc (.cells cells e)) ∧ Rel (withBlock g.M w.heap.size cells) (.slice (some ⟨w.heap.size, 0, none⟩) n n) y := by
 unfold buildSliceO at h
 split at h
 ·rename_i e hu
  split at h
  ·rename_i k z hk hz
   unfold slcB at h
   split at h
   ·rename_i hc
    obtain ⟨hzk, hk0, hn0, hsm⟩ := hc
    obtain ⟨out, hf, rfl⟩ := oM_ h
    obtain ⟨i, zv, hi, hzv, hzr⟩ := zero_ok (M := g.M) hz
    have hik : i.size = k := by
     unfold sizeP at hk; rw [hi] at hk; simpa using hk
    have hzs : zv.cells.size = k := by rw [hzr.1, hzk]
    have hr0 : RelCells g.M ((Array.range (n * i.size)).map (zv.cells[· % zv.cells.size]!)) (List.replicate n z).flatten := by
     refine ⟨by rw [rep_len hzk]; simp [hik], fun j x hx => ?_⟩
     obtain ⟨h1, h2⟩ := rep_flat hzk n j x hx
     have := hzr.2 _ _ h1
     have hjk : j % k < k := Nat.mod_lt _ hk0
     have e : ((Array.range (n * i.size)).map (zv.cells[· % zv.cells.size]!)).getD j undef = zv.cells.getD (j % k) undef := by
      rw [hik, hzs]
      simp [Array.getD, h2, hjk, hzs]
     rw [e]; exact this
    obtain ⟨cells, h1, h2⟩ := fill_ok (place := fun i => some (i * k, k)) hr0 hl hp (by simp) (fun i p hip => ⟨(p.1 * k, k), rfl, by rw [List.getElem?_map, hip]; rfl⟩) hf
    have hrun := run_buildSlice (P := P) w t e n vparts cells i zv hu hi hzv (by rw [hik]; have : (2 : Nat) ^ 24 = 16777216 := by decide
                                                                                 omega) (by rw [hik]; exact Nat.ne_of_gt (Nat.mul_pos hn0 hk0)) (by rw [hik] at h1 ⊢; exact h1)
    have hlen : out.length = n * k := by rw [fillL_len hf, rep_len hzk]
    refine ⟨e, k, cells, out, hu, hk, rfl, hlen, h2, hk0, hsm, hrun, ?_⟩
    have hsl : IsSl (withBlock g.M w.heap.size cells) (some ⟨w.heap.size, 0, none⟩) n (chunks k n out) k w.heap.size 0 := by
     refine ⟨by rw [chunks_len]; exact Nat.le_refl _, fun r hr => ?_, fun _ => rfl, fun i' r hr j x hx => ?_⟩
     ·obtain ⟨i', hi'⟩ := List.getElem?_of_mem hr
      obtain ⟨rfl, hlt⟩ := chunks_at n out i' r hi'
      rw [List.length_take, List.length_drop, hlen]
      have : (i' + 1) * k ≤ n * k := Nat.mul_le_mul_right _ (by omega)
      rw [Nat.add_mul] at this
      omega
     ·obtain ⟨rfl, hlt⟩ := chunks_at n out i' r hr
      rw [List.getElem?_take] at hx
      split at hx
      ·rw [List.getElem?_drop] at hx
       obtain ⟨h3, h4⟩ := h2.2 _ x hx
       have hjl : i' * k + j < cells.size := by rw [h2.1]; exact (gS_ hx).1
       refine ⟨cells.getD (i' * k + j) undef, ?_, h3, h4.mono (grow_row hm cells e).mono⟩
       unfold withBlock
       rw [if_pos rfl, Nat.zero_add]
       simp [Array.getD, hjl]
      ·cases hx
    have := hsl.rel
    rwa [chunks_len] at this
   ·cases h
  ·cases h
 ·cases h
theorem buildSlice_ok (hm : ∀ b o u, g.M b o = some u → w.cell? ⟨b, o, none⟩ = some u) {t : TypeId} {n : Nat} {parts : List (Nat × V)} {vparts : Array (Nat × Value)} {y : V} (hl : vparts.toList.length = parts.length) (hp : ∀ (i : Nat) (p : Nat × V), parts[i]? = some p → ∃ v, vparts.toList[i]? = some (p.1, v) ∧ Rel g.M v p.2) (h : buildSliceO P t n parts = some y) :
  ∃ u w' M', (Instr.buildSlice t n vparts).run P w = .ok u w' ∧ Grow g.M w M' w' ∧ Rel M' u y := by
 obtain ⟨e, k, cells, out, _, _, _, _, _, _, _, h1, h2⟩ := buildSlice_ok2 hm hl hp h
 exact ⟨_, _, _, h1, grow_row hm cells e, h2⟩
theorem lenO_ok {M : Mem} {tys : Array TypeId} {ty : TypeId} {vs : Array Value} {xs : List V} {y : V} (ha : RelL M vs.toList xs) (h : lenO P tys xs = some y) : ∃ u, (Builtin.len_ tys ty vs).run P w = .ok u w ∧ Rel M u y := by
 unfold lenO at h
 split at h
 ·rename_i e hty
  unfold lenS at h
  split at h
  rotate_left
  ·cases h
  rename_i rows
  simp only [oE_] at h
  subst h
  obtain ⟨t, ht, hu⟩ := oB_ hty
  obtain ⟨A, c, k, b, off, e1, -⟩ := rel_sl (ha.2 0 (.sl rows) rfl)
  have hv : vs = #[.slice A rows.length c] := by
   apply Array.toList_inj.1
   have h1 := ha.1
   cases hvs : vs.toList with
   | nil => rw [hvs] at h1; cases h1
   | cons q r =>
    rw [hvs] at h1 e1
    have : r = [] := List.eq_nil_of_length_eq_zero (by simpa using h1)
    subst this
    simp at e1
    rw [e1]
  subst hv
  exact ⟨_, by simp [Builtin.len_, ht, run_underlying hu, goInt], .lit _ rfl⟩
 ·rename_i hty
  unfold lenT at h
  split at h
  rotate_left
  ·cases h
  rename_i ss
  simp only [oE_] at h
  subst h
  obtain ⟨t, ht, hu⟩ := oB_ hty
  have e1 := (rel_lit (ha.2 0 (.lit (.string ss)) rfl)).1
  have hv : vs = #[.string ss] := by
   apply Array.toList_inj.1
   have h1 := ha.1
   cases hvs : vs.toList with
   | nil => rw [hvs] at h1; cases h1
   | cons q r =>
    rw [hvs] at h1 e1
    have : r = [] := List.eq_nil_of_length_eq_zero (by simpa using h1)
    subst this
    simp at e1
    rw [e1]
  subst hv
  exact ⟨_, by simp [Builtin.len_, ht, run_underlying hu, goInt], .lit _ rfl⟩
 ·cases h
theorem ok_plain {t : Sem Value} {y : V} (hS : Sim P Dw F0 base M0 w0 N g st a w) (h : execOp a.eval o = (do pure (Next.value (← t)))) (hr : ∃ u, t.run P w = .ok u w ∧ Rel g.M u y) : OpOk P o a w (Post P g w s (.v y, none)) := by
 obtain ⟨u, h1, h2⟩ := hr
 exact ok_val h h1 (post_v hS h2)
theorem vres_some {x : Option V} {r : C × Option (List V)} (h : vres x = some r) : ∃ y, x = some y ∧ r = (.v y, none) := by
 unfold vres at h
 obtain ⟨y, h1, h2⟩ := oM_ h
 exact ⟨y, h1, h2.symm⟩
theorem parts_ok (hS : Sim P Dw F0 base M0 w0 N g st a w) (parts : Array (Nat × Operand)) : (parts.map fun (i, x) => (i, a.eval x)).toList.length = (parts.toList.map fun p => (p.1, st.rd p.2)).length ∧
  ∀ (i : Nat) (p : Nat × V), (parts.toList.map fun p => (p.1, st.rd p.2))[i]? = some p → ∃ v, (parts.map fun (i, x) => (i, a.eval x)).toList[i]? = some (p.1, v) ∧ Rel g.M v p.2 := by
 refine ⟨by simp, fun i p hp => ?_⟩
 rw [List.getElem?_map] at hp
 cases hq : parts.toList[i]? with
 | none => rw [hq] at hp; cases hp
 | some q =>
  rw [hq] at hp
  simp only [Option.map_some, oE_] at hp
  subst hp
  refine ⟨a.eval q.2, ?_, hS.rd q.2⟩
  rw [Array.toList_map, List.getElem?_map, hq]
  rfl
theorem args_ok (hS : Sim P Dw F0 base M0 w0 N g st a w) (args : Array Operand) : RelL g.M (args.map a.eval).toList (args.toList.map st.rd) := by
 refine ⟨by simp, fun i x hx => ?_⟩
 rw [List.getElem?_map] at hx
 cases hq : args.toList[i]? with
 | none => rw [hq] at hx; cases hx
 | some q =>
  rw [hq] at hx
  simp only [Option.map_some, oE_] at hx
  subst hx
  have : (args.map a.eval).toList.getD i undef = a.eval q := by
   rw [Array.toList_map, List.getD, List.getElem?_map, hq]; rfl
  rw [this]
  exact hS.rd q
theorem RelL.append {M : Mem} {vs vs2 : List Value} {xs xs2 : List V} (h : RelL M vs xs) (h2 : RelL M vs2 xs2) : RelL M (vs ++ vs2) (xs ++ xs2) := by
 refine ⟨by simp [h.1, h2.1], fun i x hx => ?_⟩
 by_cases hi : i < xs.length
 ·rw [List.getElem?_append_left hi] at hx
  have := h.2 i x hx
  rwa [List.getD, List.getElem?_append_left (by rw [h.1]; exact hi)]
 ·rw [List.getElem?_append_right (by omega)] at hx
  have := h2.2 _ x hx
  rw [List.getD, List.getElem?_append_right (by rw [h.1]; omega), h.1]
  exact this
theorem convK_2 {a b : TypeId} (h : convK P a b = 2) : ∃ e, P.underlying a = some (.slice e) ∧ P.underlying e = some (.int .u8) ∧ P.underlying b = some .string := by
 unfold convK at h
 split at h
 ·rename_i e h1 h2
  split at h
  ·rename_i h3; exact ⟨e, h1, h3, h2⟩
  ·cases h
 ·split at h <;> cases h
 ·cases h
theorem convK_1 {a b : TypeId} (h : convK P a b = 1) : ∃ e, P.underlying a = some .string ∧ P.underlying b = some (.slice e) ∧ P.underlying e = some (.int .u8) := by
 unfold convK at h
 split at h
 ·split at h <;> cases h
 ·rename_i e h1 h2
  split at h
  ·rename_i h3; exact ⟨e, h1, h2, h3⟩
  ·cases h
 ·cases h
theorem bytesL_at : ∀ {rows : List (List V)} {xs : List Int}, bytesL rows = some xs → xs.length = rows.length ∧ ∀ (i : Nat) (r : List V), rows[i]? = some r → ∃ n : Int, byteOf r = some n ∧ xs[i]? = some n
 | [], xs, h => by simp only [bytesL, oE_] at h; subst h; simp
 | r :: rows, xs, h => by
  simp only [bytesL] at h
  obtain ⟨n, hn, h⟩ := oB_ h
  obtain ⟨l, hl, rfl⟩ := oM_ h
  obtain ⟨h1, h2⟩ := bytesL_at hl
  refine ⟨by simp [h1], fun i r' hi => ?_⟩
  cases i with
  | zero => simp at hi; subst hi; exact ⟨n, hn, rfl⟩
  | succ i => simpa using h2 i r' (by simpa using hi)
theorem b2s_ok {M : Mem} {rows : List (List V)} {A : Option Addr} {c : Nat} {a b e : TypeId} {y : V} (e1 : P.underlying a = some (.slice e)) (e2 : P.underlying e = some (.int .u8)) (e3 : P.underlying b = some .string)
  (hcell : ∀ i r n, rows[i]? = some r → byteOf r = some n → ∃ q o, A = some ⟨q, o, none⟩ ∧ w.cell? ⟨q, o + i, none⟩ = some (.int .u8 n)) (h : b2s (.sl rows) = some y) : ∃ u, (convert a b (.slice A rows.length c)).run P w = .ok u w ∧ Rel M u y := by
 simp only [b2s] at h
 obtain ⟨xs, hxs, rfl⟩ := oM_ h
 obtain ⟨h1, h2⟩ := bytesL_at hxs
 refine ⟨_, ?_, .lit _ rfl⟩
 cases A with
 | none =>
  have hr : rows = [] := by
   cases rows with
   | nil => rfl
   | cons r l =>
    obtain ⟨n, hn, _⟩ := h2 0 r rfl
    obtain ⟨q, o, hA, _⟩ := hcell 0 r n rfl hn
    cases hA
  subst hr
  have : xs = [] := List.eq_nil_of_length_eq_zero h1
  subst this
  exact run_convert_bytes_nil w a e e1 e2 _ c b e3
 | some ad =>
  by_cases h0 : rows.length = 0
  ·have hr : rows = [] := List.eq_nil_of_length_eq_zero h0
   subst hr
   have : xs = [] := List.eq_nil_of_length_eq_zero h1
   subst this
   rw [run_convert_bytes_string w a b e _ _ c e1 e2 e3]
   simp [Conv.bytesToString, loadCells, loadCellsFrom]
   rfl
  ·obtain ⟨r0, hr0⟩ : ∃ r0, rows[0]? = some r0 := ⟨_, gE_ (by omega)⟩
   obtain ⟨n0, hn0, _⟩ := h2 0 r0 hr0
   obtain ⟨q, o, hA, _⟩ := hcell 0 r0 n0 hr0 hn0
   simp only [oE_] at hA
   subst hA
   refine run_convert_bytes_arg w a e e1 e2 q o rows.length c xs h1 (fun i hi => ?_) b e3
   obtain ⟨n, hn, hx⟩ := h2 i _ (gE_ hi)
   obtain ⟨q', o', hA', hcc⟩ := hcell i _ n (gE_ hi) hn
   simp only [oE_, Addr.mk.injEq, and_true] at hA'
   obtain ⟨rfl, rfl⟩ := hA'
   rw [hcc]
   simp [List.getD, hx]
theorem Sim.rowsAt (hS : Sim P Dw F0 base M0 w0 N g st a w) {s : Nat} {p : List Stp} {rows : List (List V)} {v : Value} (hrows : rowsR st s p = some rows) (hw : walkV g.hp (g.ov s) p = some v) :
  ∃ A c, v = .slice A rows.length c ∧ ∀ i r n, rows[i]? = some r → byteOf r = some n → ∃ q o, A = some ⟨q, o, none⟩ ∧ w.cell? ⟨q, o + i, none⟩ = some (.int .u8 n) := by
 unfold rowsR at hrows
 obtain ⟨x2, m1, hrows⟩ := oB_ hrows
 obtain ⟨y2, m2, hrows⟩ := oB_ hrows
 split at hrows
 ·rename_i k0 rows'
  simp only [oE_] at hrows
  subst hrows
  obtain ⟨u, G, e1, e2, _⟩ := (hS.own s x2 m1).get p m2
  rw [hw] at e1
  obtain rfl := oJ_ e1
  cases e2 with
  | pure _ _ _ h => exact absurd h rel_osl
  | oslNil _ _ => exact ⟨_, _, rfl, by simp⟩
  | osl _ b c k cs ty fz hz _ Fi hb hh hs hn hm hk h1 hr sub dis =>
   refine ⟨_, _, rfl, fun i r n hi hbn => ⟨b, 0, rfl, ?_⟩⟩
   unfold byteOf at hbn
   split at hbn
   ·rename_i n'
    simp only [oE_] at hbn
    subst hbn
    have hk1 : k0 = 1 := by rw [← hk _ (List.mem_of_getElem? hi)]; rfl
    subst hk1
    have hil := (gS_ hi).1
    have hT := hr i _ hi 0 _ rfl
    have hv := hT.pureV rfl
    have e := (rel_lit hv).1
    have hw2 := (hS.hp b _ hh).2.1
    simp only [World.cell?, hw2]
    have hlt : i < cs.size := by rw [hs]; omega
    have := cells_at hlt
    simp only [Nat.mul_one, Nat.add_zero] at e
    rw [e] at this
    simpa using this
   ·cases hbn
 ·cases hrows
theorem grow_bytes {M : Mem} (hm : ∀ b o u, M b o = some u → w.cell? ⟨b, o, none⟩ = some u) (cs : Array Value) (ty : TypeId) (fz : Nat × Nat) : Grow M w (withBlock M w.heap.size cs) (w.drew.alloc (.cells cs ty fz)) where
 below := (Below.refl _ _).drew.alloc (Nat.le_refl _) _
 mono := fun b o u hu => by
  have : b ≠ w.heap.size := by have := mem_lt hm hu; omega
  simp only [withBlock]; rw [if_neg this]; exact hu
 mem := fun b o u hu => by
  simp only [withBlock] at hu
  split at hu
  ·rename_i e
   subst e
   have : (w.drew.alloc (.cells cs ty fz)).heap[w.heap.size]? = some (.cells cs ty fz) := by
    show (w.heap.push (.cells cs ty fz))[w.heap.size]? = _
    simp
   simp only [World.cell?, this]
   simpa using hu
  ·have hl := mem_lt hm hu
   rw [((Below.refl w.heap.size w).drew.alloc (Nat.le_refl _) _).cell (p := ⟨b, o, none⟩) hl]
   exact hm b o u hu
 fresh := fun b o u hu hb => by
  simp only [withBlock] at hu
  rw [if_neg (by omega)] at hu; exact hu
theorem bytesRow_at (s : ByteArray) (cap i : Nat) (h : i < s.size) : (bytesRow s cap)[i]? = some (.int .u8 (s.data.toList[i]'(by simpa using h)).toNat) := by
 unfold bytesRow
 have h' : i < s.data.size := h
 rw [Array.getElem?_append_left (by simpa using h), Array.getElem?_map, Array.getElem?_eq_getElem h']
 simp
theorem bytesR_at {s : ByteArray} {i : Nat} {r : List V} (h : (bytesR s)[i]? = some r) : ∃ hl : i < s.size, r = [.lit (.int .u8 ((s.data.toList[i]'(by simpa using hl)).toNat : Int))] := by
 unfold bytesR at h
 rw [List.getElem?_map] at h
 obtain ⟨b, hb, rfl⟩ := oM_ h
 obtain ⟨h1, h2⟩ := gS_ hb
 exact ⟨by simpa using h1, by rw [h2]⟩
theorem bytes_rel {M : Mem} {b : Nat} (s : ByteArray) (cap : Nat) (hc : s.size ≤ cap) : Rel (withBlock M b (bytesRow s cap)) (.slice (some ⟨b, 0, none⟩) s.size cap) (.sl (bytesR s)) := by
 refine .sl (some ⟨b, 0, none⟩) _ cap 1 b 0 _ (fun i j => ((bytesRow s cap)[i]?).getD undef) (by unfold bytesR; rw [List.length_map, Array.length_toList]; rfl) hc (fun r hr => ?_) (fun _ => rfl) (fun i r hi j x hx => ?_) (fun i r hi j x hx => ?_) (fun i r hi j x hx => ?_)
 ·obtain ⟨i, hi⟩ := List.getElem?_of_mem hr
  obtain ⟨_, rfl⟩ := bytesR_at hi
  rfl
 all_goals
  obtain ⟨hl, rfl⟩ := bytesR_at hi
  have hj : j = 0 := by have := (gS_ hx).1; simp at this; exact this
  subst hj
  rw [bytesRow_at s cap i hl]
 ·simp only [withBlock, if_true, Nat.zero_add, Nat.mul_one, Nat.add_zero]
  rw [bytesRow_at s cap i hl]; rfl
 ·rfl
 ·simp at hx
  subst hx
  exact .lit _ rfl
theorem lenR_ok (hS : Sim P Dw F0 base M0 w0 N g st a w) {tys : Array TypeId} {ty : TypeId} {args : Array Operand} {y : V} (h : lenR P st tys (args.toList.map st.ev) = some y) : ∃ u, (Builtin.len_ tys ty (args.map a.eval)).run P w = .ok u w ∧ Rel g.M u y := by
 unfold lenR at h
 split at h
 ·rename_i s p gs hargs
  obtain ⟨x, hx⟩ : ∃ x, args = #[x] ∧ st.ev x = .ref s p gs := by
   cases hl : args.toList with
   | nil => rw [hl] at hargs; simp at hargs
   | cons x r =>
    rw [hl] at hargs
    simp only [List.map_cons, List.cons.injEq, List.map_eq_nil_iff] at hargs
    exact ⟨x, by apply Array.toList_inj.1; rw [hl, hargs.2], hargs.1⟩
  obtain ⟨rfl, hev⟩ := hx
  split at h
  ·rename_i e hu
   obtain ⟨hgs, h1⟩ := gateL_some h
   obtain ⟨rows, hrows, rfl⟩ := oM_ h1
   have hx := hS.ev x
   rw [hev] at hx
   obtain ⟨k1, k3⟩ := hx hgs
   unfold rowsR at hrows
   obtain ⟨x2, m1, hrows⟩ := oB_ hrows
   obtain ⟨y2, m2, hrows⟩ := oB_ hrows
   split at hrows
   ·rename_i k0 rows'
    simp only [oE_] at hrows
    subst hrows
    obtain ⟨u, G, e1, e2, _⟩ := (hS.own s x2 m1).get p m2
    rw [k3] at e1
    obtain rfl := oJ_ e1
    have hsl : ∃ A c, a.eval x = .slice A rows'.length c := by
     generalize a.eval x = vx at e2
     cases e2 with
     | pure _ _ _ h => exact absurd h rel_osl
     | oslNil _ _ => exact ⟨_, _, rfl⟩
     | osl => exact ⟨_, _, rfl⟩
    obtain ⟨A, c, hA⟩ := hsl
    have hM : Rel g.M (.int .i64 (rows'.length : Int)) (.lit (.int .i64 (rows'.length : Int))) := .lit _ rfl
    refine ⟨_, ?_, hM⟩
    obtain ⟨t0, ht0, ht1⟩ := oB_ hu
    have e3 : Array.map a.eval #[x] = #[a.eval x] := by simp
    rw [e3, hA]
    simp [Builtin.len_, ht0, run_underlying ht1, goInt]
   ·cases hrows
  ·rename_i kt e hu
   obtain ⟨hgs, h1⟩ := gateL_some h
   obtain ⟨x2, m1, h1⟩ := oB_ h1
   obtain ⟨y2, m2, h1⟩ := oB_ h1
   have hx := hS.ev x
   rw [hev] at hx
   obtain ⟨k1, k3⟩ := hx hgs
   unfold lenM at h1
   split at h1
   ·rename_i l
    obtain rfl := oJ_ h1
    obtain ⟨u, G, e1, e2, _⟩ := (hS.own s x2 m1).get p m2
    rw [k3] at e1
    obtain rfl := oJ_ e1
    obtain ⟨b, es, clock, hA, hh, hl⟩ : ∃ b es clock, a.eval x = .map (some b) ∧ g.hp b = some (.map es clock) ∧ pairs es = l := by
     generalize a.eval x = vx at e2
     cases e2 with
     | pure _ _ _ h => exact absurd h rel_mp
     | mp _ b es clock _ hb hh hl => exact ⟨b, es, clock, rfl, hh, hl⟩
    have hM : Rel g.M (.int .i64 (l.length : Int)) (.lit (.int .i64 (l.length : Int))) := .lit _ rfl
    refine ⟨_, ?_, hM⟩
    obtain ⟨t0, ht0, ht1⟩ := oB_ hu
    have e3 : Array.map a.eval #[x] = #[a.eval x] := by simp
    have e4 : es.size = l.length := by rw [← hl]; simp [pairs]
    rw [e3, hA]
    simp [Builtin.len_, ht0, run_underlying ht1, goInt, MapKept.run_getObj_map (hS.hp b _ hh).2.1, e4]
   ·cases h1
  ·cases h
 ·obtain ⟨ha1, ha2⟩ := args_ok hS args
  rw [List.map_map] at h
  exact lenO_ok (w := w) (ty := ty) (vs := args.map a.eval) ⟨ha1, ha2⟩ h
theorem tupL_rel {M : Mem} : ∀ {vs : List Value} {l : List V}, tupL vs = some l → vs.length = l.length ∧ ∀ i x, l[i]? = some x → Rel M (vs.getD i undef) x
 | [], l, h => by simp only [tupL, oE_] at h; subst h; simp
 | v :: vs, l, h => by
  simp only [tupL] at h
  obtain ⟨x, hx, h⟩ := oB_ h
  obtain ⟨r, hr, rfl⟩ := oM_ h
  obtain ⟨h1, h2⟩ := tupL_rel (M := M) hr
  refine ⟨by simp [h1], fun i y hy => ?_⟩
  cases i with
  | zero => simp at hy; subst hy; simpa using rel_ofVal hx
  | succ i => simpa using h2 i y (by simpa using hy)
theorem lookR_rel {M : Mem} {v : Value} {x : V} (h : lookR v = some x) : Rel M v x := by
 unfold lookR at h
 split at h
 ·rename_i cs
  obtain ⟨l, hl, rfl⟩ := oM_ h
  obtain ⟨h1, h2⟩ := tupL_rel (M := M) hl
  refine .tup cs l (by simpa using h1) fun i x hx => ?_
  have := h2 i x hx
  have e : cs.toList.getD i undef = cs.getD i undef := by
   simp only [Array.getD, List.getD_eq_getElem?_getD, Array.getElem?_toList]
   by_cases hi : i < cs.size <;> simp [hi]
  rwa [e] at this
 ·exact rel_ofVal h
theorem lookV_ok (hS : Sim P Dw F0 base M0 w0 N g st a w) {G : Nat → Prop} {vm vk : Value} {x k y : V} {t : TypeId} {ok : Bool} (hown : RelT g.hp g.M G vm x) (hk0 : Rel g.M vk k) (h2 : lookV P t ok x k = some y) : ∃ v, (Instr.lookup t vm vk ok).run P w = .ok v w ∧ Rel g.M v y := by
 unfold lookV at h2
 split at h2
 ·rename_i l
  obtain ⟨kv, hk, h3⟩ := oB_ h2
  obtain ⟨v, hv, h4⟩ := oB_ h3
  have hkv := rel_val hk0 hk
  cases hown with
  | pure _ _ _ h => exact absurd h rel_mp
  | mp _ b es clock _ hb hh hl =>
   refine ⟨v, ?_, lookR_rel h4⟩
   rw [hkv, run_look (hS.hp b _ hh).2.1 hl]
   exact pure?_run hv w
 ·cases h2
theorem lookC_ok (hS : Sim P Dw F0 base M0 w0 N g st a w) {t : TypeId} {ok : Bool} {m k : Operand} {y : V} (h : lookC P st t ok (st.ev m) (st.rd k) = some y) : ∃ v, (Instr.lookup t (a.eval m) (a.eval k) ok).run P w = .ok v w ∧ Rel g.M v y := by
 have hx := hS.ev m
 unfold lookC at h
 split at h
 ·rename_i s gs hev
  rw [hev] at hx
  obtain ⟨hgs, h1⟩ := gateL_some h
  obtain ⟨x, hs, h2⟩ := oB_ h1
  obtain ⟨k1, k3⟩ := hx hgs
  simp only [walkV, oE_] at k3
  have hown := hS.own s x hs
  rw [k3] at hown
  exact lookV_ok hS hown (hS.rd k) h2
 ·rename_i s q p gs hev
  rw [hev] at hx
  obtain ⟨hgs, h1⟩ := gateL_some h
  obtain ⟨x, hs, h2⟩ := oB_ h1
  obtain ⟨z, hz, h2⟩ := oB_ h2
  obtain ⟨k1, k3⟩ := hx hgs
  obtain ⟨u, G, e1, e2, _⟩ := (hS.own s x hs).get (q :: p) hz
  rw [k3] at e1
  obtain rfl := oJ_ e1
  exact lookV_ok hS e2 (hS.rd k) h2
 ·cases h
theorem stepB_ok {env : FuncId → List V → Option V} (henv : EnvOk P Dw env) (hS : Sim P Dw F0 base M0 w0 N g st a w) {r : C × Option (List V)} (h : stepB P env s st o = some r) : OpOk P o a w (Post P g w s r) := by
 obtain ⟨dst, op, ty, pos, after, guard⟩ := o
 cases op <;> simp only [stepB, reduceCtorEq] at h
 case move x =>
  simp only [oE_] at h; subst h
  exact ⟨g.M, Grow.refl hS.mem, hS.ev x⟩
 case assign x =>
  simp only [oE_] at h; subst h
  exact ⟨g.M, Grow.refl hS.mem, hS.ev x⟩
 case pick c x y =>
  obtain ⟨z, h1, rfl⟩ := vres_some h
  unfold pickV at h1
  split at h1
  ·rename_i b hb
   simp only [oE_] at h1
   subst h1
   have hc := hS.rd c
   rw [hb] at hc
   have e := (rel_lit hc).1
   have : (execOp a.eval ⟨dst, .pick c x y, ty, pos, after, guard⟩).run P w = .ok (.value (if b then a.eval x else a.eval y)) w := by
    simp [execOp, e, asBool]
   unfold OpOk
   rw [this]
   refine post_v hS ?_
   cases b
   ·exact hS.rd y
   ·exact hS.rd x
  ·cases h1
 case alloc t =>
  obtain ⟨z, h1, rfl⟩ := oM_ h
  obtain ⟨i, zv, hi, hzv, hzr⟩ := zero_ok (M := g.M) h1
  exact ok_val (t := Instr.alloc t true (.tuple #[])) rfl (by simp [Instr.alloc, zeroValue, typeInfo, hi, hzv, newVar, newRow]; rfl) (post_box hS hzr)
 case box t x =>
  obtain ⟨z, h1, rfl⟩ := oM_ h
  exact ok_val (t := Instr.box t (a.eval x)) rfl (by simp [Instr.box, newVar, newRow]; rfl) (post_box hS (cells_rel (hS.rd x) h1))
 case build t parts =>
  obtain ⟨z, h1, rfl⟩ := vres_some h
  obtain ⟨h2, h3⟩ := parts_ok hS parts
  exact ok_plain hS rfl (build_ok h2 h3 h1)
 case buildSlice t n parts =>
  obtain ⟨z, h1, rfl⟩ := vres_some h
  obtain ⟨h2, h3⟩ := parts_ok hS parts
  obtain ⟨u, w', M', hr, hg, hrel⟩ := buildSlice_ok hS.mem h2 h3 h1
  exact ok_val rfl hr ⟨M', hg, hrel⟩
 case load t x =>
  obtain ⟨z, h1, rfl⟩ := vres_some h
  exact ok_plain hS rfl (loadC_ok hS h1)
 case lookup t m k ok =>
  obtain ⟨z, h1, rfl⟩ := vres_some h
  exact ok_plain hS rfl (lookC_ok hS h1)
 case binOp op t x y yt =>
  obtain ⟨z, h1, rfl⟩ := vres_some h
  exact ok_plain hS rfl (bin2_ok (hS.rd x) (hS.rd y) h1)
 case unOp op t x =>
  obtain ⟨z, h1, rfl⟩ := vres_some h
  exact ok_plain hS rfl (scal1_ok (hS.rd x) h1)
 case convert ss d x =>
  split at h
  ·rename_i s2 p gs hev
   split at h
   ·rename_i hk
    obtain ⟨z, h1, rfl⟩ := vres_some h
    obtain ⟨hgs, h2⟩ := gateL_some h1
    obtain ⟨rows, hrows, h3⟩ := oB_ h2
    have hx := hS.ev x
    rw [hev] at hx
    obtain ⟨k1, k3⟩ := hx hgs
    obtain ⟨A, c, hA, hcell⟩ := hS.rowsAt hrows k3
    obtain ⟨e, e1, e2, e3⟩ := convK_2 hk
    obtain ⟨u, hu, hr⟩ := b2s_ok (P := P) (M := g.M) (A := A) (c := c) e1 e2 e3 hcell h3
    rw [← hA] at hu
    exact ok_plain hS rfl ⟨u, hu, hr⟩
   ·cases h
  ·obtain ⟨z, h1, rfl⟩ := vres_some h
   unfold convV at h1
   split at h1
   ·exact ok_plain hS rfl (scal1_ok (hS.rd x) h1)
   ·rename_i hk
    obtain ⟨e, e1, e2, e3⟩ := convK_1 hk
    unfold s2b at h1
    split at h1
    ·rename_i ss2 hss
     split at h1
     ·simp only [oE_] at h1
      subst h1
      have hr := hS.rd x
      rw [hss] at hr
      have hv := (rel_lit hr).1
      refine ok_val (t := convert ss d (a.eval x)) rfl (by rw [hv]; exact run_bytes_of_string w ss d e ss2 e1 e2 e3) ?_
      exact ⟨_, grow_bytes hS.mem _ _ _, bytes_rel _ _ (grownCap_ge _ _ _ _)⟩
     ·cases h1
    ·cases h1
   ·rename_i hk
    obtain ⟨e, e1, e2, e3⟩ := convK_2 hk
    have hr := hS.rd x
    cases hx2 : st.rd x with
    | sl rows =>
     rw [hx2] at h1 hr
     obtain ⟨A, c, k, b, off, hA, hsl⟩ := rel_sl hr
     obtain ⟨u, hu, hr2⟩ := b2s_ok (P := P) (M := g.M) (w := w) (A := A) (c := c) e1 e2 e3 (fun i r n hi hn => by
      obtain ⟨j0, hj0⟩ : ∃ z0, r[0]? = some z0 := by
       unfold byteOf at hn
       split at hn
       ·exact ⟨_, rfl⟩
       ·cases hn
      have hlt : 0 < rows.length := Nat.lt_of_le_of_lt (Nat.zero_le i) (gS_ hi).1
      obtain ⟨u, hu1, _, hu3⟩ := hsl.hr i r hi 0 _ hj0
      unfold byteOf at hn
      split at hn
      ·rename_i n'
       simp only [oE_] at hn
       subst hn
       simp only [List.getElem?_cons_zero, oE_] at hj0
       subst hj0
       have e9 := (rel_lit hu3).1
       subst e9
       have hk1 : k = 1 := by rw [← hsl.hk _ (List.mem_of_getElem? hi)]; rfl
       subst hk1
       exact ⟨b, off, hsl.hA hlt, by have := hS.mem _ _ _ hu1; simpa using this⟩
      ·cases hn) h1
     rw [← hA] at hu
     exact ok_plain hS rfl ⟨u, hu, hr2⟩
    | _ => rw [hx2] at h1; simp [b2s] at h1
   ·cases h1
 case makeInterface t x =>
  obtain ⟨z, h1, rfl⟩ := vres_some h
  exact ok_plain hS rfl (scal1_ok (hS.rd x) h1)
 case makeFunc f first caps =>
  cases f <;> simp only [reduceCtorEq] at h
  rename_i ff
  split at h
  ·rename_i h0
   obtain ⟨z, h1, rfl⟩ := vres_some h
   simp only [oE_] at h1
   subst h1
   refine ok_val (u := .func (.func ff) #[] (caps.map a.eval)) (t := Instr.makeFunc (.func ff) (first.map a.eval) (caps.map a.eval)) rfl (by
    have : first.map a.eval = #[] := by apply Array.eq_empty_of_size_eq_zero; simp [h0]
    simp [Instr.makeFunc, this]) (post_v hS ?_)
   obtain ⟨h1, h2⟩ := args_ok hS caps
   exact .fn _ _ _ (by simpa using h1) (fun i x hx => by have := h2 i x hx; simpa using this)
  ·cases h
 case slice t x lo hi mx =>
  cases mx with
  | some m => simp at h
  | none =>
   simp only at h
   obtain ⟨z, h1, rfl⟩ := vres_some h
   exact ok_plain (t := Instr.sliceAt t (a.eval x) (lo.map a.eval) (hi.map a.eval) none) hS rfl (sliceV_ok (hS.rd x) (fun v hv => by
    cases lo with
    | none => cases hv
    | some q => simp at hv; subst hv; exact ⟨_, rfl, hS.rd q⟩) (fun hn => by cases lo <;> simp_all) (fun v hv => by
    cases hi with
    | none => cases hv
    | some q => simp at hv; subst hv; exact ⟨_, rfl, hS.rd q⟩) (fun hn => by cases hi <;> simp_all) h1)
 case fieldAddr t x f =>
  obtain ⟨p, hp, h1⟩ := oB_ h
  split at h1
  ·cases h1
  ·rename_i h0
   obtain ⟨c, hc, rfl⟩ := oM_ h1
   obtain ⟨v, hv, hr⟩ := fieldC_ok hS hp h0 hc
   exact ok_val rfl hv ⟨g.M, Grow.refl hS.mem, hr⟩
 case field t x f =>
  obtain ⟨z, h1, rfl⟩ := vres_some h
  exact ok_plain hS rfl (fieldV_ok (hS.rd x) h1)
 case nilCheck x =>
  obtain ⟨z, h1, rfl⟩ := vres_some h
  have hx := hS.rd x
  generalize hy : st.rd x = y at hx h1
  cases y <;> simp only [ptrF, reduceCtorEq] at h1
  rename_i l
  obtain rfl := oJ_ h1
  obtain ⟨b, o', e, _⟩ := rel_ptr hx
  unfold OpOk
  simp only [execOp, e, Sem.run_pure]
  exact ⟨g.M, Grow.refl hS.mem, by rw [← e]; simpa [RelC] using hx⟩
 case indexAddr t x i =>
  obtain ⟨z, h1, rfl⟩ := vres_some h
  exact ok_plain hS rfl (idxV_ok (hS.rd x) (hS.rd i) h1)
 case index t x i =>
  obtain ⟨z, h1, rfl⟩ := vres_some h
  exact ok_plain hS rfl (scal2_ok (hS.rd x) (hS.rd i) h1)
 case extract x i =>
  obtain ⟨z, h1, rfl⟩ := vres_some h
  exact ok_plain hS rfl (extractV_ok (hS.rd x) h1)
 case call c =>
  obtain ⟨callee, args, tys⟩ := c
  cases callee with
  | invoke r m => simp at h
  | builtin b =>
   cases b <;> simp only [reduceCtorEq] at h
   case len =>
    obtain ⟨z, h1, rfl⟩ := vres_some h
    obtain ⟨u, h2, h3⟩ := lenR_ok (ty := ty) hS h1
    exact ok_plain (t := Builtin.len_ tys ty (args.map a.eval)) hS (by simp only [execOp, resolve, pure_bind, invoke, builtin]) ⟨u, h2, h3⟩
   case max =>
    split at h
    ·rename_i x y hxy
     obtain ⟨z, h1, rfl⟩ := vres_some h
     have e : args = #[x, y] := by apply Array.toList_inj.1; exact hxy
     subst e
     exact ok_plain (t := Builtin.max_ tys ty #[a.eval x, a.eval y]) hS (by
      have e3 : Array.map a.eval #[x, y] = #[a.eval x, a.eval y] := by simp
      simp only [execOp, resolve, pure_bind, invoke, builtin, e3]) (scal2_ok (f := fun u v => Builtin.max_ tys ty #[u, v]) (hS.rd x) (hS.rd y) h1)
    ·cases h
   case min =>
    split at h
    ·rename_i x y hxy
     obtain ⟨z, h1, rfl⟩ := vres_some h
     have e : args = #[x, y] := by apply Array.toList_inj.1; exact hxy
     subst e
     exact ok_plain (t := Builtin.min_ tys ty #[a.eval x, a.eval y]) hS (by
      have e3 : Array.map a.eval #[x, y] = #[a.eval x, a.eval y] := by simp
      simp only [execOp, resolve, pure_bind, invoke, builtin, e3]) (scal2_ok (f := fun u v => Builtin.min_ tys ty #[u, v]) (hS.rd x) (hS.rd y) h1)
    ·cases h
  | value f =>
   simp only at h
   split at h
   ·unfold rowB at h
    split at h
    ·rename_i f
     obtain ⟨p, hel, h⟩ := oB_ h
     obtain ⟨y, hy, rfl⟩ := oM_ h
     split at hy
     rotate_left
     ·cases hy
     rename_i hlim
     obtain ⟨⟨fn, hfn, hname, hbody⟩, hcall⟩ := (henv.2.2 _ _ _ _ hlim.1 hy).1 hlim.2
     have hname : ¬ fn.name = "runtime.NumGoroutine" := by simpa using hname
     have hbody : ¬ fn.body = none := by intro h; rw [h] at hbody; simp at hbody
     have hrun : (execOp a.eval ⟨dst, .call ⟨.value (.func f), args, tys⟩, ty, pos, after, guard⟩).run P w = .ok (.enter f (args.map a.eval ++ #[])) w := by
      simp [execOp, resolve, Act.eval, Deferred.ofValue, invoke, callFunc, program, Sem.run, hfn, hname, hbody]
     unfold OpOk
     rw [hrun]
     simp only [Array.append_empty]
     refine (hcall w g.M (args.map a.eval) (hS.inv w hS.below) hS.mem (args_ok hS args)).mono fun en w' ⟨v, M', he, hg, hr⟩ => ⟨v, he, M', hg, .inr ⟨rfl, ?_⟩⟩
     have e1 : tagE [V.lit (.int .i64 (p.1 : Int)), y] = p.1 := by simp [tagE]
     rw [e1]; exact hr
    ·cases h
   obtain ⟨z, hz, rfl⟩ := vres_some h
   unfold callV at hz
   split at hz
   ·rename_i gf caps hf
    have hfr := hS.rd f
    rw [hf] at hfr
    obtain ⟨cs, e, hcs1, hcs2⟩ := rel_fn hfr
    split at hz
    rotate_left
    ·cases hz
    rename_i hlim
    obtain ⟨⟨fn, hfn, hname, hbody⟩, hcall⟩ := henv.1 _ _ _ hlim hz
    have hname : ¬ fn.name = "runtime.NumGoroutine" := by simpa using hname
    have hbody : ¬ fn.body = none := by intro h; rw [h] at hbody; simp at hbody
    have hrun : (execOp a.eval ⟨dst, .call ⟨.value f, args, tys⟩, ty, pos, after, guard⟩).run P w = .ok (.enter gf (args.map a.eval ++ cs)) w := by
     simp [execOp, resolve, e, Deferred.ofValue, invoke, callFunc, program, Sem.run, hfn, hname, hbody]
    unfold OpOk
    rw [hrun]
    refine (hcall w g.M (args.map a.eval ++ cs) (hS.inv w hS.below) hS.mem ?_).mono fun en w' ⟨v, M', he, hg, hr⟩ => ⟨v, he, M', hg, hr⟩
    rw [Array.toList_append]
    exact (args_ok hS args).append ⟨by simpa using hcs1, fun i x hx => by have := hcs2 i x hx; simpa using this⟩
   ·cases hz
theorem stepH_ok {env : FuncId → List V → Option V} (henv : EnvOk P Dw env) (hS : Sim P Dw F0 base M0 w0 N g st a w) {r : C × Option (List V)} (h : stepH P env s st o = some r) : OpOk P o a w (Post P g w s r) := by
 unfold stepH at h
 split at h
 ·rename_i q hq
  obtain ⟨z, hz, h1⟩ := oB_ h
  simp only [oE_] at h1
  subst h1
  obtain ⟨v, hv, hr⟩ := (addrOp_ok hS hq).2.2 z hz
  unfold OpOk
  rw [hv]
  exact ⟨g.M, Grow.refl hS.mem, hr⟩
 ·exact stepB_ok henv hS h
end
end Go.Proofs.YtgkohnjpnnofhaaGreat.Den
