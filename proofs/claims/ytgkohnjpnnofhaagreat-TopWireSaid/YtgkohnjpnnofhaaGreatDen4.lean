/- A reader of Go code in plain values: each operation that may come at any time is right (2). -/
import Derived.Test.YtgkohnjpnnofhaaGreatDen3
namespace Go.Proofs.YtgkohnjpnnofhaaGreat.Den
set_option linter.unusedSimpArgs false
set_option linter.unusedVariables false
open Go.RowKit
section
variable {P : Program} {Dw : World → Prop} {F0 : Par} {base : Nat} {M0 : Mem} {w0 w : World} {N : Nat} {g : Ghost} {st : St} {a : Act} {o : Oper} {s : Nat}
theorem idxV_ok {M : Mem} {t : TypeId} {v vi : Value} {x i y : V} (hx : Rel M v x) (hi : Rel M vi i) (h : idxV P t x i = some y) : ∃ u, (Instr.indexAt t v vi).run P w = .ok u w ∧ Rel M u y := by
 unfold idxV at h
 obtain ⟨k0, hk0, h9⟩ := oB_ h
 clear h
 have h := h9
 clear h9
 unfold elemSz at hk0
 split at hk0
 ·rename_i e hu
  unfold idxS at h
  split at h
  ·rename_i rows k n
   split at h
   ·rename_i r hr
    split at h
    ·rename_i hn
     simp only [oE_] at h
     subst h
     obtain ⟨h0, hs⟩ := hn
     subst hs
     obtain ⟨A, c, kk, b, off, rfl, hsl⟩ := rel_sl hx
     obtain ⟨rfl, -⟩ := rel_lit hi
     have hlt : n.toNat < rows.length := (gS_ hr).1
     have hA := hsl.hA (by omega)
     subst hA
     have hk : r.length = kk := hsl.hk r (List.mem_of_getElem? hr)
     subst hk
     have hb : 0 ≤ n ∧ n < (rows.length : Int) := ⟨h0, by omega⟩
     refine ⟨.pointer (some ⟨b, off + n.toNat * r.length, none⟩), by simp [Instr.indexAt, asIntOf, run_underlying hu, hb, run_sizeP hk0, addr_add], mk_ptr fun j z hz => hsl.hr n.toNat r hr j z hz⟩
    ·cases h
   ·cases h
  ·cases h
 ·cases hk0
theorem idxV_uni {M : Mem} {t : TypeId} {v vi : Value} {x i y : V} (hx : Rel M v x) (hi : Rel M vi i) (h : idxV P t x i = some y) : ∃ u, (∀ w, (Instr.indexAt t v vi).run P w = .ok u w) ∧ Rel M u y := by
 unfold idxV at h
 obtain ⟨k0, hk0, h9⟩ := oB_ h
 clear h
 have h := h9
 clear h9
 unfold elemSz at hk0
 split at hk0
 ·rename_i e hu
  unfold idxS at h
  split at h
  ·rename_i rows k n
   split at h
   ·rename_i r hr
    split at h
    ·rename_i hn
     simp only [oE_] at h
     subst h
     obtain ⟨h0, hs⟩ := hn
     subst hs
     obtain ⟨A, c, kk, b, off, rfl, hsl⟩ := rel_sl hx
     obtain ⟨rfl, -⟩ := rel_lit hi
     have hlt : n.toNat < rows.length := (gS_ hr).1
     have hA := hsl.hA (by omega)
     subst hA
     have hk : r.length = kk := hsl.hk r (List.mem_of_getElem? hr)
     subst hk
     have hb : 0 ≤ n ∧ n < (rows.length : Int) := ⟨h0, by omega⟩
     refine ⟨.pointer (some ⟨b, off + n.toNat * r.length, none⟩), fun w => by simp [Instr.indexAt, asIntOf, run_underlying hu, hb, run_sizeP hk0, addr_add], mk_ptr fun j z hz => hsl.hr n.toNat r hr j z hz⟩
    ·cases h
   ·cases h
  ·cases h
 ·cases hk0
theorem scal_ok {t : Sem Value} {M : Mem} {y : V} (h : (pure? P t).bind ofVal = some y) : ∃ u, t.run P w = .ok u w ∧ Rel M u y := by
 obtain ⟨u, hu, hy⟩ := oB_ h
 exact ⟨u, pure?_run hu w, rel_ofVal hy⟩
theorem scal1_ok {M : Mem} {f : Value → Sem Value} {v : Value} {x y : V} (hx : Rel M v x) (h : scal1 P f x = some y) : ∃ u, (f v).run P w = .ok u w ∧ Rel M u y := by
 unfold scal1 at h
 split at h
 ·rename_i u hu
  rw [rel_val hx hu]
  exact scal_ok h
 ·cases h
theorem scal2_ok {M : Mem} {f : Value → Value → Sem Value} {v v2 : Value} {x x2 y : V} (hx : Rel M v x) (hx2 : Rel M v2 x2) (h : scal2 P f x x2 = some y) : ∃ u, (f v v2).run P w = .ok u w ∧ Rel M u y := by
 unfold scal2 at h
 split at h
 ·rename_i u u2 hu hu2
  rw [rel_val hx hu, rel_val hx2 hu2]
  exact scal_ok h
 ·cases h
theorem bin2_ok {M : Mem} {op : BinOp} {t : TypeId} {xo yo : Operand} {v v2 : Value} {x x2 y : V} (hx : Rel M v x) (hx2 : Rel M v2 x2) (h : bin2 P op t xo yo x x2 = some y) :
  ∃ u, (do eqGuard op t xo yo v v2; binOp op t v v2 : Sem Value).run P w = .ok u w ∧ Rel M u y := by
 unfold bin2 at h
 split at h
 ·rename_i u u2 hu hu2
  rw [rel_val hx hu, rel_val hx2 hu2]
  exact scal_ok h
 ·cases h
theorem boundL_none {d n : Nat} (h : boundL none d = some n) : n = d := by simpa [boundL] using h.symm
theorem boundL_some {M : Mem} {v : Value} {x : V} {d n : Nat} (hx : Rel M v x) (h : boundL (some x) d = some n) : ∃ k, v = .int k n := by
 unfold boundL at h
 split at h
 ·rename_i e; cases e
 ·rename_i k m e
  simp only [oE_] at e
  subst e
  split at h
  ·rename_i hm
   simp only [oE_] at h
   obtain ⟨rfl, -⟩ := rel_lit hx
   exact ⟨k, by rw [← h, Int.toNat_of_nonneg hm]⟩
  ·cases h
 ·cases h
theorem run_bounds {M : Mem} {len cap : Nat} {b : Bool} {lo hi : Option Value} {xl xh : Option V} {l h : Nat} (hlo : ∀ v, lo = some v → ∃ x, xl = some x ∧ Rel M v x) (hlo' : lo = none → xl = none) (hhi : ∀ v, hi = some v → ∃ x, xh = some x ∧ Rel M v x) (hhi' : hi = none → xh = none)
  (el : boundL xl 0 = some l) (eh : boundL xh len = some h) (h1 : l ≤ h) (h2 : h ≤ len) (h3 : len ≤ cap) : (Instr.sliceBounds b len cap lo hi none).run P w = .ok (l, h, cap) w := by
 have e1 : lo = none ∧ l = 0 ∨ ∃ k, lo = some (.int k (l : Int)) := by
  cases lo with
  | none => rw [hlo' rfl] at el; exact .inl ⟨rfl, boundL_none el⟩
  | some v =>
   obtain ⟨x, rfl, hx⟩ := hlo v rfl
   obtain ⟨k, rfl⟩ := boundL_some hx el
   exact .inr ⟨k, rfl⟩
 have e2 : hi = none ∧ h = len ∨ ∃ k, hi = some (.int k (h : Int)) := by
  cases hi with
  | none => rw [hhi' rfl] at eh; exact .inl ⟨rfl, boundL_none eh⟩
  | some v =>
   obtain ⟨x, rfl, hx⟩ := hhi v rfl
   obtain ⟨k, rfl⟩ := boundL_some hx eh
   exact .inr ⟨k, rfl⟩
 have c1 : (h : Int) ≤ (cap : Int) := by omega
 have c2 : (l : Int) ≤ (h : Int) := by omega
 have c3 : h ≤ cap := by omega
 have c0 : (0 : Int) ≤ (l : Int) := by omega
 have c00 : (0 : Int) ≤ (h : Int) := by omega
 rcases e1 with ⟨rfl, rfl⟩ | ⟨k1, rfl⟩ <;> rcases e2 with ⟨rfl, rfl⟩ | ⟨k2, rfl⟩ <;> simp [Instr.sliceBounds, Instr.sliceBound, asIntOf, h1, h2, h3, c1, c2, c3, c0, c00]
theorem sliceV_uni {M : Mem} {t : TypeId} {v : Value} {x y : V} {lo hi : Option Value} {xl xh : Option V} (hx : Rel M v x) (hlo : ∀ v, lo = some v → ∃ x, xl = some x ∧ Rel M v x) (hlo' : lo = none → xl = none) (hhi : ∀ v, hi = some v → ∃ x, xh = some x ∧ Rel M v x) (hhi' : hi = none → xh = none)
  (h : sliceV P t x xl xh = some y) : ∃ u, (∀ w, (Instr.sliceAt t v lo hi none).run P w = .ok u w) ∧ Rel M u y := by
 unfold sliceV at h
 split at h
 case h_2 hk0 =>
  split at h
  ·unfold glsV at h
   split at h
   ·rename_i n e hu
    split at h
    ·rename_i n' k' hs
     unfold glslc at h
     split at h
     ·rename_i a
      simp only [oE_] at h
      subst h
      obtain ⟨rfl, -⟩ := rel_lit hx
      have e1 : lo = none := by
       cases hlo0 : lo with
       | none => rfl
       | some v => obtain ⟨x, hx1, _⟩ := hlo v hlo0; cases hx1
      have e2 : hi = none := by
       cases hhi0 : hi with
       | none => rfl
       | some v => obtain ⟨x, hx1, _⟩ := hhi v hhi0; cases hx1
      subst e1; subst e2
      refine ⟨.slice (some (a.add 0)) (n' + 1) (n' + 1), fun w => ?_, .lit _ rfl⟩
      simp [Instr.sliceAt, Instr.sureAddr, run_underlying hu, Instr.sliceBounds, Instr.sliceBound, run_sizeP hs]
     ·cases h
    ·cases h
   ·cases h
  ·cases h
 rename_i kk0 hkk0
 unfold slc at h
 split at h
 ·rename_i k rows
  obtain ⟨e, hu, hs⟩ : ∃ e, P.underlying t = some (.slice e) ∧ sizeP P e = some k := by
   unfold kindS at hkk0
   split at hkk0
   ·rename_i e hu
    obtain ⟨k1, h1, h2⟩ := oM_ hkk0
    simp only [oE_] at h2
    subst h2
    exact ⟨e, hu, h1⟩
   ·simp at hkk0
   ·cases hkk0
  split at h
  ·rename_i l hh el eh
   split at h
   ·rename_i hc
    obtain ⟨h1, h2, h3⟩ := hc
    simp only [oE_] at h
    subst h
    obtain ⟨A, c, kk, b, off, rfl, hsl⟩ := rel_sl hx
    have hb := fun w => run_bounds (P := P) (w := w) (b := true) (cap := c) hlo hlo' hhi hhi' el eh h1 h2 hsl.hc
    have hall : ∀ r ∈ rows, r.length = k := fun r hr => by simpa using List.all_eq_true.1 h3 r hr
    refine ⟨.slice (if c = l then A else A.map (·.add (l * k))) (hh - l) (c - l), fun w => by simp [Instr.sliceAt, Instr.slice, run_underlying hu, hb, run_sizeP hs], ?_⟩
    have hlen : ((rows.take hh).drop l).length = hh - l := by simp; omega
    have hget : ∀ i r, ((rows.take hh).drop l)[i]? = some r → rows[l + i]? = some r := by
     intro i r hr
     rw [List.getElem?_drop, List.getElem?_take] at hr
     split at hr
     ·exact hr
     ·cases hr
    have hsl2 : IsSl M (if c = l then A else A.map (·.add (l * k))) (c - l) ((rows.take hh).drop l) k b (off + l * k) := by
     refine ⟨by have := hsl.hc; omega, fun r hr => hall r (List.mem_of_mem_take (List.mem_of_mem_drop hr)), fun hp => ?_, fun i r hr j z hz => ?_⟩
     ·have := hsl.hc
      rw [if_neg (by omega), hsl.hA (by omega)]
      simp [addr_add]
     ·have hr' := hget i r hr
      have hmem := List.mem_of_getElem? hr'
      have hkk : kk = k := by rw [← hsl.hk r hmem, hall r hmem]
      subst hkk
      have := hsl.hr (l + i) r hr' j z hz
      rwa [show off + (l + i) * kk + j = off + l * kk + i * kk + j by rw [Nat.add_mul]; omega] at this
    have := hsl2.rel
    rwa [hlen] at this
   ·cases h
  ·cases h
 ·rename_i ss
  have hu : P.underlying t = some .string := by
   unfold kindS at hkk0
   split at hkk0
   ·obtain ⟨k1, h1, h2⟩ := oM_ hkk0
    simp at h2
   ·rename_i hu; exact hu
   ·cases hkk0
  split at h
  ·rename_i l hh el eh
   split at h
   ·rename_i hc
    simp only [oE_] at h
    subst h
    obtain ⟨rfl, -⟩ := rel_lit hx
    have hb := fun w => run_bounds (P := P) (w := w) (b := false) (cap := ss.size) hlo hlo' hhi hhi' el eh hc.1 hc.2 (Nat.le_refl _)
    exact ⟨.string (ss.extract l hh), fun w => by simp [Instr.sliceAt, Instr.slice, run_underlying hu, hb], .lit _ rfl⟩
   ·cases h
  ·cases h
 ·cases h
theorem sliceV_ok {M : Mem} {t : TypeId} {v : Value} {x y : V} {lo hi : Option Value} {xl xh : Option V} (hx : Rel M v x) (hlo : ∀ v, lo = some v → ∃ x, xl = some x ∧ Rel M v x) (hlo' : lo = none → xl = none) (hhi : ∀ v, hi = some v → ∃ x, xh = some x ∧ Rel M v x) (hhi' : hi = none → xh = none)
  (h : sliceV P t x xl xh = some y) : ∃ u, (Instr.sliceAt t v lo hi none).run P w = .ok u w ∧ Rel M u y := by
 obtain ⟨u, h1, h2⟩ := sliceV_uni hx hlo hlo' hhi hhi' h
 exact ⟨u, h1 w, h2⟩
theorem extractV_ok {M : Mem} {v : Value} {x y : V} {i : Nat} (hx : Rel M v x) (h : extractV x i = some y) : ∃ u, (Instr.extract v i).run P w = .ok u w ∧ Rel M u y := by
 unfold extractV at h
 split at h
 ·rename_i l
  obtain ⟨cs, rfl, hs, hr⟩ := rel_tup hx
  have hlt : i < cs.size := by rw [hs]; exact (gS_ h).1
  exact ⟨cs[i], by simp [Instr.extract, hlt], by have := hr i y h; simpa [Array.getD, hlt] using this⟩
 ·cases h
theorem cells_rel {M : Mem} {v : Value} {x : V} {l : List V} (hx : Rel M v x) (h : x.cellsO = some l) : RelCells M v.cells l := by
 cases hx with
 | lit v h1 =>
  simp only [V.cellsO, oE_] at h
  subst h
  have : v.cells = #[v] := by cases v <;> simp_all [Value.cells, Value.oneCell']
  rw [this]
  refine ⟨rfl, fun j y hy => ?_⟩
  cases j with
  | zero => simp at hy; subst hy; exact ⟨h1, .lit v h1⟩
  | succ j => simp at hy
 | any v => simp [V.cellsO] at h
 | agg cs l' hs h1 hr =>
  simp only [V.cellsO, oE_] at h
  subst h
  exact ⟨hs, fun j y hy => ⟨h1 j (gS_ hy).1, hr j y hy⟩⟩
 | tup cs l' hs hr => simp [V.cellsO] at h
 | sl A n c k b o rows u hn hc hk hA hm h1 hr =>
  simp only [V.cellsO, oE_] at h
  subst h
  refine ⟨rfl, fun j y hy => ?_⟩
  cases j with
  | zero => simp at hy; subst hy; exact ⟨rfl, .sl A n c k b o rows u hn hc hk hA hm h1 hr⟩
  | succ j => simp at hy
 | ptr b o l' u hm h1 hr =>
  simp only [V.cellsO, oE_] at h
  subst h
  refine ⟨rfl, fun j y hy => ?_⟩
  cases j with
  | zero => simp at hy; subst hy; exact ⟨rfl, .ptr b o l' u hm h1 hr⟩
  | succ j => simp at hy
 | fn f cs l' hs hr =>
  simp only [V.cellsO, oE_] at h
  subst h
  refine ⟨rfl, fun j y hy => ?_⟩
  cases j with
  | zero => simp at hy; subst hy; exact ⟨rfl, .fn f cs l' hs hr⟩
  | succ j => simp at hy
theorem foldl_set (off : Nat) : ∀ (l : List Value) (k : Nat) (cells : Array Value), off + k + l.length ≤ cells.size →
  ((l.zipIdx k).foldl (fun cs (p : Value × Nat) => cs.setIfInBounds (off + p.2) p.1) cells).size = cells.size ∧
  ∀ i, ((l.zipIdx k).foldl (fun cs (p : Value × Nat) => cs.setIfInBounds (off + p.2) p.1) cells).getD i undef = if off + k ≤ i ∧ i < off + k + l.length then l.getD (i - (off + k)) undef else cells.getD i undef
 | [], k, cells, _ => ⟨rfl, fun i => by simp; omega⟩
 | x :: l, k, cells, h => by
  simp only [List.length_cons] at h
  obtain ⟨h1, h2⟩ := foldl_set off l (k + 1) (cells.setIfInBounds (off + k) x) (by simp; omega)
  simp only [List.zipIdx_cons, List.foldl_cons]
  refine ⟨by rw [h1]; simp, fun i => ?_⟩
  rw [h2 i]
  by_cases e : i = off + k
  ·subst e
   have hlt : off + k < cells.size := by omega
   rw [if_neg (by omega), if_pos (by simp)]
   simp [Array.getD, hlt]
  ·by_cases hi : off + (k + 1) ≤ i ∧ i < off + (k + 1) + l.length
   ·rw [if_pos hi, if_pos (by simp; omega)]
    rw [show i - (off + k) = (i - (off + (k + 1))) + 1 by omega]
    simp
   ·rw [if_neg hi, if_neg (by simp; omega)]
    have : off + k ≠ i := Ne.symm e
    simp [Array.getElem?_setIfInBounds_ne this]
theorem splice {M : Mem} {cells v : Array Value} {l x : List V} {off : Nat} (hc : RelCells M cells l) (hv : RelCells M v x) (hle : off + x.length ≤ l.length) :
  RelCells M (v.zipIdx.foldl (fun cs (p : Value × Nat) => cs.setIfInBounds (off + p.2) p.1) cells) (l.take off ++ x ++ l.drop (off + x.length)) := by
 have hvs : v.toList.length = x.length := by rw [← hv.1]; simp
 obtain ⟨h1, h2⟩ := foldl_set off v.toList 0 cells (by rw [hvs, hc.1]; omega)
 have e : v.zipIdx.foldl (fun cs (p : Value × Nat) => cs.setIfInBounds (off + p.2) p.1) cells = (v.toList.zipIdx 0).foldl (fun cs (p : Value × Nat) => cs.setIfInBounds (off + p.2) p.1) cells := by
  rw [← Array.foldl_toList]; simp
 rw [e]
 refine ⟨by rw [h1, hc.1]; simp; omega, fun j y hy => ?_⟩
 rw [h2 j]
 have hlt : (l.take off).length = off := by simp; omega
 by_cases ha : j < off
 ·rw [if_neg (by omega)]
  rw [List.append_assoc, List.getElem?_append_left (by omega), List.getElem?_take, if_pos ha] at hy
  exact hc.2 j y hy
 ·by_cases hb : j < off + x.length
  ·rw [if_pos (by omega)]
   rw [List.append_assoc, List.getElem?_append_right (by omega), hlt, List.getElem?_append_left (by omega)] at hy
   have := hv.2 (j - off) y hy
   have e2 : v.toList.getD (j - (off + 0)) undef = v.getD (j - off) undef := by simp
   rw [e2]; exact this
  ·rw [if_neg (by omega)]
   rw [List.getElem?_append_right (by simp; omega), List.getElem?_drop] at hy
   have e3 : off + x.length + (j - (l.take off ++ x).length) = j := by simp; omega
   rw [e3] at hy
   exact hc.2 j y hy
theorem fill_ok {M : Mem} {place : Nat → Option (Nat × Nat)} : ∀ {parts : List (Nat × V)} {ps : List (Nat × Nat × V)} {vparts : List (Nat × Value)} {cells : Array Value} {l out : List V}, RelCells M cells l → vparts.length = parts.length → (∀ (i : Nat) (p : Nat × V), parts[i]? = some p → ∃ v, vparts[i]? = some (p.1, v) ∧ Rel M v p.2) →
  ps.length = parts.length → (∀ (i : Nat) (p : Nat × V), parts[i]? = some p → ∃ q, place p.1 = some q ∧ ps[i]? = some (q.1, q.2, p.2)) →
  fillL l ps = some out → ∃ cells', Instr.fill place cells vparts = some cells' ∧ RelCells M cells' out
 | [], ps, vparts, cells, l, out, hc, hl, _, hpl, _, h => by
  have : vparts = [] := List.eq_nil_of_length_eq_zero hl
  subst this
  have : ps = [] := List.eq_nil_of_length_eq_zero hpl
  subst this
  simp only [fillL, oE_] at h
  subst h
  exact ⟨cells, rfl, hc⟩
 | (i, x) :: parts, ps, vparts, cells, l, out, hc, hl, hp, hpl, hps, h => by
  obtain ⟨v, hv, hvx⟩ := hp 0 (i, x) rfl
  obtain ⟨⟨off, size⟩, hq1, hq2⟩ := hps 0 (i, x) rfl
  cases vparts with
  | nil => simp at hv
  | cons q vparts =>
   simp at hv
   subst hv
   cases ps with
   | nil => simp at hq2
   | cons q2 ps =>
    simp at hq2
    subst hq2
    simp only [fillL] at h
    obtain ⟨cs, hcs, h⟩ := oB_ h
    obtain ⟨c2, hc2, h⟩ := oB_ h
    obtain ⟨e0, e00, rfl⟩ := spliceO_some hc2
    simp only at e0 e00 hcs hq1 h
    have hr := cells_rel hvx hcs
    have := splice hc hr (by omega : off + cs.length ≤ l.length)
    rw [e0] at this
    obtain ⟨cells', h1, h2⟩ := fill_ok (parts := parts) this (by simpa using hl) (fun j p hj => by simpa using hp (j + 1) p (by simpa using hj)) (by simpa using hpl) (fun j p hj => by simpa using hps (j + 1) p (by simpa using hj)) h
    refine ⟨cells', ?_, h2⟩
    have e1 : v.cells.size = size := by rw [hr.1]; exact e0
    have e2 : ¬ (off + size > cells.size) := by rw [hc.1]; omega
    simp only [Instr.fill, hq1, e1]
    simp [e2]
    simpa using h1
theorem partsL_ok {ps : List (Nat × Nat)} : ∀ {parts : List (Nat × V)} {l : List (Nat × Nat × V)}, partsL ps parts = some l → l.length = parts.length ∧ ∀ (i : Nat) (p : Nat × V), parts[i]? = some p → ∃ q, ps[p.1]? = some q ∧ l[i]? = some (q.1, q.2, p.2)
 | [], l, h => by
  simp only [partsL, oE_] at h
  subst h
  exact ⟨rfl, by simp⟩
 | p :: rest, l, h => by
  simp only [partsL] at h
  split at h
  ·rename_i q hq
   split at h
   ·rename_i l' hl'
    simp only [oE_] at h
    subst h
    obtain ⟨h1, h2⟩ := partsL_ok hl'
    refine ⟨by simp [h1], fun i p' hi => ?_⟩
    cases i with
    | zero => simp at hi; subst hi; exact ⟨q, hq, rfl⟩
    | succ i => simpa using h2 i p' (by simpa using hi)
   ·cases h
  ·cases h
theorem zero_ok {M : Mem} {t : TypeId} {z : List V} (h : zeroP P t = some z) : ∃ i v, P.info? t = some i ∧ i.zero = some v ∧ RelCells M v.cells z := by
 unfold zeroP at h
 obtain ⟨v, h1, h2⟩ := oB_ h
 obtain ⟨i, h3, h4⟩ := oB_ h1
 obtain ⟨x, h5, h6⟩ := oM_ h2
 subst h6
 have hne : ∀ l, ofVal v = some (.tup l) → False := by
  intro l hl
  unfold ofVal at hl
  split at hl
  ·split at hl <;> simp at hl
  ·cases hl
  ·unfold cellV at hl; split at hl <;> simp at hl
 have hna : ofVal v = some .any → False := by
  intro hl
  unfold ofVal at hl
  split at hl
  ·split at hl <;> simp at hl
  ·cases hl
  ·unfold cellV at hl; split at hl <;> simp at hl
 refine ⟨i, v, h3, h4, cells_rel (rel_ofVal h5) ?_⟩
 cases x <;> first | rfl | exact absurd h5 (fun h => hne _ h) | exact absurd h5 hna
theorem build_ok {M : Mem} {t : TypeId} {parts : List (Nat × V)} {vparts : Array (Nat × Value)} {y : V} (hl : vparts.toList.length = parts.length) (hp : ∀ (i : Nat) (p : Nat × V), parts[i]? = some p → ∃ v, vparts.toList[i]? = some (p.1, v) ∧ Rel M v p.2) (h : buildO P t parts = some y) :
  ∃ u, (Instr.build t vparts).run P w = .ok u w ∧ Rel M u y := by
 unfold buildO at h
 split at h
 ·rename_i ps z hps hz
  split at h
  ·rename_i l hpl
   obtain ⟨out, hf, rfl⟩ := oM_ h
   obtain ⟨i, zv, hi, hzv, hzr⟩ := zero_ok (M := M) hz
   obtain ⟨hp1, hp2⟩ := partsL_ok hpl
   obtain ⟨cells, h1, h2⟩ := fill_ok (place := (ps.toArray[·]?)) hzr hl hp hp1 (fun i p hip => by
    obtain ⟨q, hq1, hq2⟩ := hp2 i p hip
    exact ⟨q, by simpa using hq1, hq2⟩) hf
   refine ⟨.agg cells, run_build w t vparts cells ?_, .agg _ _ h2.1 (fun j hj => ?_) fun j x hx => (h2.2 j x hx).2⟩
   ·unfold placesP at hps
    unfold Program.built
    cases hu : P.underlying t with
    | none => simp [hu] at hps
    | some d =>
     cases d <;> simp only [hu, reduceCtorEq] at hps
     rename_i fs
     simp only [hi, hzv, hps]
     exact h1
   ·exact (h2.2 j _ (gE_ hj)).1
  ·cases h
 ·cases h
end
end Go.Proofs.YtgkohnjpnnofhaaGreat.Den
