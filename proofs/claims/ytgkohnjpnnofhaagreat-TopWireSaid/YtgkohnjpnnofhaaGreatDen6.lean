/- A reader of Go code in plain values: append; operations that come in one order. -/
import Derived.Test.YtgkohnjpnnofhaaGreatDen5
import Derived.ArgAppend
namespace Go.Proofs.YtgkohnjpnnofhaaGreat.Den
set_option linter.unusedSimpArgs false
set_option linter.unusedVariables false
set_option linter.unnecessarySimpa false
open Go.RowKit
section
variable {P : Program} {Dw : World → Prop} {F0 : Par} {base : Nat} {M0 : Mem} {w0 w : World} {N : Nat} {g : Ghost} {st : St} {a : Act} {o : Oper} {s : Nat}
theorem append_run {t ty e k bytes : Nat} (el : Elem P t e k bytes) {v : Value} {xs : List (List Value)} (hown : Owns w base e k v xs) {A : Option Addr} {c : Nat} {ys : List (List Value)} (hy : RowC w k A ys.length c ys)
  (h1 : ∀ cs ∈ ys, ∀ u ∈ cs, u.oneCell' = true) (h63 : xs.length + ys.length ≤ maxLen) (hbytes : (xs.length + ys.length) * bytes ≤ 140737488355328) (hbase : base ≤ w.heap.size) :
  ∃ v' w', (Builtin.append_ #[t, t] ty #[v, .slice A ys.length c]).run P w = .ok v' w' ∧ Owns w' base e k v' (xs ++ ys) ∧ ((v'.ownBlock = v.ownBlock ∧ w.grownBy w' v.ownBlock) ∨ (v'.ownBlock = some w.heap.size ∧ w.grownBy w' none)) := by
 have hkk : ∀ cs ∈ xs ++ ys, cs.length = k := fun cs hcs => (List.mem_append.1 hcs).elim (hown.2 cs) (hy.2.2.1 cs)
 rcases Nat.eq_zero_or_pos ys.length with h0 | h0
 ·have hn : ys = [] := List.eq_nil_of_length_eq_zero h0
  subst hn
  have hrun : ∀ A', (Builtin.append_ #[t, t] ty #[v, .slice A' 0 c]).run P w = (Builtin.append_ #[t, t] ty #[v, .slice none 0 c]).run P w := by
   intro A'
   cases A' with
   | none => rfl
   | some ad =>
    obtain ⟨i, z, hi, hz, hsize, hby, hzs⟩ := el.hi
    rcases hown.1.2 with ⟨rfl, _⟩ | ⟨q, cap, cur, rfl, _, _, hnc, _⟩
    ·simp [Builtin.append_, run_underlying el.ht, sizeOf, typeInfo, hi, Builtin.lenOf, Builtin.firstCells, loadCells, loadCellsFrom]
    ·simp [Builtin.append_, run_underlying el.ht, sizeOf, typeInfo, hi, Builtin.lenOf, Builtin.firstCells, hnc, storeCells, loadCells, loadCellsFrom]
  refine ⟨v, w, (hrun A).trans (run_append_nil el hown c), by simpa using hown, .inl ⟨rfl, ⟨rfl, rfl, rfl, Nat.le_refl _, fun _ _ _ => rfl⟩⟩⟩
 ·obtain ⟨b, off, rfl, hlt, hc⟩ := hy.2.2.2 h0
  obtain ⟨i, z, hi, hz, hsize, hby, hzs⟩ := el.hi
  have hl : ys.flatten.length = ys.length * k := flatten_length hy.2.2.1
  have hcells : ∀ j u, ys.flatten[j]? = some u → w.cell? ((⟨b, off, none⟩ : Addr).add j) = some u := by
   intro j u hu
   have hjl : j < ys.flatten.length := (gS_ hu).1
   rw [hl] at hjl
   have hq : j / k < ys.length := (Nat.div_lt_iff_lt_mul el.hk).2 hjl
   have hcs := gE_ hq
   have hlen := hy.2.2.1 _ (List.getElem_mem hq)
   have hr : j % k < ys[j / k].length := by rw [hlen]; exact Nat.mod_lt _ el.hk
   have he : j / k * k + j % k = j := by rw [Nat.mul_comm]; exact Nat.div_add_mod j k
   have h4 := flatten_at hy.2.2.1 hcs (gE_ hr)
   rw [he, hu] at h4
   have h5 := hc _ _ hcs _ _ (gE_ hr)
   rw [← h4] at h5
   rw [addr_add, ← he, ← Nat.add_assoc]
   exact h5
  have h1' : ∀ u ∈ ys.flatten, u.oneCell' = true := fun u hu => by obtain ⟨cs, hcs, hu⟩ := List.mem_flatten.1 hu; exact h1 cs hcs u hu
  obtain ⟨v', w', hr, h2, h3, _, h5⟩ := run_append_own_at (P := P) w base t ty e i z k bytes el.ht hi hz hsize hby hzs el.hk v xs.length xs.flatten hown.1 ⟨b, off, none⟩ ys.length c ys.flatten hl hcells h1' h63 hbytes hbase
  refine ⟨v', w', hr, ⟨by simpa [List.length_append, List.flatten_append] using h2, hkk⟩, ?_⟩
  have h63' : ((xs.length + ys.length : Nat) : Int) ≤ 9223372036854775807 := by unfold maxLen at h63; omega
  subst hsize hby
  rcases hown.1.2 with ⟨rfl, hx0⟩ | ⟨q, cap, cur, rfl, hbq, hq, hnc, hcm, hcs, htake⟩
  ·have h6 := Go.run_append_nil (P := P) w t ty e i z el.ht hi hz ⟨b, off, none⟩ ys.length c ys.flatten hl hcells h0 (by omega) (by have hb2 := hbytes; rw [hx0, Nat.zero_add] at hb2; omega)
   rw [hr] at h6
   simp only [Result.ok.injEq] at h6
   obtain ⟨rfl, rfl⟩ := h6
   exact .inr ⟨rfl, ⟨rfl, rfl, rfl, by simp, fun n hn _ => Below.heap_alloc w.drew _ n hn⟩⟩
  ·by_cases hroom : xs.length + ys.length ≤ cap
   ·have hfit : xs.length * i.size + ys.flatten.length ≤ cur.size := by rw [hl, hcs, ← Nat.add_mul]; exact Nat.mul_le_mul_right _ hroom
    have h6 := run_append_room (P := P) w t ty e i el.ht hi q xs.length cap cur hq ⟨b, off, none⟩ ys.length c ys.flatten hl hcells h1' hroom hfit
    rw [hr] at h6
    simp only [Result.ok.injEq] at h6
    obtain ⟨rfl, rfl⟩ := h6
    exact .inl ⟨rfl, h3⟩
   ·have holds : ∀ j u, xs.flatten[j]? = some u → w.cell? ((⟨q, 0, none⟩ : Addr).add j) = some u := hown.1.cells (g := q) rfl
    have h6 := run_append_grow (P := P) w t ty e i z el.ht hi hz ⟨q, 0, none⟩ xs.length cap xs.flatten hown.1.1 holds ⟨b, off, none⟩ ys.length c ys.flatten hl hcells (by omega) h63' (growslice_fits (by omega) hbytes)
    rw [hr] at h6
    simp only [Result.ok.injEq] at h6
    obtain ⟨rfl, rfl⟩ := h6
    exact .inr ⟨rfl, ⟨rfl, rfl, rfl, by simp, fun n hn _ => Below.heap_alloc w.drew _ n hn⟩⟩
theorem heap_setCells {b e : Nat} {fz : Nat × Nat} : ∀ (vs : List Value) (o : Nat) (w : World) (cur : Array Value), w.heap[b]? = some (.cells cur e fz) → ∃ cur', (w.setCells b o vs).heap[b]? = some (.cells cur' e fz) ∧ cur'.size = cur.size ∧ (w.setCells b o vs).heap.size = w.heap.size ∧ (w.setCells b o vs).os = w.os ∧ (w.setCells b o vs).tape = w.tape ∧ (w.setCells b o vs).output = w.output ∧ ∀ n, n ≠ b → (w.setCells b o vs).heap[n]? = w.heap[n]?
 | [], o, w, cur, h => ⟨cur, h, rfl, rfl, rfl, rfl, rfl, fun _ _ => rfl⟩
 | v :: vs, o, w, cur, h => by
  have hn : (w.setCell ⟨b, o, none⟩ v).heap[b]? = some (.cells (cur.setIfInBounds o v) e fz) := by
   simp only [World.setCell, Array.getElem?_modify, if_true]
   rw [h]
   simp
  obtain ⟨cur', h1, h2, h3, h4, h5, h6, h7⟩ := heap_setCells vs (o + 1) (w.setCell ⟨b, o, none⟩ v) _ hn
  refine ⟨cur', h1, by rw [h2]; simp, by rw [show (w.setCells b o (v :: vs)) = (w.setCell ⟨b, o, none⟩ v).setCells b (o + 1) vs from rfl, h3]; simp [World.setCell], h4.trans rfl, h5.trans rfl, h6.trans rfl, fun n hne => (h7 n hne).trans (Below.heap_setCell _ _ _ _ hne)⟩
def AppAlt (w w' : World) (k m : Nat) (v v' : Value) (xs : List (List Value)) : Prop :=
 (m = 0 ∧ v' = v ∧ w' = w) ∨
 (∃ q off cap, 0 < m ∧ v = .slice (some ⟨q, off, none⟩) xs.length cap ∧ v' = .slice (some ⟨q, off, none⟩) (xs.length + m) cap ∧ xs.length < cap ∧ w.grownBy w' (some q) ∧ ∀ o, o < off + xs.length * k → w'.cell? ⟨q, o, none⟩ = w.cell? ⟨q, o, none⟩) ∨
 (v'.ownBlock = some w.heap.size ∧ offOf v' = 0 ∧ w.grownBy w' none)
theorem append_runO {t ty e k bytes : Nat} (el : Elem P t e k bytes) {v : Value} {xs : List (List Value)} (hown : OwnsO w base e k v xs) {A : Option Addr} {c : Nat} {ys : List (List Value)} (hy : RowC w k A ys.length c ys)
  (h1 : ∀ cs ∈ ys, ∀ u ∈ cs, u.oneCell' = true) (h63 : xs.length + ys.length ≤ maxLen) (hbytes : (xs.length + ys.length) * bytes ≤ 140737488355328) (hbase : base ≤ w.heap.size) :
  ∃ v' w', (Builtin.append_ #[t, t] ty #[v, .slice A ys.length c]).run P w = .ok v' w' ∧ OwnsO w' base e k v' (xs ++ ys) ∧ AppAlt w w' k ys.length v v' xs := by
 have hkk : ∀ cs ∈ xs ++ ys, cs.length = k := fun cs hcs => (List.mem_append.1 hcs).elim (hown.1 cs) (hy.2.2.1 cs)
 obtain ⟨hxk, hd⟩ := hown
 rcases hd with ⟨rfl, rfl⟩ | ⟨q, off, cap, cur, rfl, hbq, hq, hnc, hcm, hcs, hcur⟩
 ·obtain ⟨v', w', hr, h2, h3⟩ := append_run (ty := ty) el (Owns.nil_ w base e k) hy h1 h63 hbytes hbase
  refine ⟨v', w', hr, h2.toO, ?_⟩
  rcases Nat.eq_zero_or_pos ys.length with h0 | h0
  ·have hn : ys = [] := List.eq_nil_of_length_eq_zero h0
   subst hn
   have hrun : ∀ A', (Builtin.append_ #[t, t] ty #[.slice none 0 0, .slice A' 0 c]).run P w = (Builtin.append_ #[t, t] ty #[.slice none 0 0, .slice none 0 c]).run P w := by
    intro A'
    cases A' with
    | none => rfl
    | some ad =>
     obtain ⟨i, z, hi, hz, hsize, hby, hzs⟩ := el.hi
     simp [Builtin.append_, run_underlying el.ht, sizeOf, typeInfo, hi, Builtin.lenOf, Builtin.firstCells, loadCells, loadCellsFrom]
   have h6 := (hrun A).trans (run_append_nil el (Owns.nil_ w base e k) c)
   have hr' : (Builtin.append_ #[t, t] ty #[.slice none 0 0, .slice A 0 c]).run P w = .ok v' w' := hr
   rw [hr'] at h6
   simp only [Result.ok.injEq] at h6
   exact .inl ⟨rfl, h6.1, h6.2⟩
  ·rcases h3 with ⟨h4, h5⟩ | ⟨h4, h5⟩
   ·exfalso
    obtain ⟨⟨_, h8⟩, _⟩ := h2
    rcases h8 with ⟨_, h9⟩ | ⟨g, cap, cur, h9, _⟩
    ·rw [List.length_append] at h9; omega
    ·rw [h9] at h4; cases h4
   ·refine .inr (.inr ⟨h4, ?_, h5⟩)
    obtain ⟨⟨_, h8⟩, _⟩ := h2
    rcases h8 with ⟨h9, _⟩ | ⟨g, cap, cur, h9, _⟩
    ·rw [h9]; rfl
    ·rw [h9]; rfl
 ·obtain ⟨i, z, hi, hz, hsize, hby, hzs⟩ := el.hi
  have hfl : xs.flatten.length = xs.length * k := flatten_length hxk
  rcases Nat.eq_zero_or_pos ys.length with h0 | h0
  ·have hn : ys = [] := List.eq_nil_of_length_eq_zero h0
   subst hn
   refine ⟨.slice (some ⟨q, off, none⟩) xs.length cap, w, ?_, ?_, .inl ⟨rfl, rfl, rfl⟩⟩
   ·cases A with
    | none => simp [Builtin.append_, run_underlying el.ht, sizeOf, typeInfo, hi, Builtin.lenOf, Builtin.firstCells, hnc, storeCells, loadCells, loadCellsFrom]
    | some ad => simp [Builtin.append_, run_underlying el.ht, sizeOf, typeInfo, hi, Builtin.lenOf, Builtin.firstCells, hnc, storeCells, loadCells, loadCellsFrom]
   ·rw [List.append_nil]
    exact ⟨hxk, .inr ⟨q, off, cap, cur, rfl, hbq, hq, hnc, hcm, hcs, hcur⟩⟩
  ·obtain ⟨b, o2, rfl, hlt, hc⟩ := hy.2.2.2 h0
   have hl : ys.flatten.length = ys.length * k := flatten_length hy.2.2.1
   have hcells : ∀ j u, ys.flatten[j]? = some u → w.cell? ((⟨b, o2, none⟩ : Addr).add j) = some u := by
    intro j u hu
    have hjl : j < ys.flatten.length := (gS_ hu).1
    rw [hl] at hjl
    have hq : j / k < ys.length := (Nat.div_lt_iff_lt_mul el.hk).2 hjl
    have hcs := gE_ hq
    have hlen := hy.2.2.1 _ (List.getElem_mem hq)
    have hr : j % k < ys[j / k].length := by rw [hlen]; exact Nat.mod_lt _ el.hk
    have he : j / k * k + j % k = j := by rw [Nat.mul_comm]; exact Nat.div_add_mod j k
    have h4 := flatten_at hy.2.2.1 hcs (gE_ hr)
    rw [he, hu] at h4
    have h5 := hc _ _ hcs _ _ (gE_ hr)
    rw [← h4] at h5
    rw [addr_add, ← he, ← Nat.add_assoc]
    exact h5
   have h1' : ∀ u ∈ ys.flatten, u.oneCell' = true := fun u hu => by obtain ⟨cs, hcs, hu⟩ := List.mem_flatten.1 hu; exact h1 cs hcs u hu
   subst hsize
   have hin : ∀ o, o < cur.size → (w.cell? ⟨q, o, none⟩) = some cur[o]! := fun o ho => by
    simp only [World.cell?, hq]
    simp [ho]
   by_cases hroom : xs.length + ys.length ≤ cap
   ·have hfit : off + xs.length * i.size + ys.flatten.length ≤ cur.size := by
     have : (xs.length + ys.length) * i.size ≤ cap * i.size := Nat.mul_le_mul_right _ hroom
     rw [Nat.add_mul] at this
     omega
    have hrun := run_append_room_cells (P := P) w t ty e i el.ht hi q off xs.length cap ⟨b, o2, none⟩ ys.length c ys.flatten hl hcells h1' hroom (fun j hj => by rw [hin _ (by omega)]; rfl) (fun j hj => by simp [World.frozen?, hq])
    obtain ⟨cur', p1, p2, p3, p4, p5, p6, p7⟩ := heap_setCells (b := q) ys.flatten (off + xs.length * i.size) w cur hq
    have hcell : ∀ o, (w.setCells q (off + xs.length * i.size) ys.flatten).cell? ⟨q, o, none⟩ = cur'[o]? := fun o => by simp [World.cell?, p1]
    have hout : ∀ o, o < off + xs.length * i.size → cur'[o]? = cur[o]? := fun o ho => by
     rw [← hcell, World.cell?_setCells_out q ys.flatten _ w ⟨q, o, none⟩ (fun _ _ => .inl ho)]
     simp [World.cell?, hq]
    refine ⟨_, _, hrun, ⟨hkk, .inr ⟨q, off, cap, cur', by simp, hbq, p1, by rw [List.length_append]; exact hroom, hcm, by rw [p2]; exact hcs, fun o ho => ?_⟩⟩, .inr (.inl ⟨q, off, cap, h0, rfl, rfl, by omega, ⟨p4, p5, p6, by omega, fun n _ hn => p7 n fun e => hn (by rw [e])⟩, fun o ho => ?_⟩)⟩
    ·rw [List.flatten_append]
     by_cases hox : o < xs.length * i.size
     ·rw [List.getElem?_append_left (by omega), hout _ (by omega), hcur o hox]
     ·rw [List.getElem?_append_right (by omega), hfl]
      rw [List.length_append, Nat.add_mul] at ho
      have hj : o - xs.length * i.size < ys.flatten.length := by omega
      have := World.cell?_setCells_in q ys.flatten (off + xs.length * i.size) w (fun j hj => by rw [hin _ (by omega)]; rfl) (o - xs.length * i.size) hj
      rw [show off + xs.length * i.size + (o - xs.length * i.size) = off + o by omega, hcell] at this
      rw [this, gE_ hj]
    ·rw [hcell, hout o ho]
     simp [World.cell?, hq]
   ·have hlo : xs.flatten.length = xs.length * i.size := hfl
    have holds : ∀ j u, xs.flatten[j]? = some u → w.cell? ((⟨q, off, none⟩ : Addr).add j) = some u := fun j u hu => by
     have hj := (gS_ hu).1
     rw [addr_add]
     simp only [World.cell?, hq]
     rw [hcur j (by omega)]; exact hu
    obtain ⟨v', w', hr, h2, h3⟩ := run_append_arg_grows (P := P) w t ty e i z i.size bytes el.ht hi hz rfl hby hzs el.hk ⟨q, off, none⟩ xs.length cap xs.flatten hlo holds ⟨b, o2, none⟩ ys.length c ys.flatten hl hcells (by omega) h63 hbytes
    have hO : Owns w' w.heap.size e i.size v' (xs ++ ys) := ⟨by rw [List.length_append, List.flatten_append]; exact h2, hkk⟩
    refine ⟨v', w', hr, hO.toO.mono hbase, .inr (.inr ⟨?_, ?_, h3⟩)⟩
    ·have h6 := run_append_grow (P := P) w t ty e i z el.ht hi hz ⟨q, off, none⟩ xs.length cap xs.flatten hlo holds ⟨b, o2, none⟩ ys.length c ys.flatten hl hcells (by omega) (by unfold maxLen at h63; omega) (by rw [← hby] at hbytes; exact growslice_fits (by omega) hbytes)
     rw [hr] at h6
     simp only [Result.ok.injEq] at h6
     obtain ⟨rfl, rfl⟩ := h6
     rfl
    ·rcases h2.2 with ⟨h9, _⟩ | ⟨g, cap, cur, h9, _⟩
     ·rw [h9]; rfl
     ·rw [h9]; rfl
def rowsAt (st : St) (e : TypeId) : C → Option (List (List V))
 | .nil => some []
 | .row r => (st.rw r).bind fun p => if p.1 = e then some p.2 else none
 | _ => none
def dropRow (st : St) : C → Nat → Option (TypeId × List (List V))
 | .row r => upd st.rw r none
 | _ => st.rw
def appR (k : Nat) (rows : List (List V)) (y : V) : Option (List (List V)) := match y with
 | .sl ys => if ys.all (fun r => decide (r.length = k)) = true ∧ rows.length + ys.length ≤ 4294967296 then some (rows ++ ys) else none
 | _ => none
def appendT (P : Program) (s : Nat) (st : St) (dst : Option Nat) (t : TypeId) (c : C) (y : V) : Option St := (elemP P t).bind fun p => (rowsAt st p.1 c).bind fun rows => (appR p.2 rows y).map fun rows' =>
 { st with rw := upd (dropRow st c) s (some (p.1, rows')) }.put dst (.row s)
def storeT (P : Program) (st : St) (dst : Option Nat) (t : TypeId) (c : C) (y : V) : Option St := match c with
 | .box s' off => (gateL off.gs (some .any)).bind fun _ => (st.bx s').bind fun l => y.cellsO.bind fun cs => (sizeP P t).bind fun k => (spliceO l off.o k cs).map fun l' => { st with bx := upd st.bx s' (some l') }.put dst (.v .any)
 | _ => none
def St.app (st : St) (s : Nat) (dst : Option Nat) (r : C × Option (List V)) : St := match r.2 with
 | none => st.put dst r.1
 | some l => match r.1 with
  | .row _ => { st with rw := upd st.rw s (some (tagE l, tagR l)) }.put dst r.1
  | _ => { st with bx := upd st.bx s (some l) }.put dst r.1
noncomputable def stepT0 (P : Program) (env : FuncId → List V → Option V) (s : Nat) (st : St) (o : Oper) : Option St :=
 match o.op with
 | .store t x y => storeT P st o.dst t (st.ev x) (st.rd y)
 | .call ⟨.builtin .append, args, tys⟩ => match args.toList, tys.toList with
  | [x, y], [t, t'] => if t' = t then appendT P s st o.dst t (st.ev x) (st.rd y) else none
  | _, _ => none
 | _ => (stepH P env s st o).map (st.app s o.dst)
def C.site : C → Option Nat
 | .box s _ => some s
 | .row s => some s
 | .adr s _ _ _ => some s
 | .ref s _ _ => some s
 | _ => none
def Fresh (st : St) (s : Nat) : Prop := (∀ t, (st.φ t).site ≠ some s) ∧ st.bx s = none ∧ st.rw s = none ∧ st.ow s = none ∧ 8 ≤ s
theorem Fresh.nbox {st : St} {s : Nat} (h : Fresh st s) (t : Nat) (o : Off) : st.φ t ≠ .box s o := fun e => h.1 t (by rw [e]; rfl)
theorem Fresh.nrow {st : St} {s : Nat} (h : Fresh st s) (t : Nat) : st.φ t ≠ .row s := fun e => h.1 t (by rw [e]; rfl)
theorem Sim.newRow (hS : Sim P Dw F0 base M0 w0 N g st a w) (hf : Fresh st s) {e : TypeId} {rows : List (List V)} {v : Value} (hrow : RowOk P base g.M w e v rows) (hbx : ∀ s' l, st.bx s' = some l → v.ownBlock ≠ some (g.loc s'))
  (hrw : ∀ s' r, st.rw s' = some r → ∀ q, v.ownBlock = some q → (g.val s').ownBlock ≠ some q) (hhp : ∀ q ob, g.hp q = some ob → v.ownBlock ≠ some q) : Sim P Dw F0 base M0 w0 N { g with val := upd g.val s v } { st with rw := upd st.rw s (some (e, rows)) } a w := by
 refine { hS with slot := fun t' => ?_, row := fun s2 e2 rows2 h2 => ?_, rows := fun s1 s2 r1 r2 h1 h2 hne q' hq' => ?_, boxrow := fun s1 s2 l r h1 h2 => ?_, hp := fun q' ob hq' => ?_ }
 ·have := hS.slot t'
  show RelC _ _ (st.φ t')
  cases hcc : st.φ t' with
  | v z => rw [hcc] at this; exact this
  | nil => rw [hcc] at this; exact this
  | box s2 o2 => rw [hcc] at this; exact this
  | adr s2 p2 q2 g2 => rw [hcc] at this; exact this
  | ref s2 p2 g2 => rw [hcc] at this; exact this
  | row s2 =>
   rw [hcc] at this
   have hne : s2 ≠ s := fun e2 => hf.nrow t' (by rw [hcc, e2])
   simp only [RelC] at this ⊢
   rw [upd_ne _ _ hne]; exact this
 ·by_cases e2' : s2 = s
  ·subst e2'
   simp only [upd_same, oE_, Prod.mk.injEq] at h2 ⊢
   obtain ⟨rfl, rfl⟩ := h2
   exact hrow
  ·simp only [upd_ne _ _ e2'] at h2 ⊢
   exact hS.row s2 e2 rows2 h2
 ·by_cases e1 : s1 = s <;> by_cases e2 : s2 = s
  ·exact absurd (e1.trans e2.symm) hne
  ·subst e1
   simp only [upd_same, upd_ne _ _ e2] at h2 hq' ⊢
   exact hrw s2 _ h2 q' hq'
  ·subst e2
   simp only [upd_same, upd_ne _ _ e1] at h1 hq' ⊢
   intro h5
   exact hrw s1 _ h1 q' h5 hq'
  ·simp only [upd_ne _ _ e1, upd_ne _ _ e2] at h1 h2 hq' ⊢
   exact hS.rows s1 s2 r1 r2 h1 h2 hne q' hq'
 ·by_cases e2 : s2 = s
  ·subst e2; simp only [upd_same]; exact hbx s1 l h1
  ·simp only [upd_ne _ _ e2] at h2 ⊢
   exact hS.boxrow s1 s2 l r h1 h2
 ·obtain ⟨p1, p2, p3, p4, p5⟩ := hS.hp q' ob hq'
  refine ⟨p1, p2, p3, p4, fun s2 r2 h2 => ?_⟩
  by_cases e2 : s2 = s
  ·subst e2; simp only [upd_same]; exact hhp q' ob hq'
  ·simp only [upd_ne _ _ e2] at h2 ⊢
   exact p5 s2 r2 h2
theorem Sim.app (hS : Sim P Dw F0 base M0 w0 N g st a w) (hf : Fresh st s) {dst : Option Nat} (hd : ∀ d, dst = some d → d < N) {r : C × Option (List V)} {v : Value} {w' : World} (h : Post P g w s r v w') :
  ∃ g', Sim P Dw F0 base M0 w0 N g' (st.app s dst r) (a.put dst v) w' := by
 obtain ⟨M', hg, h⟩ := h
 have hS' := hS.grow hg
 obtain ⟨c, b⟩ := r
 cases b with
 | none => exact ⟨_, hS'.put_ hd h⟩
 | some l =>
  simp only at h
  rcases h with ⟨rfl, blk, cs, ty, hle, rfl, hw, hM, hl⟩ | ⟨rfl, r1, k, xs, r2, r3, r4, r5, r6⟩
  rotate_left
  ·have hnew : ∀ q, v.ownBlock = some q → w.heap.size ≤ q := fun q hq => (r6 q hq).1
   have := hS'.newRow (s := s) (e := tagE l) (rows := tagR l) (v := v) hf ⟨r1, k, xs, r2, r3.mono hS.base_le, r4, r5, fun q hq => ⟨Nat.le_trans hS.base_le (hnew q hq), (r6 q hq).2⟩⟩
    (fun s' l hs' e => by
     obtain ⟨_, _, cs, ty, q3, _⟩ := hS.box s' l hs'
     have h1 := (Array.getElem?_eq_some_iff.1 q3).1
     have := hnew _ e
     have e2 : ({ g with M := M' } : Ghost).loc s' = g.loc s' := rfl
     omega)
    (fun s' r' hs' q hq e => by
     obtain ⟨_, _, _, _, _, _, _, q6⟩ := hS.row s' r'.1 r'.2 hs'
     have h1 := (q6 q e).2.1
     have := hnew q hq
     omega)
    (fun q ob hq e => by
     have h1 := (Array.getElem?_eq_some_iff.1 (hS.hp q ob hq).2.1).1
     have := hnew q e
     omega)
   exact ⟨_, Sim.put_ this hd (by show v = upd g.val s v s; rw [upd_same])⟩
  have hbl : ∀ s' l', st.bx s' = some l' → g.loc s' < w.heap.size := fun s' l' hs' => by
   obtain ⟨_, _, cs', ty', hh, _⟩ := hS.box s' l' hs'
   exact (Array.getElem?_eq_some_iff.1 hh).1
  have h2 := hS'.newBox (s := s) (Nat.le_trans hS.base_le hle) hM hw hl (fun s' l' hs' => by have := hbl s' l' hs'; show g.loc s' ≠ blk; omega)
   (fun s' r' hr' => by
    obtain ⟨e, rows⟩ := r'
    obtain ⟨_, k, xs, _, _, _, _, hq⟩ := hS.row s' e rows hr'
    intro he
    have := (hq blk he).2.1
    omega) hf.2.1 (fun t o => hf.nbox t o) (by
    show g.hp blk = none
    cases hq : g.hp blk with
    | none => rfl
    | some ob =>
     have := (Array.getElem?_eq_some_iff.1 (hS.hp blk ob hq).2.1).1
     omega)
  refine ⟨_, h2.put_ hd (c := .box s ⟨[], 0⟩) ?_⟩
  intro _
  show Value.pointer (some ⟨blk, 0, none⟩) = .pointer (some ⟨upd g.loc s blk s, 0, none⟩)
  rw [upd_same]
end
end Go.Proofs.YtgkohnjpnnofhaaGreat.Den
