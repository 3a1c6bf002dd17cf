/- A reader of Go code in plain values: a store, an append; one operation behind the other. -/
import Derived.Test.YtgkohnjpnnofhaaGreatDen6
import Derived.Laws.IdiomCopy
namespace Go.Proofs.YtgkohnjpnnofhaaGreat.Den
set_option linter.unusedSimpArgs false
set_option linter.unusedVariables false
set_option linter.unnecessarySimpa false
open Go.RowKit
section
variable {P : Program} {Dw : World → Prop} {F0 : Par} {base : Nat} {M0 : Mem} {w0 w : World} {N : Nat} {g : Ghost} {st : St} {a : Act} {o : Oper} {s : Nat}
theorem storeCells_blockF (b : Nat) (ty : TypeId) (fz : Nat × Nat) : ∀ (vs : List Value) (i off : Nat) (cs : Array Value) (w : World), w.heap[b]? = some (.cells cs ty fz) → NoFz fz cs.size → off + i + vs.length ≤ cs.size → (∀ v ∈ vs, v.oneCell' = true) →
  ∃ w', (storeCells ⟨b, off, none⟩ vs i).run P w = .ok () w' ∧ w'.heap[b]? = some (.cells ((vs.zipIdx i).foldl (fun cs (p : Value × Nat) => cs.setIfInBounds (off + p.2) p.1) cs) ty fz) ∧ w'.heap.size = w.heap.size ∧ w'.os = w.os ∧ w'.tape = w.tape ∧ w'.output = w.output ∧ ∀ n, n ≠ b → w'.heap[n]? = w.heap[n]?
 | [], i, off, cs, w, hw, _, _, _ => ⟨w, rfl, by simpa using hw, rfl, rfl, rfl, rfl, fun _ _ => rfl⟩
 | v :: vs, i, off, cs, w, hw, hz, hle, h1 => by
  simp only [List.length_cons] at hle
  have hlt : off + i < cs.size := by omega
  have hblt : b < w.heap.size := (Array.getElem?_eq_some_iff.1 hw).1
  have hcell : w.cell? ⟨b, off + i, none⟩ = some cs[off + i] := by simp [World.cell?, hw, hlt]
  have hfr : w.frozen? ⟨b, off + i, none⟩ = false := by
   have := hz _ hlt
   simp only [World.frozen?, hw]
   simpa using this
  have hrun : (store ((⟨b, off, none⟩ : Addr).add i) v).run P w = .ok () (w.setCell ⟨b, off + i, none⟩ v) := by
   rw [addr_add, run_store P w _ v _ (h1 v (by simp)), hcell]
   simp [hfr]
  have hnew : (w.setCell ⟨b, off + i, none⟩ v).heap[b]? = some (.cells (cs.setIfInBounds (off + i) v) ty fz) := by
   simp only [World.setCell, Array.getElem?_modify, if_true]
   rw [hw]
   simp
  obtain ⟨w', h2, h3, h4, h5, h6, h7, h8⟩ := storeCells_blockF b ty fz vs (i + 1) off (cs.setIfInBounds (off + i) v) (w.setCell ⟨b, off + i, none⟩ v) hnew (by rw [Array.size_setIfInBounds]; exact hz) (by simp; omega) (fun u hu => h1 u (by simp [hu]))
  refine ⟨w', by simp [storeCells, hrun, h2], by simpa [List.zipIdx_cons] using h3, by rw [h4]; simp [World.setCell], by rw [h5]; rfl, by rw [h6]; rfl, by rw [h7]; rfl, fun n hn => ?_⟩
  rw [h8 n hn]
  exact Below.heap_setCell _ _ _ _ hn
theorem storeCells_block (b : Nat) (ty : TypeId) : ∀ (vs : List Value) (i off : Nat) (cs : Array Value) (w : World), w.heap[b]? = some (.cells cs ty (0, 0)) → off + i + vs.length ≤ cs.size → (∀ v ∈ vs, v.oneCell' = true) →
  ∃ w', (storeCells ⟨b, off, none⟩ vs i).run P w = .ok () w' ∧ w'.heap[b]? = some (.cells ((vs.zipIdx i).foldl (fun cs (p : Value × Nat) => cs.setIfInBounds (off + p.2) p.1) cs) ty (0, 0)) ∧ w'.heap.size = w.heap.size ∧ w'.os = w.os ∧ w'.tape = w.tape ∧ w'.output = w.output ∧ ∀ n, n ≠ b → w'.heap[n]? = w.heap[n]?
 | [], i, off, cs, w, hw, _, _ => ⟨w, rfl, by simpa using hw, rfl, rfl, rfl, rfl, fun _ _ => rfl⟩
 | v :: vs, i, off, cs, w, hw, hle, h1 => by
  simp only [List.length_cons] at hle
  have hlt : off + i < cs.size := by omega
  have hblt : b < w.heap.size := (Array.getElem?_eq_some_iff.1 hw).1
  have hcell : w.cell? ⟨b, off + i, none⟩ = some cs[off + i] := by simp [World.cell?, hw, hlt]
  have hfr : w.frozen? ⟨b, off + i, none⟩ = false := by simp [World.frozen?, hw]
  have hrun : (store ((⟨b, off, none⟩ : Addr).add i) v).run P w = .ok () (w.setCell ⟨b, off + i, none⟩ v) := by
   rw [addr_add, run_store P w _ v _ (h1 v (by simp)), hcell]
   simp [hfr]
  have hnew : (w.setCell ⟨b, off + i, none⟩ v).heap[b]? = some (.cells (cs.setIfInBounds (off + i) v) ty (0, 0)) := by
   simp only [World.setCell, Array.getElem?_modify, if_true]
   rw [hw]
   simp
  obtain ⟨w', h2, h3, h4, h5, h6, h7, h8⟩ := storeCells_block b ty vs (i + 1) off (cs.setIfInBounds (off + i) v) (w.setCell ⟨b, off + i, none⟩ v) hnew (by simp; omega) (fun u hu => h1 u (by simp [hu]))
  refine ⟨w', by simp [storeCells, hrun, h2], by simpa [List.zipIdx_cons] using h3, by rw [h4]; simp [World.setCell], by rw [h5]; rfl, by rw [h6]; rfl, by rw [h7]; rfl, fun n hn => ?_⟩
  rw [h8 n hn]
  exact Below.heap_setCell _ _ _ _ hn
theorem storeT_ok (hS : Sim P Dw F0 base M0 w0 N g st a w) {dst : Option Nat} (hd : ∀ d, dst = some d → d < N) {t : TypeId} {x y : Operand} {st' : St} (h : storeT P st dst t (st.ev x) (st.rd y) = some st') :
  ∃ w', (Instr.storeAt t (a.eval x) (a.eval y)).run P w = .ok () w' ∧ Sim P Dw F0 base M0 w0 N g st' (a.put dst undef) w' := by
 have hx := hS.ev x
 unfold storeT at h
 split at h
 ·rename_i s' off hev
  rw [hev] at hx
  simp only [RelC] at hx
  obtain ⟨z9, hz9, h9⟩ := oB_ h
  have hx := hx (gateL_some hz9).1
  obtain ⟨l, hl, h1⟩ := oB_ h9
  obtain ⟨cs, hcs, h2⟩ := oB_ h1
  obtain ⟨k, hk, h3⟩ := oB_ h2
  obtain ⟨l', hl', e9⟩ := oM_ h3
  obtain ⟨e0, e00, rfl⟩ := spliceO_some hl'
  obtain ⟨gs9, off⟩ := off
  simp only at e00 hx
  have hc : cs.length = k ∧ off + k ≤ l.length := ⟨e0, e00⟩
  clear h h1 h2 h3 h9
  subst e9
  ·skip
   ·skip
    obtain ⟨hb1, hb2, cur, ty, hw, hcur⟩ := hS.box s' l hl
    have hv := cells_rel (hS.rd y) hcs
    have hone : ∀ v ∈ (a.eval y).cells.toList, v.oneCell' = true := by
     intro v hv'
     obtain ⟨j, hj⟩ := List.getElem?_of_mem hv'
     have hjl : j < (a.eval y).cells.size := by have := (gS_ hj).1; simpa using this
     have hjc : j < cs.length := by rw [← hv.1]; exact hjl
     have := (hv.2 j _ (gE_ hjc)).1
     have e : (a.eval y).cells.getD j undef = v := by
      have h3 := (gS_ hj).2
      simp [Array.getD, hjl]
      simpa using h3
     rwa [e] at this
    have hsz : (a.eval y).cells.size = k := by rw [hv.1]; exact hc.1
    obtain ⟨w', h1, h2, h3, h4, h5, h6, h7⟩ := storeCells_block (P := P) (g.loc s') ty (a.eval y).cells.toList 0 off cur w hw (by rw [hcur.1]; simp [hsz]; omega) hone
    have hsp := splice hcur hv (by omega : off + cs.length ≤ l.length)
    have e : (a.eval y).cells.zipIdx.foldl (fun cs (p : Value × Nat) => cs.setIfInBounds (off + p.2) p.1) cur = ((a.eval y).cells.toList.zipIdx 0).foldl (fun cs (p : Value × Nat) => cs.setIfInBounds (off + p.2) p.1) cur := by
     rw [← Array.foldl_toList]; simp
    rw [e, hc.1] at hsp
    refine ⟨w', by rw [hx]; simp [Instr.storeAt, Instr.sureAddr, storeVar, run_sizeP hk, hsz, h1], Sim.put_ ?_ hd (.any _)⟩
    have hblk : ∀ n, n ≠ g.loc s' → w'.heap[n]? = w.heap[n]? := h7
    refine { ovp := hS.ovp, inv := hS.inv, below := ?_, base_le := by rw [h3]; exact hS.base_le, defers := hS.defers, size := hS.size, mem := ?_, old := hS.old, keepM := hS.keepM, slot := hS.slot, box := ?_, boxes := ?_, row := ?_, rows := hS.rows, boxrow := ?_, hp := fun q ob hq => ?_, own := hS.own, fph := hS.fph, owd := hS.owd, gow := hS.gow }
    ·exact hS.below.trans ⟨h4, h5, h6, by omega, fun n hn _ => h7 n (by omega)⟩
    ·intro b o' u hu
     have hne : b ≠ g.loc s' := fun e => by rw [e, hb2] at hu; cases hu
     rw [← hS.mem b o' u hu]
     exact World.cell?_of_block (w := w) (h7 b hne)
    ·intro s2 l2 hs2
     by_cases e2 : s2 = s'
     ·subst e2
      simp only [upd_same, oE_] at hs2
      subst hs2
      exact ⟨hb1, hb2, _, ty, h2, hsp⟩
     ·simp only [upd_ne _ _ e2] at hs2
      obtain ⟨q1, q2, q3, q4, q5, q6⟩ := hS.box s2 l2 hs2
      have hne : g.loc s2 ≠ g.loc s' := fun e3 => e2 (hS.boxes s2 s' l2 l hs2 hl e3)
      exact ⟨q1, q2, q3, q4, by rw [h7 _ hne]; exact q5, q6⟩
    ·intro s1 s2 l1 l2 h1' h2' he
     have : ∃ q, st.bx s1 = some q := by
      by_cases e2 : s1 = s'
      ·exact ⟨l, e2 ▸ hl⟩
      ·simp only [upd_ne _ _ e2] at h1'; exact ⟨_, h1'⟩
     have : ∃ q, st.bx s2 = some q := by
      by_cases e2 : s2 = s'
      ·exact ⟨l, e2 ▸ hl⟩
      ·simp only [upd_ne _ _ e2] at h2'; exact ⟨_, h2'⟩
     rename_i t1
     obtain ⟨q1, hq1⟩ := t1
     obtain ⟨q2, hq2⟩ := this
     exact hS.boxes s1 s2 q1 q2 hq1 hq2 he
    ·intro s2 e2 rows hs2
     obtain ⟨q1, k2, xs, q2, q3, q4, q5, q6⟩ := hS.row s2 e2 rows hs2
     refine ⟨q1, k2, xs, q2, ⟨q3.1, ?_⟩, q4, q5, fun q hq => by rw [h3]; exact q6 q hq⟩
     rcases q3.2 with h0 | ⟨gq, off0, cap, cu, r1, r2, r3, r4⟩
     ·exact .inl h0
     ·refine .inr ⟨gq, off0, cap, cu, r1, r2, ?_, r4⟩
      have hne : gq ≠ g.loc s' := fun e3 => hS.boxrow s' s2 l _ hl hs2 (by rw [r1, ← e3]; rfl)
      rw [h7 _ hne]; exact r3
    ·intro s1 s2 l1 r hs1 hs2
     by_cases e2 : s1 = s'
     ·subst e2; exact hS.boxrow s1 s2 l r hl hs2
     ·simp only [upd_ne _ _ e2] at hs1; exact hS.boxrow s1 s2 l1 r hs1 hs2
    ·obtain ⟨p1, p2, p3, p4, p5⟩ := hS.hp q ob hq
     have hne : q ≠ g.loc s' := fun e3 => p4 s' l hl e3.symm
     refine ⟨p1, by rw [h7 _ hne]; exact p2, p3, fun s2 l2 hs2 => ?_, p5⟩
     by_cases e2 : s2 = s'
     ·subst e2; exact p4 s2 l hl
     ·simp only [upd_ne _ _ e2] at hs2; exact p4 s2 l2 hs2
 ·cases h
end
end Go.Proofs.YtgkohnjpnnofhaaGreat.Den
