/- A reader of Go code in plain values: each operation that may come at any time is right. -/
import Derived.Test.YtgkohnjpnnofhaaGreatDen2
namespace Go.Proofs.YtgkohnjpnnofhaaGreat.Den
set_option linter.unusedSimpArgs false
set_option linter.unusedVariables false
open Go.RowKit
def SCalls (P : Program) (Dw : World → Prop) (f : FuncId) (xs : List V) (y : V) : Prop :=
 (∃ fn, P.funcs[f]? = some fn ∧ (fn.name == "runtime.NumGoroutine") = false ∧ fn.body.isNone = false) ∧
 ∀ (w : World) (M : Mem) (vs : Array Value), Dw w → (∀ b o u, M b o = some u → w.cell? ⟨b, o, none⟩ = some u) → RelL M vs.toList xs →
  Calls P f vs w fun e w' => ∃ v M', e = .returned v ∧ Grow M w M' w' ∧ Rel M' v y
def tupAt (z : V) (i : Nat) : V := match z with
 | .tup l => l.getD i .any
 | _ => .any
def MCalls (P : Program) (Dw : World → Prop) (f : FuncId) (xs : List V) (z : V) : Prop :=
 (∃ fn, P.funcs[f]? = some fn ∧ (fn.name == "runtime.NumGoroutine") = false ∧ fn.body.isNone = false) ∧
 ∀ (w : World) (M : Mem) (hp : Hp) (F : Nat → Nat → Prop) (vs : Array Value), (∀ w', BelowF (fun q => ∃ i, F i q) w.heap.size w w' → Dw w') → (∀ b o u, M b o = some u → w.cell? ⟨b, o, none⟩ = some u) →
  (∀ q ob, hp q = some ob → w.heap[q]? = some ob ∧ ∀ o, M q o = none) → (∀ i q, F i q → ∃ ob, hp q = some ob) → (∀ i i' q, F i q → F i' q → i = i') →
  vs.size = xs.length → (∀ i x, xs[i]? = some x → RelT hp M (F i) (vs.getD i undef) x) →
  Calls P f vs w fun e w' => ∃ (v : Value) (M' : Mem) (hp' : Hp) (F' : Nat → Nat → Prop), e = .returned v ∧ BelowF (fun q => ∃ i, F i q) w.heap.size w w' ∧ (∀ b o u, M b o = some u → M' b o = some u) ∧ (∀ b o u, M' b o = some u → w'.cell? ⟨b, o, none⟩ = some u) ∧
   (∀ b o u, M' b o = some u → b < w.heap.size → (¬ ∃ i, F i b) → M b o = some u) ∧ (∀ q ob, hp' q = some ob → (w.heap.size ≤ q ∨ ∃ i, F i q) ∧ w'.heap[q]? = some ob ∧ ∀ o, M' q o = none) ∧
   (∀ i q, F' i q → ∃ ob, hp' q = some ob) ∧ (∀ i i' q, F' i q → F' i' q → i = i') ∧ RelT hp' M' (F' 0) v (tupAt z 0) ∧ ∀ i, i < xs.length → RelT hp' M' (F' (i + 1)) (vs.getD i undef) (tupAt z (i + 1))
def RCalls (P : Program) (Dw : World → Prop) (f : FuncId) (e : TypeId) (xs : List V) (y : V) : Prop :=
 (∃ fn, P.funcs[f]? = some fn ∧ (fn.name == "runtime.NumGoroutine") = false ∧ fn.body.isNone = false) ∧
 ∀ (w : World) (M : Mem) (vs : Array Value), Dw w → (∀ b o u, M b o = some u → w.cell? ⟨b, o, none⟩ = some u) → RelL M vs.toList xs →
  Calls P f vs w fun en w' => ∃ v M', en = .returned v ∧ Grow M w M' w' ∧ RowOk P w.heap.size M' w' e v (slL3 y)
def LCalls (P : Program) (Dw : World → Prop) (f : FuncId) (xs : List V) (y : V) : Prop :=
 (∃ fn, P.funcs[f]? = some fn ∧ (fn.name == "runtime.NumGoroutine") = false ∧ fn.body.isNone = false) ∧
 ∀ (w : World) (M : Mem) (hp : Hp) (F : Nat → Nat → Prop) (vs : Array Value), Dw w → (∀ b o u, M b o = some u → w.cell? ⟨b, o, none⟩ = some u) →
  (∀ q ob, hp q = some ob → w.heap[q]? = some ob ∧ ∀ o, M q o = none) → vs.size = xs.length → (∀ i x, xs[i]? = some x → RelT hp M (F i) (vs.getD i undef) x) →
  Calls P f vs w fun e w' => ∃ v M', e = .returned v ∧ Grow M w M' w' ∧ Rel M' v y
def RX (P : Program) (Dw : World → Prop) (f : FuncId) (e : TypeId) (xs : List V) (y : V) : Prop := (e ≠ 987654321 → RCalls P Dw f e xs y) ∧ (e = 987654321 → LCalls P Dw f xs y)
def EnvOk (P : Program) (Dw : World → Prop) (env : FuncId → List V → Option V) : Prop := (∀ f xs y, f < 1000000 → env f xs = some y → SCalls P Dw f xs y) ∧ (∀ f xs z, f < 1000000 → env (f + 1000000) xs = some z → MCalls P Dw f xs z) ∧ ∀ f e xs y, f < 1000000 → env (f + 1000000 * (e + 2)) xs = some y → RX P Dw f e xs y
def OpOk (P : Program) (o : Oper) (a : Act) (w : World) (R : Value → World → Prop) : Prop := match (execOp a.eval o).run P w with
 | .ok (.value v) w' => R v w'
 | .ok .skip w' => R undef w'
 | .ok (.enter f args) w' => Calls P f args w' fun e w'' => ∃ v, e = .returned v ∧ R v w''
 | _ => False
def tagE (l : List V) : Nat := match l with
 | .lit (.int _ e) :: _ => e.toNat
 | _ => 0
def tagR (l : List V) : List (List V) := match l with
 | [_, y] => slL3 y
 | _ => []
def Post (P : Program) (g : Ghost) (w : World) (s : Nat) (r : C × Option (List V)) (v : Value) (w' : World) : Prop :=
 ∃ M', Grow g.M w M' w' ∧ match r.2 with
  | none => RelC { g with M := M' } v r.1
  | some l => (r.1 = .box s ⟨[], 0⟩ ∧ ∃ blk cs ty, w.heap.size ≤ blk ∧ v = .pointer (some ⟨blk, 0, none⟩) ∧ w'.heap[blk]? = some (.cells cs ty (0, 0)) ∧ (∀ o, M' blk o = none) ∧ RelCells M' cs l) ∨
   (r.1 = .row s ∧ RowOk P w.heap.size M' w' (tagE l) v (tagR l))
section
variable {P : Program} {Dw : World → Prop} {F0 : Par} {base : Nat} {M0 : Mem} {w0 w : World} {N : Nat} {g : Ghost} {st : St} {a : Act} {o : Oper} {s : Nat}
theorem ok_val {R : Value → World → Prop} {t : Sem Value} {u : Value} {w' : World} (h : execOp a.eval o = (do pure (Next.value (← t)))) (hr : t.run P w = .ok u w') (hR : R u w') : OpOk P o a w R := by
 unfold OpOk
 rw [h]
 simp [hr, hR]
theorem post_v {x : V} {v : Value} (h : Sim P Dw F0 base M0 w0 N g st a w) (hr : Rel g.M v x) : Post P g w s (.v x, none) v w := ⟨g.M, Grow.refl h.mem, hr⟩
theorem run_isAgg {t : TypeId} {b : Bool} (h : aggP P t = some b) (w : World) : (isAgg t).run P w = .ok b w := by
 unfold aggP at h
 cases hu : P.underlying t with
 | none => simp [hu] at h
 | some d => cases d <;> simp_all [isAgg, run_underlying hu]
theorem run_sizeP {t : TypeId} {n : Nat} (h : sizeP P t = some n) (w : World) : (sizeOf t).run P w = .ok n w := by
 unfold sizeP at h
 obtain ⟨i, hi, rfl⟩ := oM_ h
 simp [sizeOf, typeInfo, hi]
theorem addr_add (b o j : Nat) : (⟨b, o, none⟩ : Addr).add j = ⟨b, o + j, none⟩ := by unfold Addr.add; split <;> simp_all
theorem load_run {M : Mem} {b off : Nat} {l : List V} {t : TypeId} {x : V} (hc : ∀ j y, l[j]? = some y → ∃ u, w.cell? ⟨b, off + j, none⟩ = some u ∧ u.oneCell' = true ∧ Rel M u y) {k : Option Nat} (hk : kindP P t = some k) (h : ldk k l = some x) :
  ∃ v, (loadVar t ⟨b, off, none⟩).run P w = .ok v w ∧ Rel M v x := by
 unfold kindP at hk
 cases ha : aggP P t with
 | none => simp [ha] at hk
 | some bb =>
  cases hs : sizeP P t with
  | none => cases bb <;> simp [ha, hs] at hk
  | some n =>
   cases bb with
   | true =>
    simp only [ha, hs, oE_] at hk
    subst hk
    simp only [ldk, loadA] at h
    split at h
    ·rename_i hn
     simp only [oE_] at h
     subst h
     let f : Nat → Value := fun j => (w.cell? ⟨b, off + j, none⟩).getD undef
     have hcs : ∀ j v, ((List.range n).map f)[j]? = some v → w.cell? ((⟨b, off, none⟩ : Addr).add j) = some v := by
      intro j v hv
      simp only [List.getElem?_map] at hv
      cases hj : (List.range n)[j]? with
      | none => rw [hj] at hv; simp at hv
      | some q =>
       obtain ⟨hjn, hq⟩ := gS_ hj
       simp at hq hjn
       subst hq
       rw [hj] at hv
       simp only [Option.map_some, oE_] at hv
       subst hv
       obtain ⟨u, hu, -⟩ := hc j l[j] (gE_ (by omega))
       rw [addr_add, hu]
       simp [f, hu]
     have hrun := run_loadCells_list (P := P) (w := w) ⟨b, off, none⟩ ((List.range n).map f) hcs
     simp only [List.length_map, List.length_range] at hrun
     refine ⟨.agg ((List.range n).map f).toArray, by simp [loadVar, run_isAgg ha, run_sizeP hs, hrun], .agg _ _ (by simp; omega) (fun i hi => ?_) fun i y hy => ?_⟩
     all_goals
      have hin : i < n := by
       first
        | (simp at hi; omega)
        | (have := (gS_ hy).1; simp at this; omega)
      have hil : i < l.length := by omega
      obtain ⟨u, hu, h1, h2⟩ := hc i l[i] (gE_ hil)
      have e : (((List.range n).map f).toArray).getD i undef = u := by
       simp [Array.getD, hin, f, hu]
      rw [e]
     ·exact h1
     ·have : y = l[i] := by
       rw [List.getElem?_take, if_pos hin, gE_ hil] at hy
       simpa using hy.symm
      rw [this]; exact h2
    ·cases h
   | false =>
    simp only [ha, hs, oE_] at hk
    subst hk
    simp only [ldk] at h
    obtain ⟨u, hu, h1, h2⟩ := hc 0 x h
    exact ⟨u, by simp [loadVar, run_isAgg ha, load, Sem.run, hu, show (⟨b, off, none⟩ : Addr) = ⟨b, off + 0, none⟩ from rfl], h2⟩
theorem rel_ptr {M : Mem} {v : Value} {l : List V} (h : Rel M v (.ptr l)) : ∃ b o, v = .pointer (some ⟨b, o, none⟩) ∧ ∀ j y, l[j]? = some y → ∃ u, M b (o + j) = some u ∧ u.oneCell' = true ∧ Rel M u y := by
 cases h with
 | ptr b o l u hm h1 hr => exact ⟨b, o, rfl, fun j y hy => ⟨u j, hm j y hy, h1 j y hy, hr j y hy⟩⟩
theorem rel_agg {M : Mem} {v : Value} {l : List V} (h : Rel M v (.agg l)) : ∃ cs, v = .agg cs ∧ RelCells M cs l := by
 cases h with
 | agg cs l hs h1 h => exact ⟨cs, rfl, hs, fun j x hx => ⟨h1 j (gS_ hx).1, h j x hx⟩⟩
theorem rel_tup {M : Mem} {v : Value} {l : List V} (h : Rel M v (.tup l)) : ∃ cs, v = .tuple cs ∧ cs.size = l.length ∧ ∀ i x, l[i]? = some x → Rel M (cs.getD i undef) x := by
 cases h with
 | tup cs l hs h => exact ⟨cs, rfl, hs, h⟩
theorem rel_fn {M : Mem} {v : Value} {f : FuncId} {l : List V} (h : Rel M v (.fn f l)) : ∃ cs, v = .func (.func f) #[] cs ∧ cs.size = l.length ∧ ∀ i x, l[i]? = some x → Rel M (cs.getD i undef) x := by
 cases h with
 | fn f cs l hs h => exact ⟨cs, rfl, hs, h⟩
structure IsSl (M : Mem) (A : Option Addr) (c : Nat) (rows : List (List V)) (k b o : Nat) : Prop where
 hc : rows.length ≤ c
 hk : ∀ r ∈ rows, r.length = k
 hA : 0 < rows.length → A = some ⟨b, o, none⟩
 hr : ∀ i r, rows[i]? = some r → ∀ j x, r[j]? = some x → ∃ u, M b (o + i * k + j) = some u ∧ u.oneCell' = true ∧ Rel M u x
theorem rel_sl {M : Mem} {v : Value} {rows : List (List V)} (h : Rel M v (.sl rows)) : ∃ A c k b o, v = .slice A rows.length c ∧ IsSl M A c rows k b o := by
 cases h with
 | sl A n c k b o rows u hn hc hk hA hm h1 hr => exact ⟨A, c, k, b, o, by rw [hn], by omega, hk, by rwa [hn], fun i r hi j x hx => ⟨u i j, hm i r hi j x hx, h1 i r hi j x hx, hr i r hi j x hx⟩⟩
theorem IsSl.rel {M : Mem} {A : Option Addr} {c : Nat} {rows : List (List V)} {k b o : Nat} (h : IsSl M A c rows k b o) : Rel M (.slice A rows.length c) (.sl rows) := by
 refine .sl A rows.length c k b o rows (fun i j => (M b (o + i * k + j)).getD undef) rfl h.hc h.hk h.hA ?_ ?_ ?_
 all_goals
  intro i r hi j x hx
  obtain ⟨u, hu, h1, h2⟩ := h.hr i r hi j x hx
  simp only [hu, Option.getD_some]
  try assumption
theorem mk_ptr {M : Mem} {b o : Nat} {l : List V} (h : ∀ j y, l[j]? = some y → ∃ u, M b (o + j) = some u ∧ u.oneCell' = true ∧ Rel M u y) : Rel M (.pointer (some ⟨b, o, none⟩)) (.ptr l) := by
 refine .ptr b o l (fun j => (M b (o + j)).getD undef) ?_ ?_ ?_
 all_goals
  intro j x hx
  obtain ⟨u, hu, h1, h2⟩ := h j x hx
  simp only [hu, Option.getD_some]
  try assumption
theorem gateL_some : ∀ {gs : List (V × Bool)} {y : Option V} {z : V}, gateL gs y = some z → (∀ p ∈ gs, p.1 = .lit (.bool p.2)) ∧ y = some z
 | [], y, z, h => ⟨by simp, h⟩
 | p :: r, y, z, h => by
  simp only [gateL, gate] at h
  split at h
  ·rename_i b hb
   split at h
   ·rename_i hbw
    obtain ⟨h1, h2⟩ := gateL_some h
    refine ⟨fun q hq => ?_, h2⟩
    rcases List.mem_cons.1 hq with rfl | hq
    ·rw [hb]; congr 2; simpa using hbw
    ·exact h1 q hq
   ·cases h
  ·cases h
theorem Sim.node (hS : Sim P Dw F0 base M0 w0 N g st a w) {s : Nat} {p : List Stp} {q : Stp} {v : Value} {l : List V}
  (hx : ∃ u b, walkV g.hp (g.ov s) p = some u ∧ blockAt u = some b ∧ v = .pointer (some ⟨b, q.abs, none⟩)) (hl : nodeR st s p q = some l) :
  ∃ (b : Nat) (cs : Array Value) (ty : TypeId) (fz : Nat × Nat) (Fi : Nat → Nat → Prop), v = .pointer (some ⟨b, q.abs, none⟩) ∧ g.fp s b ∧ g.hp b = some (.cells cs ty fz) ∧ w.heap[b]? = some (.cells cs ty fz) ∧ ∀ j z, l[j]? = some z → (⟨q.i, j, q.k⟩ : Stp).abs < cs.size ∧ (cs.getD (⟨q.i, j, q.k⟩ : Stp).abs undef).oneCell' = true ∧ RelT g.hp g.M (Fi j) (cs.getD (⟨q.i, j, q.k⟩ : Stp).abs undef) z := by
 obtain ⟨u, b, h3, h4, h5⟩ := hx
 unfold nodeR at hl
 obtain ⟨x', hx', hl⟩ := oB_ hl
 obtain ⟨y', hy', hl⟩ := oB_ hl
 obtain ⟨u', G, e1, e2, e3, _⟩ := (hS.own s x' hx').get p hy'
 rw [h3] at e1
 obtain rfl := oJ_ e1
 obtain ⟨b', cs, ty, fz, Fi, f1, f2, f3, f4, f5⟩ := e2.node hl
 rw [h4] at f1
 obtain rfl := oJ_ f1
 exact ⟨b, cs, ty, fz, Fi, h5, e3 b f2, f3, (hS.hp b _ f3).2.1, f5⟩
theorem loadT_run {hp : Hp} {M : Mem} {b off : Nat} {l : List V} {t : TypeId} {x y : V} (hc : ∀ j y, l[j]? = some y → ∃ u F, w.cell? ⟨b, off + j, none⟩ = some u ∧ u.oneCell' = true ∧ RelT hp M F u y) {k : Option Nat} (hk : kindP P t = some k) (h : ldk k l = some x) (hp' : pureO x = some y) :
  ∃ v, (loadVar t ⟨b, off, none⟩).run P w = .ok v w ∧ Rel M v y := by
 unfold pureO at hp'
 split at hp'
 ·rename_i hpx
  simp only [oE_] at hp'
  subst hp'
  cases k with
  | none =>
   refine load_run (l := l.take 1) (M := M) (fun j z hz => ?_) hk (by simp only [ldk] at h ⊢; rw [List.getElem?_take, if_pos (by omega)]; exact h)
   rw [List.getElem?_take] at hz
   split at hz
   ·have : j = 0 := by omega
    subst this
    simp only [ldk] at h
    rw [h] at hz
    obtain rfl := oJ_ hz
    obtain ⟨u, F, h1, h2, h3⟩ := hc 0 _ h
    exact ⟨u, h1, h2, h3.pureV hpx⟩
   ·cases hz
  | some n =>
   simp only [ldk, loadA] at h
   split at h
   ·rename_i hn
    simp only [oE_] at h
    subst h
    simp only [pureV] at hpx
    refine load_run (l := l.take n) (M := M) (fun j z hz => ?_) hk (by simp only [ldk, loadA, List.length_take]; rw [if_pos (by omega), List.take_take, Nat.min_self])
    have hz' : l[j]? = some z := by
     rw [List.getElem?_take] at hz
     split at hz
     ·exact hz
     ·cases hz
    obtain ⟨u, F, h1, h2, h3⟩ := hc j z hz'
    exact ⟨u, h1, h2, h3.pureV (pureL_at _ hpx j z hz)⟩
   ·cases h
 ·cases hp'
theorem load1_run {t : TypeId} {ad : Addr} {u : Value} (hk : kindP P t = some none) (h : w.cell? ad = some u) : (loadVar t ad).run P w = .ok u w := by
 unfold kindP at hk
 cases ha : aggP P t with
 | none => simp [ha] at hk
 | some bb =>
  cases hs : sizeP P t with
  | none => cases bb <;> simp [ha, hs] at hk
  | some n =>
   cases bb with
   | true => simp [ha, hs] at hk
   | false => simp [loadVar, run_isAgg ha, load, Sem.run, h]
theorem loadC_ok (hS : Sim P Dw F0 base M0 w0 N g st a w) {t : TypeId} {x : Operand} {y : V} (h : loadC P st t (st.ev x) = some y) : ∃ v, (Instr.loadAt t (a.eval x)).run P w = .ok v w ∧ Rel g.M v y := by
 have hx := hS.ev x
 unfold loadC at h
 obtain ⟨k, hk, h⟩ := oB_ h
 cases hc : st.ev x with
 | v z =>
  rw [hc] at h hx
  simp only [ldp] at h
  split at h
  ·rename_i l
   obtain ⟨b, o, e, hm⟩ := rel_ptr hx
   rw [e]
   obtain ⟨v, h1, h2⟩ := load_run (w := w) (P := P) (fun j y hy => by obtain ⟨u, hu, h3⟩ := hm j y hy; exact ⟨u, hS.mem _ _ _ hu, h3⟩) hk h
   exact ⟨v, by simpa [Instr.loadAt, Instr.sureAddr] using h1, h2⟩
  ·cases h
 | nil => rw [hc] at h; simp at h
 | row s => rw [hc] at h; simp at h
 | ref s p gs => rw [hc] at h; simp at h
 | adr s p q gs =>
  rw [hc] at h hx
  simp only at h
  obtain ⟨hgs, h0⟩ := gateL_some h
  obtain ⟨l, hl, h⟩ := oB_ h0
  obtain ⟨z, hz, hp⟩ := oB_ h
  simp only [RelC] at hx
  obtain ⟨b, cs, ty, fz, Fi, hv, _, _, hw, hcs⟩ := hS.node (hx hgs).2 hl
  rw [hv]
  obtain ⟨v, h1, h2⟩ := loadT_run (w := w) (P := P) (hp := g.hp) (M := g.M) (b := b) (off := q.abs) (fun j y hy => by
   rw [List.getElem?_drop] at hy
   obtain ⟨h3, h4, h5⟩ := hcs (q.j + j) y hy
   rw [abs_add] at h3 h4 h5
   refine ⟨_, Fi (q.j + j), ?_, h4, h5⟩
   simp only [World.cell?, hw]
   exact cells_at h3) hk hz hp
  exact ⟨v, by simpa [Instr.loadAt, Instr.sureAddr] using h1, h2⟩
 | box s off =>
  rw [hc] at h hx
  simp only at h
  obtain ⟨hgs, h0⟩ := gateL_some h
  obtain ⟨l, hl, h⟩ := oB_ h0
  simp only [RelC] at hx
  rw [hx hgs]
  obtain ⟨_, _, cs, ty, hw, hcs, hrel⟩ := hS.box s l hl
  obtain ⟨v, h1, h2⟩ := load_run (w := w) (P := P) (M := g.M) (b := g.loc s) (off := off.o) (fun j y hy => by
   rw [List.getElem?_drop] at hy
   obtain ⟨h3, h4⟩ := hrel (off.o + j) y hy
   have hlt : off.o + j < cs.size := by rw [hcs]; exact (gS_ hy).1
   refine ⟨cs.getD (off.o + j) undef, ?_, h3, h4⟩
   simp only [World.cell?, hw]
   simp [Array.getD, hlt]) hk h
  exact ⟨v, by simpa [Instr.loadAt, Instr.sureAddr] using h1, h2⟩
theorem placeP_some {t : TypeId} {f : Nat} {p : Nat × Nat} (h : placeP P t f = some p) : ∃ fs fd, P.underlying t = some (.struct fs) ∧ fs[f]? = some fd ∧ fd.offset = p.1 ∧ sizeP P fd.type = some p.2 := by
 unfold placeP at h
 cases hf : fieldP P t f with
 | none => simp [hf] at h
 | some q =>
  simp only [hf, Option.map_eq_some_iff] at h
  obtain ⟨k, hk, rfl⟩ := h
  unfold fieldP at hf
  cases hu : P.underlying t with
  | none => simp [hu] at hf
  | some d =>
   cases d <;> simp only [hu, reduceCtorEq] at hf
   rename_i fs
   obtain ⟨fd, h1, rfl⟩ := oM_ hf
   exact ⟨fs, fd, rfl, h1, rfl, hk⟩
theorem fieldC_ok (hS : Sim P Dw F0 base M0 w0 N g st a w) {t : TypeId} {x : Operand} {f : Nat} {p : Nat × Nat} {c : C} (hp : placeP P t f = some p) (h0 : p.2 ≠ 0) (h : fieldC p.1 (st.ev x) = some c) :
  ∃ v, (Instr.fieldAt t (a.eval x) f).run P w = .ok v w ∧ RelC g v c := by
 obtain ⟨fs, fd, hu, hf, ho, hs⟩ := placeP_some hp
 have hplace : ∀ b o, (Instr.fieldAt t (.pointer (some ⟨b, o, none⟩)) f).run P w = .ok (.pointer (some ⟨b, o + p.1, none⟩)) w := by
  intro b o
  simp [Instr.fieldAt, run_underlying hu, hf, Instr.sureAddr, fieldPlace, run_sizeP hs, h0, addr_add, ho]
 have hx := hS.ev x
 cases hc : st.ev x with
 | v z =>
  rw [hc] at h hx
  simp only [fieldC, Option.map_eq_some_iff] at h
  obtain ⟨z', hz, rfl⟩ := h
  unfold ptrF at hz
  split at hz
  ·rename_i l
   simp only [oE_] at hz
   subst hz
   obtain ⟨b, o, e, hm⟩ := rel_ptr hx
   rw [e]
   refine ⟨_, hplace b o, mk_ptr fun j y hy => ?_⟩
   rw [List.getElem?_drop] at hy
   have := hm _ y hy
   rwa [← Nat.add_assoc] at this
  ·cases hz
 | nil => rw [hc] at h; simp [fieldC] at h
 | row s => rw [hc] at h; simp [fieldC] at h
 | box s off => rw [hc] at h; simp [fieldC] at h
 | adr s p q gs => rw [hc] at h; simp [fieldC] at h
 | ref s p gs => rw [hc] at h; simp [fieldC] at h
theorem addrOp_ok (hS : Sim P Dw F0 base M0 w0 N g st a w) {r : C × Option V} (h : addrOp P st o = some r) : (∀ v z b, z ≠ .lit (.bool b) → RelC g v (r.1.addG (z, b))) ∧ (∀ v z, RelC g v r.1 → RelC g v (r.1.addG z)) ∧ ∀ z, r.2 = some z → ∃ v, (execOp a.eval o).run P w = .ok (.value v) w ∧ RelC g v r.1 := by
 obtain ⟨dst, op, ty, pos, after, guard⟩ := o
 unfold addrOp at h
 simp only at h
 split at h
 ·rename_i t x f
  split at h
  ·rename_i d q hpl
   obtain ⟨fs, fd, hu, hf, ho, hs⟩ := placeP_some hpl
   have hplace : ∀ b o, (Instr.fieldAt t (.pointer (some ⟨b, o, none⟩)) f).run P w = .ok (.pointer (some ⟨b, o + d, none⟩)) w := by
    intro b o
    simp [Instr.fieldAt, run_underlying hu, hf, Instr.sureAddr, fieldPlace, run_sizeP hs, addr_add, ho]
   have hex : ∀ b o, a.eval x = .pointer (some ⟨b, o, none⟩) → (execOp a.eval ⟨dst, .fieldAddr t x f, ty, pos, after, guard⟩).run P w = .ok (.value (.pointer (some ⟨b, o + d, none⟩))) w := by
    intro b o e
    have := hplace b o
    simp only [execOp, e, Sem.run_bind, this, Result.andThen_ok, Sem.run_pure]
   have hx := hS.ev x
   split at h
   ·rename_i s off hc
    simp only [oE_] at h
    subst h
    rw [hc] at hx
    refine ⟨fun v z b hz hg => absurd (hg (z, b) (List.mem_cons_self ..)) hz, fun v z hv hg => hv fun r hr => hg r (List.mem_cons_of_mem _ hr), fun z hz => ?_⟩
    have hgs := (gateL_some hz).1
    exact ⟨_, hex _ _ (hx hgs), fun _ => rfl⟩
   ·rename_i s p q' gs hc
    simp only [oE_] at h
    subst h
    rw [hc] at hx
    refine ⟨fun v z b hz hg => absurd (hg (z, b) (List.mem_cons_self ..)) hz, fun v z hv hg => hv fun r hr => hg r (List.mem_cons_of_mem _ hr), fun z hz => ?_⟩
    have hgs := (gateL_some hz).1
    obtain ⟨k1, u1, b1, k3, k4, k5⟩ := hx hgs
    refine ⟨_, hex _ _ k5, fun _ => ⟨k1, u1, b1, k3, k4, ?_⟩⟩
    rw [abs_add]
   ·cases h
  ·cases h
 ·rename_i t x i
  split at h
  ·rename_i s p gs hc
   split at h
   ·rename_i k hk
    simp only [oE_] at h
    subst h
    have hx := hS.ev x
    rw [hc] at hx
    refine ⟨fun v z b hz hg => absurd (hg (z, b) (List.mem_cons_self ..)) hz, fun v z hv hg => hv fun r hr => hg r (List.mem_cons_of_mem _ hr), fun z hz => ?_⟩
    obtain ⟨hgs, h1⟩ := gateL_some hz
    obtain ⟨rows, hrows, h2⟩ := oB_ h1
    obtain ⟨k1, k3⟩ := hx hgs
    unfold rowsR at hrows
    obtain ⟨x2, m1, hrows⟩ := oB_ hrows
    obtain ⟨y2, m2, hrows⟩ := oB_ hrows
    split at hrows
    ·rename_i k0 rows'
     simp only [oE_] at hrows
     subst hrows
     obtain ⟨u, G, e1, e2, e3, _⟩ := (hS.own s x2 m1).get p m2
     rw [k3] at e1
     obtain rfl := oJ_ e1
     unfold inB at h2
     split at h2
     ·rename_i ik n hi
      split at h2
      ·rename_i hn
       have hir := hS.rd i
       rw [hi] at hir
       obtain ⟨hiv, -⟩ := rel_lit hir
       have hnat : natOf (st.rd i) = n.toNat := by rw [hi]; rfl
       have hrunx : ∀ z, (Instr.indexAt t (a.eval x) (a.eval i)).run P w = .ok z w → (execOp a.eval ⟨dst, .indexAddr t x i, ty, pos, after, guard⟩).run P w = .ok (.value z) w := fun z hz => by
        simp only [execOp, Sem.run_bind, hz, Result.andThen_ok, Sem.run_pure]
       rw [hiv] at hrunx
       generalize a.eval x = vx at k3 e2 hrunx
       cases e2 with
       | pure _ _ _ h => exact absurd h rel_osl
       | oslNil _ _ => simp at hn
       | osl _ b c k' cs ty' fz hz _ Fi hb hh hs hnn hm hkk h1' hr sub dis =>
        have hbnd : 0 ≤ n ∧ n < (rows'.length : Int) := ⟨hn.1, by omega⟩
        obtain ⟨e, hu, hsz⟩ : ∃ e, P.underlying t = some (.slice e) ∧ sizeP P e = some k := by
         unfold elemSz at hk
         split at hk
         ·rename_i e hu; exact ⟨e, hu, hk⟩
         ·cases hk
        refine ⟨.pointer (some ⟨b, n.toNat * k, none⟩), ?_, fun _ => ⟨k1, _, b, k3, rfl, ?_⟩⟩
        ·refine hrunx _ ?_
         have ha0 : (⟨b, 0, none⟩ : Addr).add (n.toNat * k) = ⟨b, n.toNat * k, none⟩ := by rw [addr_add]; simp
         simp [Instr.indexAt, asIntOf, run_underlying hu, hbnd, run_sizeP hsz, ha0]
        ·simp [Stp.abs, hnat]
      ·cases h2
     ·cases h2
    ·cases hrows
   ·cases h
  ·rename_i s p q gs hc
   split at h
   ·rename_i n k hk
    split at h
    rotate_left
    ·split at h
     rotate_left
     ·cases h
     rename_i hq1
     simp only [oE_] at h
     subst h
     have hx := hS.ev x
     rw [hc] at hx
     refine ⟨fun v z b hz hg => absurd (hg (z, b) (List.mem_cons_self ..)) hz, fun v z hv hg => hv fun r hr => hg r (List.mem_cons_of_mem _ hr), fun z hz => ?_⟩
     obtain ⟨hgs, h2⟩ := gateL_some hz
     obtain ⟨k1, u1, b1, k3, k4, k5⟩ := hx hgs
     have hq0 : q.abs = q.j := by unfold Stp.abs; rw [hq1]
     rw [hq0] at k5
     unfold inB at h2
     split at h2
     ·rename_i ik m hi
      split at h2
      ·rename_i hm
       have hir := hS.rd i
       rw [hi] at hir
       obtain ⟨hiv, -⟩ := rel_lit hir
       have hnat : natOf (st.rd i) = m.toNat := by rw [hi]; rfl
       have hbnd : 0 ≤ m ∧ m < (n : Int) := ⟨hm.1, by omega⟩
       obtain ⟨e, hu, hsz⟩ : ∃ e, P.underlying t = some (.array n e) ∧ sizeP P e = some k := by
        unfold arrP at hk
        split at hk
        ·rename_i n' e hu
         obtain ⟨k', hk', he⟩ := oM_ hk
         simp only [Prod.mk.injEq] at he
         obtain ⟨rfl, rfl⟩ := he
         exact ⟨e, hu, hk'⟩
        ·cases hk
       refine ⟨.pointer (some ⟨b1, q.j + m.toNat * k, none⟩), ?_, fun _ => ⟨k1, u1, b1, k3, k4, ?_⟩⟩
       ·have ha0 : (⟨b1, q.j, none⟩ : Addr).add (m.toNat * k) = ⟨b1, q.j + m.toNat * k, none⟩ := by rw [addr_add]
        have hz : (Instr.indexAt t (a.eval x) (a.eval i)).run P w = .ok (.pointer (some ⟨b1, q.j + m.toNat * k, none⟩)) w := by
         rw [k5, hiv]
         simp [Instr.indexAt, asIntOf, run_underlying hu, Instr.sureAddr, hbnd, run_sizeP hsz, ha0]
        simp only [execOp, Sem.run_bind, hz, Result.andThen_ok, Sem.run_pure]
       ·simp [Stp.abs, hnat]
      ·cases h2
     ·cases h2
    rename_i hq
    obtain ⟨hq1, hq2, hq3⟩ := hq
    simp only [oE_] at h
    subst h
    have hx := hS.ev x
    rw [hc] at hx
    refine ⟨fun v z b hz hg => absurd (hg (z, b) (List.mem_cons_self ..)) hz, fun v z hv hg => hv fun r hr => hg r (List.mem_cons_of_mem _ hr), fun z hz => ?_⟩
    obtain ⟨hgs, h2⟩ := gateL_some hz
    obtain ⟨k1, u1, b1, k3, k4, k5⟩ := hx hgs
    have hq0 : q.abs = 0 := by unfold Stp.abs; rw [hq1]; simp [hq2]
    rw [hq0] at k5
    unfold inB at h2
    split at h2
    ·rename_i ik m hi
     split at h2
     ·rename_i hm
      have hir := hS.rd i
      rw [hi] at hir
      obtain ⟨hiv, -⟩ := rel_lit hir
      have hnat : natOf (st.rd i) = m.toNat := by rw [hi]; rfl
      have hbnd : 0 ≤ m ∧ m < (n : Int) := ⟨hm.1, by omega⟩
      obtain ⟨e, hu, hsz⟩ : ∃ e, P.underlying t = some (.array n e) ∧ sizeP P e = some k := by
       unfold arrP at hk
       split at hk
       ·rename_i n' e hu
        obtain ⟨k', hk', he⟩ := oM_ hk
        simp only [Prod.mk.injEq] at he
        obtain ⟨rfl, rfl⟩ := he
        exact ⟨e, hu, hk'⟩
       ·cases hk
      refine ⟨.pointer (some ⟨b1, m.toNat * k, none⟩), ?_, fun _ => ⟨k1, u1, b1, k3, k4, ?_⟩⟩
      ·have ha0 : (⟨b1, 0, none⟩ : Addr).add (m.toNat * k) = ⟨b1, m.toNat * k, none⟩ := by rw [addr_add]; simp
       have hz : (Instr.indexAt t (a.eval x) (a.eval i)).run P w = .ok (.pointer (some ⟨b1, m.toNat * k, none⟩)) w := by
        rw [k5, hiv]
        simp [Instr.indexAt, asIntOf, run_underlying hu, Instr.sureAddr, hbnd, run_sizeP hsz, ha0]
       simp only [execOp, Sem.run_bind, hz, Result.andThen_ok, Sem.run_pure]
      ·simp [Stp.abs, hnat]
     ·cases h2
    ·cases h2
   ·cases h
  ·cases h
 ·rename_i t x
  split at h
  ·split at h
   ·rename_i hk
    split at h
    ·rename_i s p q gs hc
     simp only [oE_] at h
     subst h
     have hx := hS.ev x
     rw [hc] at hx
     refine ⟨fun v z b hz hg => absurd (hg (z, b) (List.mem_cons_self ..)) hz, fun v z hv hg => hv fun r hr => hg r (List.mem_cons_of_mem _ hr), fun z hz => ?_⟩
     obtain ⟨hgs, h1⟩ := gateL_some hz
     obtain ⟨l, hl, h2⟩ := oB_ h1
     obtain ⟨z1, hz1, hown⟩ := oB_ h2
     obtain ⟨k1, hxg⟩ := hx hgs
     obtain ⟨b, cs, ty', fz, Fi, hv, _, hhp, hw, hcs⟩ := hS.node hxg hl
     obtain ⟨u1, b1, k3, k4, k5⟩ := hxg
     obtain ⟨c1, c2, c3⟩ := hcs q.j z1 hz1
     have hcell : w.cell? ⟨b, q.abs, none⟩ = some (cs.getD q.abs undef) := by
      simp only [World.cell?, hw]; exact cells_at c1
     have hbb : b1 = b := by rw [k5] at hv; simpa using hv
     subst hbb
     unfold nodeR at hl
     obtain ⟨x2, m1, hl⟩ := oB_ hl
     obtain ⟨y2, m2, hl⟩ := oB_ hl
     refine ⟨cs.getD q.abs undef, ?_, fun _ => ⟨.inr ⟨x2, z1, by rw [hS.gow]; exact m1, ?_⟩, ?_⟩⟩
     ·have h9 := load1_run (P := P) (w := w) hk hcell
      simp only [execOp, hv, Instr.loadAt, Instr.sureAddr, Sem.run_bind, Sem.run_pure, Result.andThen_ok, pure_bind, h9]
     ·rw [getV_snoc, m2]
      simp only [oS_]
      exact stepX_node hl hz1
     ·rw [walkV_snoc, k3]
      simp only [oS_, stepV]
      rw [cellsAt_blk k4 hhp]
      exact cells_at c1
    ·cases h
   ·cases h
  ·cases h
 ·rename_i x
  split at h
  ·split at h
   ·rename_i s p gs hc
    simp only [oE_] at h
    subst h
    have hx := hS.ev x
    rw [hc] at hx
    refine ⟨fun v z b hz hg => absurd (hg (z, b) (List.mem_cons_self ..)) hz, fun v z hv hg => hv fun r hr => hg r (List.mem_cons_of_mem _ hr), fun z hz => ?_⟩
    exact ⟨a.eval x, by simp [execOp], hx⟩
   ·rename_i s p q gs hc
    simp only [oE_] at h
    subst h
    have hx := hS.ev x
    rw [hc] at hx
    refine ⟨fun v z b hz hg => absurd (hg (z, b) (List.mem_cons_self ..)) hz, fun v z hv hg => hv fun r hr => hg r (List.mem_cons_of_mem _ hr), fun z hz => ?_⟩
    exact ⟨a.eval x, by simp [execOp], hx⟩
   ·cases h
  ·cases h
 ·rename_i x
  split at h
  ·rename_i s p q gs hc
   simp only [oE_] at h
   subst h
   have hx := hS.ev x
   rw [hc] at hx
   refine ⟨fun v z b hz hg => absurd (hg (z, b) (List.mem_cons_self ..)) hz, fun v z hv hg => hv fun r hr => hg r (List.mem_cons_of_mem _ hr), fun z hz => ?_⟩
   obtain ⟨_, u, b, _, _, e⟩ := hx (gateL_some hz).1
   exact ⟨a.eval x, by simp [execOp, e], hx⟩
  ·rename_i s off hc
   simp only [oE_] at h
   subst h
   have hx := hS.ev x
   rw [hc] at hx
   refine ⟨fun v z b hz hg => absurd (hg (z, b) (List.mem_cons_self ..)) hz, fun v z hv hg => hv fun r hr => hg r (List.mem_cons_of_mem _ hr), fun z hz => ?_⟩
   have e := hx (gateL_some hz).1
   exact ⟨a.eval x, by simp [execOp, e], hx⟩
  ·rename_i s gs hc
   simp only [oE_] at h
   subst h
   have hx := hS.ev x
   rw [hc] at hx
   refine ⟨fun v z b hz hg => absurd (hg (z, b) (List.mem_cons_self ..)) hz, fun v z hv hg => hv fun r hr => hg r (List.mem_cons_of_mem _ hr), fun z hz => ?_⟩
   obtain ⟨hgs, h1⟩ := gateL_some hz
   obtain ⟨y, hy, h2⟩ := oB_ h1
   unfold objN at h2
   split at h2
   ·rename_i l
    obtain ⟨_, hwk⟩ := hx hgs
    have hT := hS.own s _ hy
    have hov : g.ov s = a.eval x := by simpa [walkV] using hwk
    rw [hov] at hT
    obtain ⟨b, hb⟩ : ∃ b, a.eval x = .pointer (some ⟨b, 0, none⟩) := by
     generalize a.eval x = vx at hT
     cases hT with
     | pure _ _ _ h => exact absurd h rel_obj
     | obj _ b => exact ⟨b, rfl⟩
    refine ⟨a.eval x, by simp [execOp, hb], fun _ => ⟨.inl rfl, g.ov s, b, rfl, by rw [hov, hb]; rfl, by rw [hb]; rfl⟩⟩
   ·cases h2
  ·cases h
 ·cases h
theorem fieldV_ok {M : Mem} {t : TypeId} {v : Value} {x y : V} {f : Nat} (hx : Rel M v x) (h : fieldV P t x f = some y) : ∃ u, (Instr.field t v f).run P w = .ok u w ∧ Rel M u y := by
 unfold fieldV at h
 obtain ⟨q, hf, h0⟩ := oB_ h
 obtain ⟨kk, hkk, h9⟩ := oB_ h0
 clear h h0
 have h := h9
 clear h9
 unfold fld at h
 cases x <;> try (simp at h; done)
 rename_i l
 simp only at h
 ·skip
  obtain ⟨cs, rfl, hsz, hrel⟩ := rel_agg hx
  unfold fieldP at hf
  cases hu : P.underlying t with
  | none => simp [hu] at hf
  | some d =>
   cases d <;> simp only [hu, reduceCtorEq] at hf
   rename_i fs
   obtain ⟨fd, h1, rfl⟩ := oM_ hf
   simp only at h hkk
   unfold kindP at hkk
   cases ha : aggP P fd.type with
   | none => simp [ha] at hkk
   | some bb =>
    cases hs : sizeP P fd.type with
    | none => cases bb <;> simp [ha, hs] at hkk
    | some n =>
     cases bb with
     | true =>
      simp only [ha, hs, oE_] at hkk
      subst hkk
      simp only [ldk, loadA] at h
      split at h
      ·rename_i hn
       simp only [oE_] at h
       subst h
       simp only [List.length_drop] at hn
       refine ⟨.agg (cs.extract fd.offset (fd.offset + n)), by simp [Instr.field, run_underlying hu, h1, asAgg, part, run_isAgg ha, run_sizeP hs], ?_⟩
       refine .agg _ _ (by simp; omega) (fun i hi => ?_) fun i z hz => ?_
       all_goals
        have hin : i < n := by
         first
          | (have := hi; rw [List.length_take, List.length_drop] at this; omega)
          | (have := (gS_ hz).1; rw [List.length_take, List.length_drop] at this; omega)
        have hil : fd.offset + i < l.length := by omega
        have hic : fd.offset + i < cs.size := by omega
        obtain ⟨h3, h4⟩ := hrel (fd.offset + i) l[fd.offset + i] (gE_ hil)
        have e : (cs.extract fd.offset (fd.offset + n)).getD i undef = cs.getD (fd.offset + i) undef := by
         have hie : i < (cs.extract fd.offset (fd.offset + n)).size := by rw [Array.size_extract]; omega
         simp only [Array.getD, hie, hic, dite_true, Array.getInternal_eq_getElem, Array.getElem_extract]
        rw [e]
       ·exact h3
       ·have : z = l[fd.offset + i] := by
         rw [List.getElem?_take, if_pos hin, List.getElem?_drop, gE_ hil] at hz
         simpa using hz.symm
        rw [this]; exact h4
      ·cases h
     | false =>
      simp only [ha, hs, oE_] at hkk
      subst hkk
      simp only [ldk, List.getElem?_drop, Nat.add_zero] at h
      obtain ⟨h3, h4⟩ := hrel fd.offset y h
      have hic : fd.offset < cs.size := by rw [hsz]; exact (gS_ h).1
      exact ⟨cs.getD fd.offset undef, by simp [Instr.field, run_underlying hu, h1, asAgg, part, run_isAgg ha, hic], h4⟩
end
end Go.Proofs.YtgkohnjpnnofhaaGreat.Den
