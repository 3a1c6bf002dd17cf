/- A reader of Go code in plain values: append. -/
import Derived.Test.YtgkohnjpnnofhaaGreatDen7
namespace Go.Proofs.YtgkohnjpnnofhaaGreat.Den
set_option linter.unusedSimpArgs false
set_option linter.unusedVariables false
set_option linter.unnecessarySimpa false
open Go.RowKit
section
variable {P : Program} {Dw : World → Prop} {F0 : Par} {base : Nat} {M0 : Mem} {w0 w : World} {N : Nat} {g : Ghost} {st : St} {a : Act} {o : Oper} {s : Nat}
theorem owns_inv {e k : Nat} {v : Value} {xs : List (List Value)} (h : Owns w base e k v xs) : (v = .slice none 0 0 ∧ xs = []) ∨
  ∃ q cap, v = .slice (some ⟨q, 0, none⟩) xs.length cap ∧ base ≤ q ∧ q < w.heap.size ∧ xs.length ≤ cap ∧ cap ≤ maxLen ∧ ∀ o, o < xs.length * k → w.cell? ⟨q, o, none⟩ = xs.flatten[o]? := by
 obtain ⟨⟨hl, hd⟩, hk⟩ := h
 rcases hd with ⟨rfl, h0⟩ | ⟨q, cap, cur, rfl, hg, hh, hnc, hm, hs, ht⟩
 ·exact .inl ⟨rfl, List.eq_nil_of_length_eq_zero h0⟩
 ·refine .inr ⟨q, cap, rfl, hg, (Array.getElem?_eq_some_iff.1 hh).1, hnc, hm, fun o ho => ?_⟩
  have h1 : (cur.toList.take (xs.length * k))[o]? = xs.flatten[o]? := by rw [ht]
  rw [List.getElem?_take, if_pos ho] at h1
  simp only [World.cell?, hh]
  simpa using h1
theorem ownsO_inv {e k : Nat} {v : Value} {xs : List (List Value)} (h : OwnsO w base e k v xs) : (v = .slice none 0 0 ∧ xs = []) ∨
  ∃ q off cap, v = .slice (some ⟨q, off, none⟩) xs.length cap ∧ base ≤ q ∧ q < w.heap.size ∧ xs.length ≤ cap ∧ cap ≤ maxLen ∧ ∀ o, o < xs.length * k → w.cell? ⟨q, off + o, none⟩ = xs.flatten[o]? := by
 rcases h.2 with h0 | ⟨q, off, cap, cur, rfl, hg, hh, hnc, hm, hs, ht⟩
 ·exact .inl h0
 ·refine .inr ⟨q, off, cap, rfl, hg, (Array.getElem?_eq_some_iff.1 hh).1, hnc, hm, fun o ho => ?_⟩
  simpa [World.cell?, hh] using ht o ho
theorem elemP_some {t : TypeId} {p : TypeId × Nat} (h : elemP P t = some p) : ∃ bytes, Elem P t p.1 p.2 bytes ∧ bytes ≤ 32768 ∧ sizeP P p.1 = some p.2 := by
 unfold elemP at h
 split at h
 ·rename_i e hu
  obtain ⟨i, hi, h⟩ := oB_ h
  obtain ⟨z, hz, h⟩ := oB_ h
  split at h
  ·rename_i hc
   simp only [oE_] at h
   subst h
   exact ⟨i.bytes, ⟨hu, ⟨i, z, hi, hz, rfl, rfl, hc.2.1⟩, hc.1⟩, hc.2.2, by simp [sizeP, hi]⟩
  ·cases h
 ·cases h
def valsOf (M : Mem) (b o k n : Nat) : List (List Value) := (List.range n).map fun i => (List.range k).map fun j => (M b (o + i * k + j)).getD undef
theorem valsOf_at {M : Mem} {b o k n i : Nat} {cs : List Value} (h : (valsOf M b o k n)[i]? = some cs) : i < n ∧ cs = (List.range k).map fun j => (M b (o + i * k + j)).getD undef := by
 unfold valsOf at h
 rw [List.getElem?_map] at h
 cases hr : (List.range n)[i]? with
 | none => rw [hr] at h; cases h
 | some q =>
  obtain ⟨h1, h2⟩ := gS_ hr
  simp at h1 h2
  subst h2
  rw [hr] at h
  simp only [Option.map_some, oE_] at h
  exact ⟨h1, h.symm⟩
theorem valsOf_cell {M : Mem} {b o k n i j : Nat} (hi : i < n) (hj : j < k) : (valsOf M b o k n).flatten[i * k + j]? = some ((M b (o + i * k + j)).getD undef) := by
 refine flatten_at (k := k) (i := i) (j := j) (fun cs hcs => ?_) (cs := (List.range k).map fun j => (M b (o + i * k + j)).getD undef) ?_ ?_
 ·obtain ⟨i', hi'⟩ := List.getElem?_of_mem hcs
  obtain ⟨_, rfl⟩ := valsOf_at hi'
  simp
 ·unfold valsOf; rw [List.getElem?_map, List.getElem?_range hi]; rfl
 ·rw [List.getElem?_map, List.getElem?_range hj]; rfl
theorem appendT_ok (hS : Sim P Dw F0 base M0 w0 N g st a w) (hf : Fresh st s) {dst : Option Nat} (hd : ∀ d, dst = some d → d < N) {t ty : TypeId} {x y : Operand} {st' : St} (h : appendT P s st dst t (st.ev x) (st.rd y) = some st') :
  ∃ v w' g', (Builtin.append_ #[t, t] ty #[a.eval x, a.eval y]).run P w = .ok v w' ∧ Sim P Dw F0 base M0 w0 N g' st' (a.put dst v) w' := by
 unfold appendT at h
 obtain ⟨pp, hel, h1⟩ := oB_ h
 obtain ⟨e, k⟩ := pp
 obtain ⟨rows, hrows, h2⟩ := oB_ h1
 obtain ⟨rows', happ, h3⟩ := oM_ h2
 clear h h1 h2
 simp only at hrows happ h3
 unfold appR at happ
 split at happ
 ·rename_i ys hys
  split at happ
  ·rename_i hc
   simp only [oE_] at happ
   subst happ
   have h := h3
   clear h3
   obtain ⟨bytes, el, hby, hsz⟩ := elemP_some hel
   simp only at el hsz
   have hyk : ∀ r ∈ ys, r.length = k := fun r hr => by simpa using List.all_eq_true.1 hc.1 r hr
   have hyr := hS.rd y
   rw [hys] at hyr
   obtain ⟨A, c, k', b, off, hya, hsl⟩ := rel_sl hyr
   -- the row that is appended to
   have hx := hS.ev x
   have hbase : ∃ v xs, a.eval x = v ∧ OwnsO w base e k v xs ∧ xs.length = rows.length ∧ (∀ r ∈ rows, r.length = k) ∧ Rel g.M v (.sl rows) ∧ (∀ q, v.ownBlock = some q → base ≤ q ∧ q < w.heap.size ∧ (rows.length < capOf v → ∀ o u, g.M q o = some u → o < offOf v + rows.length * k)) ∧
     (∀ s2 l, st.bx s2 = some l → v.ownBlock ≠ some (g.loc s2)) ∧ (∀ q ob, g.hp q = some ob → v.ownBlock ≠ some q) ∧ (∀ s2 r2, dropRow st (st.ev x) s2 = some r2 → st.rw s2 = some r2 ∧ ∀ q, v.ownBlock = some q → (g.val s2).ownBlock ≠ some q) := by
    cases hev : st.ev x with
    | v z => rw [hev] at hrows; simp [rowsAt] at hrows
    | box s2 o2 => rw [hev] at hrows; simp [rowsAt] at hrows
    | nil =>
     rw [hev] at hrows hx
     simp only [rowsAt, oE_] at hrows
     subst hrows
     simp only [RelC] at hx
     exact ⟨_, [], hx, OwnsO.nil_ _ _ _ _, rfl, by simp, rel_nil _, by simp [Value.ownBlock], by simp [Value.ownBlock], by simp [Value.ownBlock], fun s2 r2 h2 => ⟨h2, by simp [Value.ownBlock]⟩⟩
    | adr s2 p2 q2 g2 => rw [hev] at hrows; simp [rowsAt] at hrows
    | ref s2 p2 g2 => rw [hev] at hrows; simp [rowsAt] at hrows
    | row r =>
     rw [hev] at hrows hx
     simp only [rowsAt, Option.bind_eq_some_iff] at hrows
     obtain ⟨p, hp, hrows⟩ := hrows
     split at hrows
     ·rename_i hpe
      simp only [oE_] at hrows
      obtain ⟨e', rows'⟩ := p
      simp only at hpe hrows
      subst hpe hrows
      simp only [RelC] at hx
      obtain ⟨h1, k2, xs, h2, h3, h4, h5, h6⟩ := hS.row r _ _ hp
      have : k2 = k := by rw [hsz] at h2; simpa using h2.symm
      subst this
      refine ⟨_, xs, hx, h3, h4, h5, h1, h6, fun s2 l hs2 => hS.boxrow s2 r l _ hs2 hp, fun q ob hq => (hS.hp q ob hq).2.2.2.2 r _ hp, fun s2 r2 h2' => ?_⟩
      simp only [dropRow] at h2'
      by_cases e2 : s2 = r
      ·subst e2; rw [upd_same] at h2'; cases h2'
      ·rw [upd_ne _ _ e2] at h2'
       exact ⟨h2', hS.rows r s2 _ _ hp h2' (Ne.symm e2)⟩
     ·cases hrows
   obtain ⟨v, xs, hxa, hown, hxl, hrk, hrv, hvb, hvbox, hvhp, hvrow⟩ := hbase
   have hyc : RowC w k A ys.length c (valsOf g.M b off k ys.length) := by
    refine ⟨by simp [valsOf], hsl.hc, fun cs hcs => ?_, fun hp => ?_⟩
    ·obtain ⟨i', hi'⟩ := List.getElem?_of_mem hcs
     obtain ⟨_, rfl⟩ := valsOf_at hi'
     simp
    ·have hA := hsl.hA hp
     obtain ⟨r0, hr0⟩ : ∃ r0, ys[0]? = some r0 := ⟨_, gE_ hp⟩
     have hk' : k' = k := by rw [← hsl.hk r0 (List.mem_of_getElem? hr0), hyk r0 (List.mem_of_getElem? hr0)]
     have hcell : ∀ i j, i < ys.length → j < k → ∃ u, g.M b (off + i * k + j) = some u := fun i j hi hj => by
      have hri := gE_ hi
      have hlen := hyk _ (List.getElem_mem hi)
      obtain ⟨u, hu, _⟩ := hsl.hr i _ hri j _ (gE_ (by rw [hlen]; exact hj))
      rw [hk'] at hu
      exact ⟨u, hu⟩
     have hk0 := el.hk
     obtain ⟨u0, hu0⟩ := hcell 0 0 hp hk0
     refine ⟨b, off, hA, mem_lt hS.mem hu0, fun i cs hi j u hu => ?_⟩
     obtain ⟨hin, rfl⟩ := valsOf_at hi
     rw [List.getElem?_map] at hu
     cases hr : (List.range k)[j]? with
     | none => rw [hr] at hu; cases hu
     | some q =>
      obtain ⟨h1, h2⟩ := gS_ hr
      simp at h1 h2
      subst h2
      rw [hr] at hu
      simp only [Option.map_some, oE_] at hu
      obtain ⟨u1, hu1⟩ := hcell i j hin h1
      rw [hu1] at hu
      simp only [Option.getD_some] at hu
      subst hu
      exact hS.mem _ _ _ hu1
   have hycell : ∀ i r, ys[i]? = some r → ∀ j z, r[j]? = some z → ∃ u, g.M b (off + i * k + j) = some u ∧ u.oneCell' = true ∧ Rel g.M u z := fun i r hr j z hz => by
    have := hsl.hr i r hr j z hz
    have hk' : k' = k := by rw [← hsl.hk r (List.mem_of_getElem? hr), hyk r (List.mem_of_getElem? hr)]
    rwa [hk'] at this
   have hone : ∀ cs ∈ valsOf g.M b off k ys.length, ∀ u ∈ cs, u.oneCell' = true := by
    intro cs hcs u hu
    obtain ⟨i, hi⟩ := List.getElem?_of_mem hcs
    obtain ⟨hin, rfl⟩ := valsOf_at hi
    obtain ⟨j, hj, rfl⟩ := List.mem_map.1 hu
    have hri := gE_ hin
    have hlen := hyk _ (List.getElem_mem hin)
    obtain ⟨u, hu1, hu2, _⟩ := hycell i _ hri j _ (gE_ (by rw [hlen]; exact List.mem_range.1 hj))
    rw [hu1]; exact hu2
   have hvl : (valsOf g.M b off k ys.length).length = ys.length := by simp [valsOf]
   have hyc' : RowC w k A (valsOf g.M b off k ys.length).length c (valsOf g.M b off k ys.length) := by rw [hvl]; exact hyc
   have hb2 : (xs.length + ys.length) * bytes ≤ 4294967296 * 32768 := Nat.mul_le_mul (by omega) hby
   obtain ⟨v', w', hrun, hown', halt⟩ := append_runO (ty := ty) el hown hyc' hone (by rw [hvl]; unfold maxLen; omega) (by rw [hvl]; omega) hS.base_le
   rw [hvl] at hrun
   -- what has become of old blocks
   rw [hvl] at halt
   have hsize : w.heap.size ≤ w'.heap.size ∧ w'.os = w.os ∧ w'.tape = w.tape ∧ w'.output = w.output := by
    rcases halt with ⟨_, _, rfl⟩ | ⟨_, _, _, _, _, _, _, hg, _⟩ | ⟨_, _, hg⟩
    ·exact ⟨Nat.le_refl _, rfl, rfl, rfl⟩
    ·exact ⟨hg.size, hg.os, hg.tape, hg.output⟩
    ·exact ⟨hg.size, hg.os, hg.tape, hg.output⟩
   have hold : ∀ n, n < w.heap.size → (v.ownBlock ≠ some n ∨ v'.ownBlock ≠ some n) → w'.heap[n]? = w.heap[n]? := by
    intro n hn hne
    rcases halt with ⟨_, _, rfl⟩ | ⟨q, off, cap, _, e1, e2, _, hg, _⟩ | ⟨he, _, hg⟩
    ·rfl
    ·exact hg.block n hn (by rcases hne with h1 | h1
                             · rw [e1] at h1; exact Ne.symm h1
                             · rw [e2] at h1; exact Ne.symm h1)
    ·exact hg.block n hn (by simp)
   have hnew : ∀ n, v'.ownBlock = some n → n < w.heap.size → v.ownBlock = some n := by
    intro n hn hlt
    rcases halt with ⟨_, rfl, _⟩ | ⟨q, off, cap, _, e1, e2, _, _⟩ | ⟨he, _, _⟩
    ·exact hn
    ·rw [e1]; rw [e2] at hn; exact hn
    ·rw [he] at hn; simp at hn; omega
   -- the cells that were read stay, and none lies where something comes
   have hcellq : ∀ q off cap, v' = .slice (some ⟨q, off, none⟩) (rows.length + ys.length) cap → ∀ o u, g.M q o = some u → w'.cell? ⟨q, o, none⟩ = some u ∧ (rows.length + ys.length < cap → o < off + (rows.length + ys.length) * k) := by
    intro q off cap hv' o u hu
    have hM := hS.mem q o u hu
    rcases halt with ⟨e0, rfl, rfl⟩ | ⟨q0, off0, cap0, hm, e1, e2, hlt, hg, hc0⟩ | ⟨he, _, hg⟩
    ·refine ⟨hM, fun hcap => ?_⟩
     have := (hvb q (by rw [hv']; rfl)).2.2 (by rw [hv']; show rows.length < cap; omega) o u hu
     rw [hv'] at this
     rw [e0, Nat.add_zero]
     exact this
    ·rw [e2] at hv'
     simp only [Value.slice.injEq, oE_, Addr.mk.injEq, and_true] at hv'
     obtain ⟨⟨rfl, rfl⟩, _, rfl⟩ := hv'
     have := (hvb q0 (by rw [e1]; rfl)).2.2 (by rw [e1]; show rows.length < cap0; omega) o u hu
     rw [e1] at this
     have this : o < off0 + rows.length * k := this
     refine ⟨(hc0 o (by rw [hxl]; exact this)).trans hM, fun _ => by rw [Nat.add_mul]; omega⟩
    ·rw [hv'] at he
     have he : q = w.heap.size := by simpa [Value.ownBlock] using he
     have := mem_lt hS.mem hu
     omega
   have htot : (xs ++ valsOf g.M b off k ys.length).length = rows.length + ys.length := by rw [List.length_append, hvl, hxl]
   have hflat : xs.flatten.length = rows.length * k := by rw [flatten_length hown.1, hxl]
   rcases ownsO_inv hown' with ⟨hv0, hx0⟩ | ⟨q, off9, cap, hv', hq1, hq2, hq3, hq4, hq5⟩
   ·-- nothing at all
    have hr0 : rows.length + ys.length = 0 := by rw [← htot, hx0]; rfl
    have hrn : rows = [] := List.eq_nil_of_length_eq_zero (by omega)
    have hyn : ys = [] := List.eq_nil_of_length_eq_zero (by omega)
    have hnob : v'.ownBlock = none := by rw [hv0]; rfl
    have hw' : ∀ n, n < w.heap.size → w'.heap[n]? = w.heap[n]? := fun n hn => hold n hn (.inr (by rw [hnob]; simp))
    have hg : Grow g.M w g.M w' := ⟨⟨hsize.2.1, hsize.2.2.1, hsize.2.2.2, hsize.1, hw'⟩, fun _ _ _ h => h, fun b o u hu => by rw [World.cell?_of_block (w := w) (hw' b (mem_lt hS.mem hu))]; exact hS.mem b o u hu, fun _ _ _ h _ => h⟩
    have hS' := hS.grow hg
    refine ⟨v', w', { g with val := upd g.val s v' }, by rw [hxa, hya]; exact hrun, ?_⟩
    rw [← h]
    refine Sim.put_ ?_ hd (by show v' = upd g.val s v' s; rw [upd_same])
    refine { hS' with slot := fun t' => ?_, row := fun s2 e2 rows2 h2 => ?_, rows := fun s1 s2 r1 r2 h1 h2 hne q' hq' => ?_, boxrow := fun s1 s2 l r h1 h2 => ?_, hp := fun q' ob hq' => ?_ }
    ·have := hS'.slot t'
     cases hcc : st.φ t' with
     | v z => rw [hcc] at this; exact this
     | nil => rw [hcc] at this; exact this
     | box s2 o2 => rw [hcc] at this; exact this
     | adr s2 p2 q2 g2 => rw [hcc] at this; exact this
     | ref s2 p2 g2 => rw [hcc] at this; exact this
     | row s2 =>
      rw [hcc] at this
      have hne : s2 ≠ s := fun e2 => hf.nrow t' (by rw [hcc, e2])
      simp only [RelC] at this ⊢
      rw [upd_ne _ _ hne]; exact this
    ·by_cases e2' : s2 = s
     ·subst e2'
      simp only [upd_same, oE_, Prod.mk.injEq] at h2 ⊢
      obtain ⟨rfl, rfl⟩ := h2
      subst hrn hyn
      rw [hv0]
      exact ⟨rel_nil _, k, [], hsz, OwnsO.nil_ _ _ _ _, rfl, by simp, by simp [Value.ownBlock]⟩
     ·simp only [upd_ne _ _ e2'] at h2 ⊢
      exact hS'.row s2 e2 rows2 (hvrow s2 _ h2).1
    ·by_cases e1 : s1 = s <;> by_cases e2 : s2 = s
     ·exact absurd (e1.trans e2.symm) hne
     ·subst e1; simp only [upd_same] at hq'; rw [hnob] at hq'; cases hq'
     ·subst e2; simp only [upd_same]; rw [hnob]; simp
     ·simp only [upd_ne _ _ e1, upd_ne _ _ e2] at h1 h2 hq' ⊢
      exact hS'.rows s1 s2 r1 r2 (hvrow s1 _ h1).1 (hvrow s2 _ h2).1 hne q' hq'
    ·by_cases e2 : s2 = s
     ·subst e2; simp only [upd_same]; rw [hnob]; simp
     ·simp only [upd_ne _ _ e2] at h2 ⊢
      exact hS'.boxrow s1 s2 l r h1 (hvrow s2 _ h2).1
    ·obtain ⟨p1, p2, p3, p4, p5⟩ := hS'.hp q' ob hq'
     refine ⟨p1, p2, p3, p4, fun s2 r2 h2 => ?_⟩
     by_cases e2 : s2 = s
     ·subst e2; simp only [upd_same]; rw [hnob]; simp
     ·simp only [upd_ne _ _ e2] at h2 ⊢
      exact p5 s2 r2 (hvrow s2 _ h2).1
   ·-- a row in block q
    have hvq : v'.ownBlock = some q := by rw [hv']; rfl
    have hv9 : v' = .slice (some ⟨q, off9, none⟩) (rows.length + ys.length) cap := by rw [hv', htot]
    let M' : Mem := fun b' o' => if b' = q ∧ off9 ≤ o' ∧ o' < off9 + (rows.length + ys.length) * k then w'.cell? ⟨q, o', none⟩ else g.M b' o'
    have hMq : rows.length + ys.length < capOf v' → ∀ o' u, M' q o' = some u → o' < offOf v' + (rows.length + ys.length) * k := fun hc o' u hu => by
     rw [hv9] at hc ⊢
     show o' < off9 + _
     simp only [M'] at hu
     split at hu
     ·rename_i h; exact h.2.2
     ·exact (hcellq q off9 cap hv9 o' u hu).2 hc
    have hMo : ∀ b' o', b' ≠ q → M' b' o' = g.M b' o' := fun b' o' hb' => by simp only [M']; rw [if_neg (fun h => hb' h.1)]
    have hmono : ∀ b' o' u, g.M b' o' = some u → M' b' o' = some u := by
     intro b' o' u hu
     simp only [M']
     split
     ·rename_i h
      obtain ⟨rfl, _⟩ := h
      exact (hcellq b' off9 cap hv9 o' u hu).1
     ·exact hu
    have hkeep : ∀ n, n < w.heap.size → n ≠ q → w'.heap[n]? = w.heap[n]? := fun n hn hne => hold n hn (.inr (by rw [hvq]; simp; exact fun h => hne h.symm))
    have hmem : ∀ b' o' u, M' b' o' = some u → w'.cell? ⟨b', o', none⟩ = some u := by
     intro b' o' u hu
     simp only [M'] at hu
     split at hu
     ·rename_i h
      rw [h.1]; exact hu
     ·by_cases hb' : b' = q
      ·subst hb'
       exact (hcellq b' off9 cap hv9 o' u hu).1
      ·rw [World.cell?_of_block (w := w) (hkeep b' (mem_lt hS.mem hu) hb')]
       exact hS.mem b' o' u hu
    have hrel : Rel M' v' (.sl (rows ++ ys)) := by
     have hIs : IsSl M' (some ⟨q, off9, none⟩) cap (rows ++ ys) k q off9 := by
      refine ⟨by rw [List.length_append, ← htot]; exact hq3, fun r hr => (List.mem_append.1 hr).elim (hrk r) (hyk r), fun _ => rfl, fun i r hr j z hz => ?_⟩
      by_cases hi : i < rows.length
      ·rw [List.getElem?_append_left hi] at hr
       have hlen := hrk r (List.mem_of_getElem? hr)
       have hjk : j < k := by rw [← hlen]; exact (gS_ hz).1
       obtain ⟨A0, c0, k0, b0, o0, hv0, hsl0⟩ := rel_sl hrv
       obtain ⟨u, hu1, hu2, hu3⟩ := hsl0.hr i r hr j z hz
       have hk0 : k0 = k := by rw [← hsl0.hk r (List.mem_of_getElem? hr), hlen]
       have hA0 := hsl0.hA (by omega)
       rcases ownsO_inv hown with ⟨h0, _⟩ | ⟨q0, off0, cap0, h1, _, _, _, _, h5⟩
       ·rw [h0, hA0] at hv0; simp at hv0
       ·rw [h1, hA0] at hv0
        simp only [Value.slice.injEq, oE_, Addr.mk.injEq, and_true] at hv0
        obtain ⟨⟨rfl, rfl⟩, _, _⟩ := hv0
        subst hk0
        have hidx : i * k0 + j < rows.length * k0 := by
         have : (i + 1) * k0 ≤ rows.length * k0 := Nat.mul_le_mul_right _ (by omega)
         rw [Nat.add_mul] at this; omega
        have hcell := hS.mem _ _ _ hu1
        rw [Nat.add_assoc, h5 _ (by rw [hxl]; exact hidx)] at hcell
        refine ⟨u, ?_, hu2, hu3.mono hmono⟩
        simp only [M']
        rw [if_pos ⟨trivial, by omega, by rw [Nat.add_mul]; omega⟩, Nat.add_assoc, hq5 _ (by rw [htot, Nat.add_mul]; omega), List.flatten_append, List.getElem?_append_left (by rw [hflat]; exact hidx)]
        exact hcell
      ·rw [List.getElem?_append_right (by omega)] at hr
       have hlen := hyk r (List.mem_of_getElem? hr)
       have hjk : j < k := by rw [← hlen]; exact (gS_ hz).1
       have hin : i - rows.length < ys.length := (gS_ hr).1
       obtain ⟨u, hu1, hu2, hu3⟩ := hycell _ r hr j z hz
       refine ⟨u, ?_, hu2, hu3.mono hmono⟩
       have hidx : i * k + j < (rows.length + ys.length) * k := by
        have : (i + 1) * k ≤ (rows.length + ys.length) * k := Nat.mul_le_mul_right _ (by omega)
        rw [Nat.add_mul] at this; omega
       have hge : rows.length * k ≤ i * k + j := by
        have : rows.length * k ≤ i * k := Nat.mul_le_mul_right _ (by omega)
        omega
       simp only [M']
       rw [if_pos ⟨trivial, by omega, by omega⟩, Nat.add_assoc, hq5 _ (by rw [htot]; exact hidx), List.flatten_append, List.getElem?_append_right (by rw [hflat]; exact hge), hflat]
       have e1 : i * k + j - rows.length * k = (i - rows.length) * k + j := by
        have : i * k = (i - rows.length) * k + rows.length * k := by rw [← Nat.add_mul]; congr 1; omega
        omega
       rw [e1, valsOf_cell hin hjk, hu1]
       rfl
     have := hIs.rel
     rw [hv', htot, ← List.length_append]; exact this
    refine ⟨v', w', { g with M := M', val := upd g.val s v' }, by rw [hxa, hya]; exact hrun, ?_⟩
    rw [← h]
    refine Sim.put_ ?_ hd (by show v' = upd g.val s v' s; rw [upd_same])
    refine { ovp := hS.ovp, inv := hS.inv, below := ?_, base_le := Nat.le_trans hS.base_le hsize.1, defers := hS.defers, size := hS.size, mem := hmem, keepM := fun b o u hu => hmono b o u (hS.keepM b o u hu), old := ?_, slot := ?_, box := ?_, boxes := hS.boxes, row := ?_, rows := ?_, boxrow := ?_, hp := ?_, own := fun s2 x2 h2 => (hS.own s2 x2 h2).mono hmono, fph := hS.fph, owd := hS.owd, gow := hS.gow }
    ·refine hS.below.trans ⟨hsize.2.1, hsize.2.2.1, hsize.2.2.2, hsize.1, fun n hn _ => ?_⟩
     exact hkeep n (Nat.lt_of_lt_of_le hn hS.base_le) (by omega)
    ·intro b' o' u hu hb' hF
     have hu : M' b' o' = some u := hu
     rw [hMo _ _ (by omega)] at hu
     exact hS.old b' o' u hu hb' hF
    ·intro t'
     have := hS.slot t'
     show RelC _ _ (st.φ t')
     cases hcc : st.φ t' with
     | v z => rw [hcc] at this; exact Rel.mono this hmono
     | nil => rw [hcc] at this; exact this
     | box s2 o2 => rw [hcc] at this; exact this
     | adr s2 p2 q2 g2 => rw [hcc] at this; exact this
     | ref s2 p2 g2 => rw [hcc] at this; exact this
     | row s2 =>
      rw [hcc] at this
      have hne : s2 ≠ s := fun e2 => hf.nrow t' (by rw [hcc, e2])
      simp only [RelC] at this ⊢
      rw [upd_ne _ _ hne]; exact this
    ·intro s2 l2 h2
     obtain ⟨q1, q2, cs, ty2, q5, q6⟩ := hS.box s2 l2 h2
     have hlt : g.loc s2 < w.heap.size := (Array.getElem?_eq_some_iff.1 q5).1
     have hne : g.loc s2 ≠ q := fun e2 => hvbox s2 l2 h2 (by rw [e2]; exact hnew q hvq (by omega))
     refine ⟨q1, fun o' => ?_, cs, ty2, by rw [hkeep _ hlt hne]; exact q5, q6.mono hmono⟩
     show M' (g.loc s2) o' = none
     rw [hMo _ _ hne]; exact q2 o'
    ·intro s2 e2 rows2 h2
     by_cases e2' : s2 = s
     ·subst e2'
      simp only [upd_same, oE_, Prod.mk.injEq] at h2 ⊢
      obtain ⟨rfl, rfl⟩ := h2
      refine ⟨hrel, k, _, hsz, hown', by rw [htot, List.length_append], fun r hr => (List.mem_append.1 hr).elim (hrk r) (hyk r), fun q' hq' => ?_⟩
      rw [hvq] at hq'
      simp only [oE_] at hq'
      subst hq'
      exact ⟨hq1, hq2, fun hc o' u hu => by rw [List.length_append] at hc ⊢; exact hMq hc o' u hu⟩
     ·simp only [upd_ne _ _ e2'] at h2 ⊢
      obtain ⟨h3, h4⟩ := hvrow s2 _ h2
      obtain ⟨r1, k2, xs2, r2, r3, r4, r5, r6⟩ := hS.row s2 e2 rows2 h3
      have hnq : ∀ q', (g.val s2).ownBlock = some q' → q' ≠ q := fun q' hq' e3 => by
       subst e3
       exact h4 q' (hnew q' hvq (r6 q' hq').2.1) hq'
      refine ⟨r1.mono hmono, k2, xs2, r2, owns_block r3 (fun q' hq' => hkeep q' (r6 q' hq').2.1 (hnq q' hq')), r4, r5, fun q' hq' => ?_⟩
      obtain ⟨t1, t2, t3⟩ := r6 q' hq'
      exact ⟨t1, Nat.lt_of_lt_of_le t2 hsize.1, fun hc o' u hu => t3 hc o' u (by rw [← hMo _ _ (hnq q' hq')]; exact hu)⟩
    ·intro s1 s2 r1 r2 h1 h2 hne q' hq'
     by_cases e1 : s1 = s <;> by_cases e2 : s2 = s
     ·exact absurd (e1.trans e2.symm) hne
     ·subst e1
      simp only [upd_same, upd_ne _ _ e2] at h2 hq' ⊢
      rw [hvq] at hq'
      simp only [oE_] at hq'
      subst hq'
      intro h5
      obtain ⟨h3, h4⟩ := hvrow s2 _ h2
      obtain ⟨_, _, _, _, _, _, _, r6⟩ := hS.row s2 r2.1 r2.2 h3
      exact h4 q (hnew q hvq (r6 q h5).2.1) h5
     ·subst e2
      simp only [upd_same, upd_ne _ _ e1] at h1 hq' ⊢
      rw [hvq]
      simp only [ne_eq, oE_]
      intro h5
      subst h5
      obtain ⟨h3, h4⟩ := hvrow s1 _ h1
      obtain ⟨_, _, _, _, _, _, _, r6⟩ := hS.row s1 r1.1 r1.2 h3
      exact h4 q (hnew q hvq (r6 q hq').2.1) hq'
     ·simp only [upd_ne _ _ e1, upd_ne _ _ e2] at h1 h2 hq' ⊢
      exact hS.rows s1 s2 r1 r2 (hvrow s1 _ h1).1 (hvrow s2 _ h2).1 hne q' hq'
    ·intro s1 s2 l r h1 h2
     by_cases e2 : s2 = s
     ·subst e2
      simp only [upd_same]
      rw [hvq]
      simp only [ne_eq, oE_]
      intro h5
      obtain ⟨_, _, cs, ty2, q5, _⟩ := hS.box s1 l h1
      have hlt : g.loc s1 < w.heap.size := (Array.getElem?_eq_some_iff.1 q5).1
      exact hvbox s1 l h1 (by rw [← h5]; exact hnew q hvq (by omega))
     ·simp only [upd_ne _ _ e2] at h2 ⊢
      exact hS.boxrow s1 s2 l r h1 (hvrow s2 _ h2).1
    ·intro q' ob hq'
     have hq' : g.hp q' = some ob := hq'
     obtain ⟨p1, p2, p3, p4, p5⟩ := hS.hp q' ob hq'
     have hlt : q' < w.heap.size := (Array.getElem?_eq_some_iff.1 p2).1
     have hne : q' ≠ q := fun e => hvhp q' ob hq' (by rw [e]; exact hnew q hvq (by omega))
     refine ⟨p1, by rw [hkeep _ hlt hne]; exact p2, fun o' => ?_, p4, fun s2 r2 h2 => ?_⟩
     ·show M' q' o' = none
      rw [hMo _ _ hne]; exact p3 o'
     ·by_cases e2 : s2 = s
      ·subst e2
       simp only [upd_same]
       rw [hvq]
       simp only [ne_eq, oE_]
       exact fun e => hne e.symm
      ·simp only [upd_ne _ _ e2] at h2 ⊢
       exact p5 s2 r2 (hvrow s2 _ h2).1
  ·cases happ
 ·cases happ
end
end Go.Proofs.YtgkohnjpnnofhaaGreat.Den
