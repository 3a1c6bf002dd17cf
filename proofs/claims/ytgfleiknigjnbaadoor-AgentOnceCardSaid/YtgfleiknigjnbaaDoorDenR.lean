/- A reader of Go code in plain values: a row that has just been made, as a row of the caller's. -/
import Derived.Test.YtgfleiknigjnbaaDoorDen14
import Derived.Test.YtgfleiknigjnbaaDoorDenLib
namespace Go.Proofs.YtgfleiknigjnbaaDoor.Den
open Go.RowKit
set_option linter.unusedSimpArgs false
set_option linter.unusedVariables false
theorem row_fresh {P : Program} {M : Mem} {w w' : World} {e k b off : Nat} {v : Value} {rows : List (List V)} (hM : ∀ b o u, M b o = some u → w.cell? ⟨b, o, none⟩ = some u) (hsz : sizeP P e = some k) (hrk : ∀ r ∈ rows, r.length = k)
    (hcell : ∀ (i : Nat) (r : List V), rows[i]? = some r → ∀ (j : Nat) (z : V), r[j]? = some z → ∃ u, M b (off + i * k + j) = some u ∧ u.oneCell' = true ∧ Rel M u z) (hown : Owns w' w.heap.size e k v (valsOf M b off k rows.length)) (hB : Below w.heap.size w w') :
    ∃ M', Grow M w M' w' ∧ RowOk P w.heap.size M' w' e v rows := by
  have hvl : (valsOf M b off k rows.length).length = rows.length := by simp [valsOf]
  have hMw : ∀ b o u, M b o = some u → w'.cell? ⟨b, o, none⟩ = some u := fun b o u hu => by rw [World.cell?_of_block (w := w) (hB.block b (mem_lt hM hu))]; exact hM b o u hu
  rcases owns_inv hown with ⟨hv0, hx0⟩ | ⟨q, cap, hv', hq1, hq2, hq3, hq4, hq5⟩
  · have hr0 : rows = [] := List.eq_nil_of_length_eq_zero (by rw [← hvl, hx0]; rfl)
    subst hr0
    refine ⟨M, ⟨hB, fun _ _ _ h => h, hMw, fun _ _ _ h _ => h⟩, by rw [hv0]; exact rel_nil _, k, [], hsz, by rw [hv0]; exact OwnsO.nil_ _ _ _ _, rfl, by simp, by rw [hv0]; simp [Value.ownBlock]⟩
  · rw [hvl] at hv' hq3 hq5
    let M' : Mem := fun b' o' => if b' = q then (if o' < rows.length * k then w'.cell? ⟨q, o', none⟩ else none) else M b' o'
    have hne : ∀ b' o' u, M b' o' = some u → b' ≠ q := fun b' o' u hu e => by have := mem_lt hM hu; omega
    have hmono : ∀ b' o' u, M b' o' = some u → M' b' o' = some u := fun b' o' u hu => by simp only [M']; rw [if_neg (hne b' o' u hu)]; exact hu
    have hmem : ∀ b' o' u, M' b' o' = some u → w'.cell? ⟨b', o', none⟩ = some u := fun b' o' u hu => by
      simp only [M'] at hu
      split at hu
      · rename_i e
        subst e
        split at hu
        · exact hu
        · cases hu
      · exact hMw b' o' u hu
    have hrel : Rel M' v (.sl rows) := by
      have hIs : IsSl M' (some ⟨q, 0, none⟩) cap rows k q 0 := by
        refine ⟨hq3, hrk, fun _ => rfl, fun i r hr j z hz => ?_⟩
        have hlen := hrk r (List.mem_of_getElem? hr)
        have hjk : j < k := by rw [← hlen]; exact (List.getElem?_eq_some_iff.1 hz).1
        have hin : i < rows.length := (List.getElem?_eq_some_iff.1 hr).1
        obtain ⟨u, hu1, hu2, hu3⟩ := hcell _ r hr j z hz
        refine ⟨u, ?_, hu2, hu3.mono hmono⟩
        rw [Nat.zero_add]
        have hidx : i * k + j < rows.length * k := by
          have : (i + 1) * k ≤ rows.length * k := Nat.mul_le_mul_right _ hin
          rw [Nat.add_mul] at this; omega
        simp only [M', if_true]
        rw [if_pos hidx, hq5 _ hidx, valsOf_cell hin hjk, hu1]
        rfl
      have := hIs.rel
      rw [hv']; exact this
    refine ⟨M', ⟨hB, hmono, hmem, fun b' o' u hu hb => ?_⟩, hrel, k, _, hsz, hown.toO, hvl, hrk, fun q' hq' => ?_⟩
    · simp only [M'] at hu
      rw [if_neg (by omega)] at hu; exact hu
    · rw [hv'] at hq'
      simp only [Value.ownBlock, Option.some.injEq] at hq'
      subst hq'
      refine ⟨hq1, hq2, fun _ o u hu => ?_⟩
      rw [hv']
      show o < 0 + rows.length * k
      rw [Nat.zero_add]
      simp only [M', if_true] at hu
      split at hu
      · assumption
      · cases hu
/-- the cells of a slice's rows, as a walk wants them -/
theorem row_of_rel {P : Program} {M : Mem} {w : World} {k : Nat} {v : Value} {rows : List (List V)} (hM : ∀ b o u, M b o = some u → w.cell? ⟨b, o, none⟩ = some u) (hk0 : 0 < k) (h : Rel M v (.sl rows)) (hrk : ∀ r ∈ rows, r.length = k) :
    ∃ A c b off, v = .slice A rows.length c ∧ RowC w k A rows.length c (valsOf M b off k rows.length) ∧ (∀ cs ∈ valsOf M b off k rows.length, ∀ u ∈ cs, u.oneCell' = true) ∧ ∀ (i : Nat) (r : List V), rows[i]? = some r → ∀ (j : Nat) (z : V), r[j]? = some z → ∃ u, M b (off + i * k + j) = some u ∧ u.oneCell' = true ∧ Rel M u z := by
  obtain ⟨A, c, k', b, off, hya, hsl⟩ := rel_sl h
  have hycell : ∀ (i : Nat) (r : List V), rows[i]? = some r → ∀ (j : Nat) (z : V), r[j]? = some z → ∃ u, M b (off + i * k + j) = some u ∧ u.oneCell' = true ∧ Rel M u z := fun i r hr j z hz => by
    have := hsl.hr i r hr j z hz
    have hk' : k' = k := by rw [← hsl.hk r (List.mem_of_getElem? hr), hrk r (List.mem_of_getElem? hr)]
    rwa [hk'] at this
  refine ⟨A, c, b, off, hya, ?_, ?_, hycell⟩
  · refine ⟨by simp [valsOf], hsl.hc, fun cs hcs => ?_, fun hp => ?_⟩
    · obtain ⟨i', hi'⟩ := List.getElem?_of_mem hcs
      obtain ⟨_, rfl⟩ := valsOf_at hi'
      simp
    · have hA := hsl.hA hp
      have hcell : ∀ i j, i < rows.length → j < k → ∃ u, M b (off + i * k + j) = some u := fun i j hi hj => by
        have hri := List.getElem?_eq_getElem hi
        have hlen := hrk _ (List.getElem_mem hi)
        obtain ⟨u, hu, _⟩ := hycell i _ hri j _ (List.getElem?_eq_getElem (by rw [hlen]; exact hj))
        exact ⟨u, hu⟩
      obtain ⟨u0, hu0⟩ := hcell 0 0 hp hk0
      refine ⟨b, off, hA, mem_lt hM hu0, fun i cs hi j u hu => ?_⟩
      obtain ⟨hin, rfl⟩ := valsOf_at hi
      rw [List.getElem?_map] at hu
      cases hr : (List.range k)[j]? with
      | none => rw [hr] at hu; cases hu
      | some q =>
        obtain ⟨h1, h2⟩ := List.getElem?_eq_some_iff.1 hr
        simp at h1 h2
        subst h2
        rw [hr] at hu
        simp only [Option.map_some, Option.some.injEq] at hu
        obtain ⟨u1, hu1⟩ := hcell i j hin h1
        rw [hu1] at hu
        simp only [Option.getD_some] at hu
        subst hu
        exact hM _ _ _ hu1
  · intro cs hcs u hu
    obtain ⟨i, hi⟩ := List.getElem?_of_mem hcs
    obtain ⟨hin, rfl⟩ := valsOf_at hi
    obtain ⟨j, hj, rfl⟩ := List.mem_map.1 hu
    have hri := List.getElem?_eq_getElem hin
    have hlen := hrk _ (List.getElem_mem hin)
    obtain ⟨u, hu1, hu2, _⟩ := hycell i _ hri j _ (List.getElem?_eq_getElem (by rw [hlen]; exact List.mem_range.1 hj))
    rw [hu1]; exact hu2
/-- slices.Clone -/
def semClone (k : Nat) (xs : List V) : Option V := match xs with
  | [.sl rows] => if rows.all (fun r => decide (r.length = k)) = true ∧ rows.length ≤ 4294967296 then some (.sl rows) else none
  | _ => none
theorem clone_row {P : Program} {Dw : World → Prop} {f e k : Nat} (hfn : ∃ fn, P.funcs[f]? = some fn ∧ (fn.name == "runtime.NumGoroutine") = false ∧ fn.body.isNone = false) (hsz : sizeP P e = some k) (hk0 : 0 < k)
    (h : ∀ (A : Option Addr) (c : Nat) (ys : List (List Value)) (w : World), RowC w k A ys.length c ys → (∀ cs ∈ ys, ∀ u ∈ cs, u.oneCell' = true) → ys.length ≤ 4294967296 → Calls P f #[.slice A ys.length c] w fun en w' => ∃ v, en = .returned v ∧ Owns w' w.heap.size e k v ys ∧ Below w.heap.size w w') : RSemOk P Dw f e (semClone k) := fun xs y hy => by
  unfold semClone at hy
  split at hy
  · rename_i rows
    split at hy
    · rename_i hc
      obtain rfl := Option.some.inj hy
      have hrk : ∀ r ∈ rows, r.length = k := fun r hr => by simpa using List.all_eq_true.1 hc.1 r hr
      refine ⟨hfn, fun w M vs hd hM hr => ?_⟩
      have hx := hr.2 0 _ rfl
      obtain ⟨A, c, b, off, hv, hrow, hone, hcell⟩ := row_of_rel (P := P) hM hk0 hx hrk
      have hvl : (valsOf M b off k rows.length).length = rows.length := by simp [valsOf]
      have e2 : vs = #[.slice A (valsOf M b off k rows.length).length c] := by
        apply Array.toList_inj.1
        have h1 := hr.1
        rw [hvl, ← hv]
        match hl : vs.toList, h1 with
        | [z], _ => simp
      have := h A c (valsOf M b off k rows.length) w (by rw [hvl]; exact hrow) hone (by rw [hvl]; exact hc.2)
      rw [e2]
      refine this.mono fun en w' ⟨v, he, hown, hB⟩ => ?_
      obtain ⟨M', h3, h4⟩ := row_fresh (P := P) hM hsz hrk hcell hown hB
      exact ⟨v, M', he, h3, h4⟩
    · cases hy
  · cases hy
theorem clone_sl {k : Nat} : ∀ xs y, semClone k xs = some y → ∃ rows, y = .sl rows := fun xs y hy => by
  unfold semClone at hy
  split at hy
  · split at hy
    · exact ⟨_, (Option.some.inj hy).symm⟩
    · cases hy
  · cases hy
/-- slices.Clone, as a call whose result is the caller's own -/
def semCloneM (k : Nat) (xs : List V) : Option V := match xs with
  | [.sl rows] => if rows.all (fun r => decide (r.length = k)) = true ∧ rows.length ≤ 4294967296 then some (.tup [.osl k rows, .any]) else none
  | _ => none
theorem clone_m {P : Program} {Dw : World → Prop} {f e k : Nat} (hfn : ∃ fn, P.funcs[f]? = some fn ∧ (fn.name == "runtime.NumGoroutine") = false ∧ fn.body.isNone = false) (hk0 : 0 < k)
    (h : ∀ (A : Option Addr) (c : Nat) (ys : List (List Value)) (w : World), RowC w k A ys.length c ys → (∀ cs ∈ ys, ∀ u ∈ cs, u.oneCell' = true) → ys.length ≤ 4294967296 → Calls P f #[.slice A ys.length c] w fun en w' => ∃ v, en = .returned v ∧ Owns w' w.heap.size e k v ys ∧ Below w.heap.size w w') : MSemOk P Dw f (semCloneM k) := fun xs z hz => by
  unfold semCloneM at hz
  split at hz
  · rename_i rows
    split at hz
    · rename_i hc
      obtain rfl := Option.some.inj hz
      have hrk : ∀ r ∈ rows, r.length = k := fun r hr => by simpa using List.all_eq_true.1 hc.1 r hr
      refine ⟨hfn, fun w M hp F vs hd hM hhp hF hdis hsz hr => ?_⟩
      have hx : Rel M (vs.getD 0 undef) (.sl rows) := by
        have h0 := hr 0 _ rfl
        generalize vs.getD 0 undef = v0 at h0 ⊢
        cases h0 with
        | pure _ _ _ h => exact h
      obtain ⟨A, c, b, off, hv, hrow, hone, hcell⟩ := row_of_rel (P := P) hM hk0 hx hrk
      have hvl : (valsOf M b off k rows.length).length = rows.length := by simp [valsOf]
      have e2 : vs = #[.slice A (valsOf M b off k rows.length).length c] := by
        apply Array.ext (by simpa using hsz)
        intro i h1 h2
        have : i = 0 := by simp at h2; exact h2
        subst this
        rw [hvl]
        simpa [Array.getD, h1] using hv
      have hcall := h A c (valsOf M b off k rows.length) w (by rw [hvl]; exact hrow) hone (by rw [hvl]; exact hc.2)
      rw [e2]
      refine hcall.mono fun en w' ⟨v, he, hown, hB⟩ => ?_
      have hMw : ∀ b o u, M b o = some u → w'.cell? ⟨b, o, none⟩ = some u := fun b o u hu => by rw [World.cell?_of_block (w := w) (hB.block b (mem_lt hM hu))]; exact hM b o u hu
      obtain ⟨⟨hl, hdd⟩, hkk⟩ := hown
      rcases hdd with ⟨rfl, h0⟩ | ⟨q, cap, cur, rfl, hg, hh, hnc, hm, hs, ht⟩
      · have hr0 : rows = [] := List.eq_nil_of_length_eq_zero (by rw [← hvl]; exact h0)
        subst hr0
        exact ⟨_, M, fun _ => none, fun _ _ => False, he, hB.toF, fun _ _ _ h => h, hMw, fun _ _ _ h _ _ => h, fun _ _ h => (by cases h), fun _ _ h => h.elim, fun _ _ _ h => h.elim, .oslNil _ _, fun i hi => by
          have : i = 0 := by simpa using hi
          subst this
          exact .pure _ _ _ (.any _)⟩
      · rw [hvl] at hnc ht he
        rw [hvl]
        refine ⟨_, M, fun q' => if q' = q then w'.heap[q]? else none, fun i q' => i = 0 ∧ q' = q, he, hB.toF, fun _ _ _ h => h, hMw, fun _ _ _ h _ _ => h, fun q' ob hq' => ?_, fun i q' hq' => ?_, fun i i' q' h1 h2 => h1.1.trans h2.1.symm, ?_, fun i hi => ?_⟩
        · replace hq' : (if q' = q then w'.heap[q]? else none) = some ob := hq'
          split at hq'
          · rename_i e1
            subst e1
            refine ⟨.inl hg, hq', fun o => ?_⟩
            cases hmo : M q' o with
            | none => rfl
            | some u => have := mem_lt hM hmo; omega
          · cases hq'
        · obtain ⟨_, rfl⟩ := hq'
          exact ⟨_, (if_pos rfl).trans hh⟩
        · have hcur : ∀ i r, rows[i]? = some r → ∀ j x, r[j]? = some x → ∃ u, cur.getD (i * k + j) undef = u ∧ u.oneCell' = true ∧ Rel M u x := fun i r hi j x hj => by
            obtain ⟨u, hu1, hu2, hu3⟩ := hcell i r hi j x hj
            have hlen := hrk r (List.mem_of_getElem? hi)
            have hjk : j < k := by rw [← hlen]; exact (List.getElem?_eq_some_iff.1 hj).1
            have hin : i < rows.length := (List.getElem?_eq_some_iff.1 hi).1
            have hvf : (valsOf M b off k rows.length).flatten[i * k + j]? = some u := by
              rw [valsOf_cell hin hjk, hu1]; rfl
            rw [← ht] at hvf
            have hlt : i * k + j < rows.length * k := by
              have : (i + 1) * k ≤ rows.length * k := Nat.mul_le_mul_right _ hin
              rw [Nat.add_mul] at this; omega
            rw [List.getElem?_take, if_pos hlt, Array.getElem?_toList] at hvf
            refine ⟨u, ?_, hu2, hu3⟩
            have hcs : i * k + j < cur.size := (Array.getElem?_eq_some_iff.1 hvf).1
            have := (Array.getElem?_eq_some_iff.1 hvf).2
            simp only [Array.getD, hcs, dite_true, Array.getInternal_eq_getElem]
            exact this
          refine .osl _ q cap k cur e (0, 0) (noFz0 _) rows (fun _ _ => False) ⟨rfl, rfl⟩ ((if_pos rfl).trans hh) hs hnc hm hrk (fun i r hi j hj => ?_) (fun i r hi j x hj => ?_) (fun _ _ h => h.elim) (fun _ _ _ h => h.elim)
          · have hlen := hrk r (List.mem_of_getElem? hi)
            obtain ⟨u, h1, h2, _⟩ := hcur i r hi j _ (List.getElem?_eq_getElem (by rw [hlen]; exact hj))
            rw [h1]; exact h2
          · obtain ⟨u, h1, _, h3⟩ := hcur i r hi j x hj
            rw [h1]
            exact .pure _ _ _ h3
        · have : i = 0 := by simpa using hi
          subst this
          exact .pure _ _ _ (.any _)
    · cases hz
  · cases hz
end Go.Proofs.YtgfleiknigjnbaaDoor.Den
