/- A reader of Go code in plain values: a row that has just been made, as a row of the caller's. -/
import Derived.Test.YtgkohnjpnnofhaaGreatDen14
import Derived.Test.YtgkohnjpnnofhaaGreatDenLib
namespace Go.Proofs.YtgkohnjpnnofhaaGreat.Den
set_option linter.unusedSimpArgs false
set_option linter.unusedVariables false
open Go.RowKit
theorem row_fresh {P : Program} {M : Mem} {w w' : World} {e k b off : Nat} {v : Value} {rows : List (List V)} (hM : ∀ b o u, M b o = some u → w.cell? ⟨b, o, none⟩ = some u) (hsz : sizeP P e = some k) (hrk : ∀ r ∈ rows, r.length = k)
  (hcell : ∀ (i : Nat) (r : List V), rows[i]? = some r → ∀ (j : Nat) (z : V), r[j]? = some z → ∃ u, M b (off + i * k + j) = some u ∧ u.oneCell' = true ∧ Rel M u z) (hown : Owns w' w.heap.size e k v (valsOf M b off k rows.length)) (hB : Below w.heap.size w w') :
  ∃ M', Grow M w M' w' ∧ RowOk P w.heap.size M' w' e v rows := by
 have hvl : (valsOf M b off k rows.length).length = rows.length := by simp [valsOf]
 have hMw : ∀ b o u, M b o = some u → w'.cell? ⟨b, o, none⟩ = some u := fun b o u hu => by rw [World.cell?_of_block (w := w) (hB.block b (mem_lt hM hu))]; exact hM b o u hu
 rcases owns_inv hown with ⟨hv0, hx0⟩ | ⟨q, cap, hv', hq1, hq2, hq3, hq4, hq5⟩
 ·have hr0 : rows = [] := List.eq_nil_of_length_eq_zero (by rw [← hvl, hx0]; rfl)
  subst hr0
  refine ⟨M, ⟨hB, fun _ _ _ h => h, hMw, fun _ _ _ h _ => h⟩, by rw [hv0]; exact rel_nil _, k, [], hsz, by rw [hv0]; exact OwnsO.nil_ _ _ _ _, rfl, by simp, by rw [hv0]; simp [Value.ownBlock]⟩
 ·rw [hvl] at hv' hq3 hq5
  let M' : Mem := fun b' o' => if b' = q then (if o' < rows.length * k then w'.cell? ⟨q, o', none⟩ else none) else M b' o'
  have hne : ∀ b' o' u, M b' o' = some u → b' ≠ q := fun b' o' u hu e => by have := mem_lt hM hu; omega
  have hmono : ∀ b' o' u, M b' o' = some u → M' b' o' = some u := fun b' o' u hu => by simp only [M']; rw [if_neg (hne b' o' u hu)]; exact hu
  have hmem : ∀ b' o' u, M' b' o' = some u → w'.cell? ⟨b', o', none⟩ = some u := fun b' o' u hu => by
   simp only [M'] at hu
   split at hu
   ·rename_i e
    subst e
    split at hu
    ·exact hu
    ·cases hu
   ·exact hMw b' o' u hu
  have hrel : Rel M' v (.sl rows) := by
   have hIs : IsSl M' (some ⟨q, 0, none⟩) cap rows k q 0 := by
    refine ⟨hq3, hrk, fun _ => rfl, fun i r hr j z hz => ?_⟩
    have hlen := hrk r (List.mem_of_getElem? hr)
    have hjk : j < k := by rw [← hlen]; exact (gS_ hz).1
    have hin : i < rows.length := (gS_ hr).1
    obtain ⟨u, hu1, hu2, hu3⟩ := hcell _ r hr j z hz
    refine ⟨u, ?_, hu2, hu3.mono hmono⟩
    rw [Nat.zero_add]
    have hidx : i * k + j < rows.length * k := by
     have : (i + 1) * k ≤ rows.length * k := Nat.mul_le_mul_right _ hin
     rw [Nat.add_mul] at this; omega
    simp only [M', if_true]
    rw [if_pos hidx, hq5 _ hidx, valsOf_cell hin hjk, hu1]
    rfl
   have := hIs.rel
   rw [hv']; exact this
  refine ⟨M', ⟨hB, hmono, hmem, fun b' o' u hu hb => ?_⟩, hrel, k, _, hsz, hown.toO, hvl, hrk, fun q' hq' => ?_⟩
  ·simp only [M'] at hu
   rw [if_neg (by omega)] at hu; exact hu
  ·rw [hv'] at hq'
   simp only [Value.ownBlock, oE_] at hq'
   subst hq'
   refine ⟨hq1, hq2, fun _ o u hu => ?_⟩
   rw [hv']
   show o < 0 + rows.length * k
   rw [Nat.zero_add]
   simp only [M', if_true] at hu
   split at hu
   ·assumption
   ·cases hu
theorem row_of_rel {P : Program} {M : Mem} {w : World} {k : Nat} {v : Value} {rows : List (List V)} (hM : ∀ b o u, M b o = some u → w.cell? ⟨b, o, none⟩ = some u) (hk0 : 0 < k) (h : Rel M v (.sl rows)) (hrk : ∀ r ∈ rows, r.length = k) :
  ∃ A c b off, v = .slice A rows.length c ∧ RowC w k A rows.length c (valsOf M b off k rows.length) ∧ (∀ cs ∈ valsOf M b off k rows.length, ∀ u ∈ cs, u.oneCell' = true) ∧ ∀ (i : Nat) (r : List V), rows[i]? = some r → ∀ (j : Nat) (z : V), r[j]? = some z → ∃ u, M b (off + i * k + j) = some u ∧ u.oneCell' = true ∧ Rel M u z := by
 obtain ⟨A, c, k', b, off, hya, hsl⟩ := rel_sl h
 have hycell : ∀ (i : Nat) (r : List V), rows[i]? = some r → ∀ (j : Nat) (z : V), r[j]? = some z → ∃ u, M b (off + i * k + j) = some u ∧ u.oneCell' = true ∧ Rel M u z := fun i r hr j z hz => by
  have := hsl.hr i r hr j z hz
  have hk' : k' = k := by rw [← hsl.hk r (List.mem_of_getElem? hr), hrk r (List.mem_of_getElem? hr)]
  rwa [hk'] at this
 refine ⟨A, c, b, off, hya, ?_, ?_, hycell⟩
 ·refine ⟨by simp [valsOf], hsl.hc, fun cs hcs => ?_, fun hp => ?_⟩
  ·obtain ⟨i', hi'⟩ := List.getElem?_of_mem hcs
   obtain ⟨_, rfl⟩ := valsOf_at hi'
   simp
  ·have hA := hsl.hA hp
   have hcell : ∀ i j, i < rows.length → j < k → ∃ u, M b (off + i * k + j) = some u := fun i j hi hj => by
    have hri := gE_ hi
    have hlen := hrk _ (List.getElem_mem hi)
    obtain ⟨u, hu, _⟩ := hycell i _ hri j _ (gE_ (by rw [hlen]; exact hj))
    exact ⟨u, hu⟩
   obtain ⟨u0, hu0⟩ := hcell 0 0 hp hk0
   refine ⟨b, off, hA, mem_lt hM hu0, fun i cs hi j u hu => ?_⟩
   obtain ⟨hin, rfl⟩ := valsOf_at hi
   rw [List.getElem?_map] at hu
   cases hr : (List.range k)[j]? with
   | none => rw [hr] at hu; cases hu
   | some q =>
    obtain ⟨h1, h2⟩ := gS_ hr
    simp at h1 h2
    subst h2
    rw [hr] at hu
    simp only [Option.map_some, oE_] at hu
    obtain ⟨u1, hu1⟩ := hcell i j hin h1
    rw [hu1] at hu
    simp only [Option.getD_some] at hu
    subst hu
    exact hM _ _ _ hu1
 ·intro cs hcs u hu
  obtain ⟨i, hi⟩ := List.getElem?_of_mem hcs
  obtain ⟨hin, rfl⟩ := valsOf_at hi
  obtain ⟨j, hj, rfl⟩ := List.mem_map.1 hu
  have hri := gE_ hin
  have hlen := hrk _ (List.getElem_mem hin)
  obtain ⟨u, hu1, hu2, _⟩ := hycell i _ hri j _ (gE_ (by rw [hlen]; exact List.mem_range.1 hj))
  rw [hu1]; exact hu2
def semClone (k : Nat) (xs : List V) : Option V := match xs with
 | [.sl rows] => if rows.all (fun r => decide (r.length = k)) = true ∧ rows.length ≤ 4294967296 then some (.sl rows) else none
 | _ => none
theorem clone_row {P : Program} {Dw : World → Prop} {f e k : Nat} (hfn : ∃ fn, P.funcs[f]? = some fn ∧ (fn.name == "runtime.NumGoroutine") = false ∧ fn.body.isNone = false) (hsz : sizeP P e = some k) (hk0 : 0 < k)
  (h : ∀ (A : Option Addr) (c : Nat) (ys : List (List Value)) (w : World), RowC w k A ys.length c ys → (∀ cs ∈ ys, ∀ u ∈ cs, u.oneCell' = true) → ys.length ≤ 4294967296 → Calls P f #[.slice A ys.length c] w fun en w' => ∃ v, en = .returned v ∧ Owns w' w.heap.size e k v ys ∧ Below w.heap.size w w') : RSemOk P Dw f e (semClone k) := fun xs y hy => by
 unfold semClone at hy
 split at hy
 ·rename_i rows
  split at hy
  ·rename_i hc
   obtain rfl := oJ_ hy
   have hrk : ∀ r ∈ rows, r.length = k := fun r hr => by simpa using List.all_eq_true.1 hc.1 r hr
   refine ⟨hfn, fun w M vs hd hM hr => ?_⟩
   have hx := hr.2 0 _ rfl
   obtain ⟨A, c, b, off, hv, hrow, hone, hcell⟩ := row_of_rel (P := P) hM hk0 hx hrk
   have hvl : (valsOf M b off k rows.length).length = rows.length := by simp [valsOf]
   have e2 : vs = #[.slice A (valsOf M b off k rows.length).length c] := by
    apply Array.toList_inj.1
    have h1 := hr.1
    rw [hvl, ← hv]
    match hl : vs.toList, h1 with
    | [z], _ => simp
   have := h A c (valsOf M b off k rows.length) w (by rw [hvl]; exact hrow) hone (by rw [hvl]; exact hc.2)
   rw [e2]
   refine this.mono fun en w' ⟨v, he, hown, hB⟩ => ?_
   obtain ⟨M', h3, h4⟩ := row_fresh (P := P) hM hsz hrk hcell hown hB
   exact ⟨v, M', he, h3, h4⟩
  ·cases hy
 ·cases hy
theorem clone_sl {k : Nat} : ∀ xs y, semClone k xs = some y → ∃ rows, y = .sl rows := fun xs y hy => by
 unfold semClone at hy
 split at hy
 ·split at hy
  ·exact ⟨_, (oJ_ hy).symm⟩
  ·cases hy
 ·cases hy
def semCloneM (k : Nat) (xs : List V) : Option V := match xs with
 | [.sl rows] => if rows.all (fun r => decide (r.length = k)) = true ∧ rows.length ≤ 4294967296 then some (.tup [.osl k rows, .any]) else none
 | _ => none
end Go.Proofs.YtgkohnjpnnofhaaGreat.Den
