/- A reader of Go code in plain values: slices of int that are sorted, or cut, in place. -/
import Derived.Test.YtgkohnjpnnofhaaGreatDen14
import Derived.Test.YtgkohnjpnnofhaaGreatDenLib
import Derived.Shelf.Sort.Plain
import Derived.Shelf.Slices.CompactI
import Derived.Shelf.Slices.In.SortNone
namespace Go.Proofs.YtgkohnjpnnofhaaGreat.Den
set_option linter.unusedSimpArgs false
set_option linter.unusedVariables false
open Go.RowKit
def cInt (z : Int) : List V := [.lit (.int .i64 z)]
def intsR : List (List V) → Option (List Int)
 | [] => some []
 | [.lit (.int .i64 z)] :: l => (intsR l).map (z :: ·)
 | _ => none
theorem intsR_map : ∀ zs : List Int, intsR (zs.map cInt) = some zs
 | [] => rfl
 | z :: l => by simp [intsR, cInt]; exact intsR_map l
theorem intsR_eq : ∀ {l : List (List V)} {zs : List Int}, intsR l = some zs → l = zs.map cInt
 | [], zs, h => by simp [intsR] at h; subst h; rfl
 | r :: l, zs, h => by
  unfold intsR at h
  split at h
  ·cases ‹_ :: _ = []›
  ·rename_i z l' e
   obtain ⟨rfl, rfl⟩ := List.cons.inj e
   obtain ⟨ys, h1, rfl⟩ := oM_ h
   rw [intsR_eq h1]; rfl
  ·cases h
theorem relT_int {hp : Hp} {M : Mem} {F : Nat → Prop} {u : Value} {z : Int} (h : RelT hp M F u (.lit (.int .i64 z))) : u = .int .i64 z := by
 cases h with
 | pure _ _ _ h => cases h; rfl
theorem osl_ints {hp : Hp} {M : Mem} {F : Nat → Prop} {v : Value} {zs : List Int} (h : RelT hp M F v (.osl 1 (zs.map cInt))) : (v = .slice none 0 0 ∧ zs = []) ∨
  ∃ b c cs ty fz, v = .slice (some ⟨b, 0, none⟩) zs.length c ∧ F b ∧ hp b = some (.cells cs ty fz) ∧ NoFz fz cs.size ∧ cs.size = c ∧ zs.length ≤ c ∧ c ≤ maxLen ∧ ∀ j, j < zs.length → cs[j]? = some (.int .i64 (zs.getD j 0)) := by
 generalize e : V.osl 1 (zs.map cInt) = t at h
 cases h with
 | pure _ _ _ h => subst e; cases h
 | agg => cases e
 | tup => cases e
 | obj => cases e
 | mp => cases e
 | oslNil _ _ =>
  injection e with _ e
  exact .inl ⟨rfl, List.map_eq_nil_iff.1 e⟩
 | osl _ b c k cs ty fz hz rows Fi hb hh hs hn hm hk h1 hr sub dis =>
  injection e with e0 e
  subst e0; subst e
  refine .inr ⟨b, c, cs, ty, fz, by rw [List.length_map], hb, hh, hz, by omega, by simpa using hn, hm, fun j hj => ?_⟩
  have hin : (zs.map cInt)[j]? = some (cInt zs[j]) := by rw [List.getElem?_map, gE_ hj]; rfl
  have := relT_int (hr j _ hin 0 _ rfl)
  have hlt : j < cs.size := by simp at hn; omega
  rw [cells_at hlt]
  simp only [Nat.mul_one, Nat.add_zero] at this
  rw [this]
  simp [List.getD, gE_ hj]
theorem getI {zs : List Int} {j : Nat} (h : j < zs.length) : zs.toArray[j]! = zs.getD j 0 := by
 simp [List.getD, h]
theorem holds_ints {w : World} {b : Nat} {cs : Array Value} {ty : TypeId} {fz : Nat × Nat} {zs : List Int} (hw : w.heap[b]? = some (.cells cs ty fz)) (hz : NoFz fz cs.size) (hl : zs.length ≤ cs.size) (h : ∀ j, j < zs.length → cs[j]? = some (.int .i64 (zs.getD j 0))) :
  Sort.Holds (Value.int .i64) w b 0 zs.toArray := fun j hj => by
 have hj : j < zs.length := by simpa using hj
 rw [Nat.zero_add, getI hj]
 refine ⟨?_, ?_⟩
 ·simp only [World.cell?, hw]; exact h j hj
 ·simp only [World.frozen?, hw]
  have := hz j (by omega)
  simpa using this
theorem put_block {w : World} {b n : Nat} {os : Array Obj} {cs : Array Value} {ty : TypeId} {fz : Nat × Nat} {d : Array Int} (hw : w.heap[b]? = some (.cells cs ty fz)) :
  (Sort.grow (Sort.putRow (Value.int .i64) (Sort.ahead w n) b 0 d) os).heap[b]? = some (.cells (Sort.putCells (Value.int .i64) 0 d cs) ty fz) ∧
  ∀ F0 : Nat → Prop, F0 b → BelowF F0 w.heap.size w (Sort.grow (Sort.putRow (Value.int .i64) (Sort.ahead w n) b 0 d) os) := by
 have hb : b < w.heap.size := (Array.getElem?_eq_some_iff.1 hw).1
 refine ⟨?_, fun F0 hF => ⟨rfl, rfl, rfl, ?_, fun k hk hn => ?_⟩⟩
 ·show ((Sort.mapBlock (Sort.ahead w n) b _).heap ++ os)[b]? = _
  rw [Array.getElem?_append_left (by simpa [Sort.mapBlock] using hb)]
  simp only [Sort.mapBlock, Sort.heap_ahead, Array.getElem?_modify, if_true, hw]
  rfl
 ·simp
 ·have hne : k ≠ b := fun e => hn (e ▸ hF)
  show ((Sort.mapBlock (Sort.ahead w n) b _).heap ++ os)[k]? = _
  rw [Array.getElem?_append_left (by simpa [Sort.mapBlock] using hk)]
  simp only [Sort.mapBlock, Sort.heap_ahead, Array.getElem?_modify]
  rw [if_neg (Ne.symm hne)]
theorem put_cells {d : List Int} {cs : Array Value} {j : Nat} (hj : j < d.length) (hl : d.length ≤ cs.size) : (Sort.putCells (Value.int .i64) 0 d.toArray cs).getD j undef = .int .i64 (d.getD j 0) := by
 have h0 : j < cs.size := by omega
 have h1 : j < (Sort.putCells (Value.int .i64) 0 d.toArray cs).size := by simpa [Sort.putCells] using h0
 simp only [Array.getD, h1, dite_true, Array.getInternal_eq_getElem]
 simp [Sort.putCells, hj]
theorem put_rel {hp : Hp} {M : Mem} {F : Nat → Prop} {b c : Nat} {cs : Array Value} {ty : TypeId} {fz : Nat × Nat} {d ys : List Int} (hF : F b) (hh : hp b = some (.cells (Sort.putCells (Value.int .i64) 0 d.toArray cs) ty fz)) (hz : NoFz fz cs.size) (hs : cs.size = c) (hl : d.length ≤ c) (hm : c ≤ maxLen) (hp' : ys <+: d) :
  RelT hp M F (.slice (some ⟨b, 0, none⟩) ys.length c) (.osl 1 (ys.map cInt)) := by
 have hlen : ys.length ≤ d.length := hp'.length_le
 have hsz : (Sort.putCells (Value.int .i64) 0 d.toArray cs).size = cs.size := by simp [Sort.putCells]
 have hat : ∀ (j : Nat) (r : List V), (ys.map cInt)[j]? = some r → j < ys.length ∧ r = cInt (d.getD j 0) := fun j r hr => by
  rw [List.getElem?_map] at hr
  cases hy : ys[j]? with
  | none => rw [hy] at hr; cases hr
  | some z =>
   rw [hy] at hr
   simp only [Option.map_some, oE_] at hr
   have hj := (gS_ hy).1
   refine ⟨hj, ?_⟩
   obtain ⟨t, rfl⟩ := hp'
   rw [← hr, List.getD, List.getElem?_append_left hj, hy]; rfl
 have e : (.slice (some ⟨b, 0, none⟩) ys.length c : Value) = .slice (some ⟨b, 0, none⟩) ((ys.map cInt).length : Nat) c := by rw [List.length_map]
 rw [e]
 refine .osl F b c 1 _ ty fz (hsz ▸ hz) (ys.map cInt) (fun _ _ => False) hF hh (by rw [hsz]; omega) (by simpa using Nat.le_trans hlen hl) hm (fun r hr => ?_) (fun i r hr j hj => ?_) (fun i r hr j x hj => ?_) (fun _ _ h => h.elim) (fun _ _ _ h => h.elim)
 ·obtain ⟨z, _, rfl⟩ := List.mem_map.1 hr; rfl
 ·obtain ⟨hi, rfl⟩ := hat i r hr
  have : j = 0 := by omega
  subst this
  rw [show i * 1 + 0 = i by omega, put_cells (by omega) (by omega)]; rfl
 ·obtain ⟨hi, rfl⟩ := hat i r hr
  have hj0 := (gS_ hj).1
  have : j = 0 := by simpa [cInt] using hj0
  subst this
  simp only [cInt, List.getElem?_cons_zero, oE_] at hj
  subst hj
  rw [show i * 1 + 0 = i by omega, put_cells (by omega) (by omega)]
  exact .pure _ _ _ (.lit _ rfl)
def semSort (xs : List V) : Option V := match xs with
 | [.osl 1 rows] => (intsR rows).bind fun zs => if zs.length ≤ 4294967296 then some (.tup [.tup [], .osl 1 ((zs.mergeSort fun x y => decide (x ≤ y)).map cInt)]) else none
 | _ => none
def semCompact (xs : List V) : Option V := match xs with
 | [.osl 1 rows] => (intsR rows).bind fun zs => if zs.length ≤ 4294967296 then some (.tup [.sl ((Lib.compact zs).map cInt), .any]) else none
 | _ => none
theorem compact_len (zs : List Int) : (Lib.compact zs).length ≤ zs.length := by
 unfold Lib.compact Lib.compactUpTo
 rw [List.length_map]
 exact Nat.le_trans (List.length_filter_le _ _) (by simp)
theorem one_arg {vs : Array Value} (hsz : vs.size = 1) : vs = #[vs.getD 0 undef] := by
 apply Array.ext (by simpa using hsz)
 intro i h1 h2
 have : i = 0 := by simp at h2; exact h2
 subst this
 simp [Array.getD, h1]
theorem sort_m {P : Program} {Dw : World → Prop} {f : Nat} {ρ : Shelf.Ren} (hfn : ∃ fn, P.funcs[f]? = some fn ∧ (fn.name == "runtime.NumGoroutine") = false ∧ fn.body.isNone = false) (L : Lays.n189 P ρ) (hf : ρ.f 189 = f) : MSemOk P Dw f semSort := fun xs z hz => by
 subst hf
 unfold semSort at hz
 split at hz
 ·rename_i rows
  obtain ⟨zs, hi, hz2⟩ := oB_ hz
  clear hz
  obtain rfl := intsR_eq hi
  split at hz2
  ·rename_i hle
   obtain rfl := oJ_ hz2
   refine ⟨hfn, fun w M hp F vs hd hM hhp hF hdis hsz hr => ?_⟩
   have hx := hr 0 _ rfl
   rw [one_arg hsz]
   rcases osl_ints hx with ⟨hv, rfl⟩ | ⟨b, c, cs, ty, fz, hv, hFb, hpb, hzf, hs, hl, hm, hc⟩
   ·rw [hv]
    refine (Any.slices_Sort_int_none L none 0 w).mono fun en w' ⟨he, hw⟩ => ?_
    subst hw
    refine ⟨_, M, fun _ => none, fun _ _ => False, he, BelowF.refl _ _ _, fun _ _ _ h => h, hM, fun _ _ _ h _ _ => h, fun _ _ h => (by cases h), fun _ _ h => h.elim, fun _ _ _ h => h.elim, .pure _ _ _ ?_, fun i hi => ?_⟩
    ·exact .tup _ _ rfl (fun i x h => by simp at h)
    ·have : i = 0 := by simpa using hi
     subst this
     show RelT _ _ _ _ (V.osl 1 (List.map cInt (([] : List Int).mergeSort fun x y => decide (x ≤ y))))
     rw [List.mergeSort_nil]
     exact .oslNil _ _
   ·obtain ⟨hwb, hMb⟩ := hhp b _ hpb
    rw [hv]
    have hblk : b < w.heap.size := (Array.getElem?_eq_some_iff.1 hwb).1
    have hH := holds_ints (zs := zs) hwb hzf (by omega) hc
    refine (Any.slices_Sort_int L b 0 c zs w hH hblk (by omega)).mono fun en w' ⟨he, n, os, hw⟩ => ?_
    obtain ⟨hb1, hb2⟩ := put_block (n := n) (os := os) (d := (zs.mergeSort fun x y => decide (x ≤ y)).toArray) hwb
    rw [← hw] at hb1
    have hB := hb2 (fun q => ∃ i, F i q) ⟨0, hFb⟩
    rw [← hw] at hB
    have hsl : (zs.mergeSort fun x y => decide (x ≤ y)).length = zs.length := List.length_mergeSort _
    have hMw : ∀ b o u, M b o = some u → w'.cell? ⟨b, o, none⟩ = some u := fun b' o u hu => by
     by_cases hin : ∃ i, F i b'
     ·obtain ⟨i, hi⟩ := hin
      obtain ⟨ob, hob⟩ := hF i b' hi
      have := (hhp b' ob hob).2 o
      rw [hu] at this; cases this
     ·rw [World.cell?_of_block (w := w) (hB.block b' (mem_lt hM hu) hin)]; exact hM b' o u hu
    refine ⟨_, M, fun q => if q = b then w'.heap[q]? else none, fun i q => i = 1 ∧ q = b, he, hB, fun _ _ _ h => h, hMw, fun _ _ _ h _ _ => h, fun q ob hq => ?_, fun i q hq => ?_, fun i i' q h1 h2 => h1.1.trans h2.1.symm, .pure _ _ _ ?_, fun i hi => ?_⟩
    ·replace hq : (if q = b then w'.heap[q]? else none) = some ob := hq
     split at hq
     ·rename_i e1
      subst e1
      exact ⟨.inr ⟨0, hFb⟩, hq, hMb⟩
     ·cases hq
    ·obtain ⟨_, rfl⟩ := hq
     exact ⟨_, (if_pos rfl).trans hb1⟩
    ·exact .tup _ _ rfl (fun i x h => by simp at h)
    ·have : i = 0 := by simpa using hi
     subst this
     show RelT _ _ _ (Array.getD #[Value.slice _ _ _] 0 undef) (.osl 1 _)
     have e9 : (Array.getD #[Value.slice (some ⟨b, 0, none⟩) zs.length c] 0 undef) = Value.slice (some ⟨b, 0, none⟩) ((zs.mergeSort fun x y => decide (x ≤ y)).length : Nat) c := by rw [hsl]; rfl
     rw [e9]
     exact put_rel (d := zs.mergeSort fun x y => decide (x ≤ y)) ⟨rfl, rfl⟩ ((if_pos rfl).trans hb1) hzf hs (by omega) hm (List.prefix_refl _)
  ·cases hz2
 ·cases hz
end Go.Proofs.YtgkohnjpnnofhaaGreat.Den
