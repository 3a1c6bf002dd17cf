/- strings.Split, for the reader: its contract on the kit's shelf as a function on plain values. -/
import Derived.Test.YtilbgbhpdjjliaaGreatDoorStrs
import Derived.Shelf.Strings.Split
namespace Go.Proofs.YtilbgbhpdjjliaaGreatDoor.Den
open Go Go.RowKit
set_option linter.unusedSimpArgs false
set_option linter.unusedVariables false
theorem strs_grow {w : World} {M : Mem} (l : List ByteArray) (ty : TypeId) (hl : l.length ≤ maxLen) (hM : ∀ b o u, M b o = some u → w.cell? ⟨b, o, none⟩ = some u) :
  ∃ M', Grow M w M' (w.alloc (.cells (l.map Value.string).toArray ty)) ∧ Rel M' (.slice (some ⟨w.heap.size, 0, none⟩) l.length l.length) (.sl (l.map cStr)) := by
 have hB : Below w.heap.size w (w.alloc (.cells (l.map Value.string).toArray ty)) := (Below.refl _ _).alloc (Nat.le_refl _) _
 let M' : Mem := fun b o => if b = w.heap.size then (w.alloc (.cells (l.map Value.string).toArray ty)).cell? ⟨w.heap.size, o, none⟩ else M b o
 have hne : ∀ b o u, M b o = some u → b ≠ w.heap.size := fun b o u hu e => by have := mem_lt hM hu; omega
 have hmono : ∀ b o u, M b o = some u → M' b o = some u := fun b o u hu => by simp only [M']; rw [if_neg (hne b o u hu)]; exact hu
 have hmem : ∀ b o u, M' b o = some u → (w.alloc (.cells (l.map Value.string).toArray ty)).cell? ⟨b, o, none⟩ = some u := fun b o u hu => by
  simp only [M'] at hu
  split at hu
  ·rename_i e
   subst e
   exact hu
  ·rw [World.cell?_of_block (w := w) (hB.block b (mem_lt hM hu))]; exact hM b o u hu
 refine ⟨M', ⟨hB, hmono, hmem, fun b o u hu hb => ?_⟩, ?_⟩
 ·simp only [M'] at hu
  rw [if_neg (by omega)] at hu; exact hu
 ·have hIs : IsSl M' (some ⟨w.heap.size, 0, none⟩) l.length (l.map cStr) 1 w.heap.size 0 := by
   refine ⟨by simp, fun r hr => by obtain ⟨x, _, rfl⟩ := List.mem_map.1 hr; rfl, fun _ => rfl, fun i r hr j z hz => ?_⟩
   rw [List.getElem?_map] at hr
   obtain ⟨x, hx, rfl⟩ := Option.map_eq_some_iff.1 hr
   match j, hz with
   | 0, hz =>
    cases hz
    refine ⟨.string x, ?_, rfl, .lit _ rfl⟩
    simp only [M', if_true]
    rw [show 0 + i * 1 + 0 = i by omega]
    simp [go_sem, hx]
  have := hIs.rel
  simpa using this
def semSplit (xs : List V) : Option V := match xs with
 | [.lit (.string s), .lit (.string sep)] => if s.size < 4294967281 ∧ 1 ≤ sep.size then some (.sl ((Lib.splitB sep 0 (Lib.countB s sep) s).map cStr)) else none
 | _ => none
theorem split_s {P : Program} {Dw : World → Prop} {f : Nat} {ρ : Shelf.Ren} (hfn : ∃ fn, P.funcs[f]? = some fn ∧ (fn.name == "runtime.NumGoroutine") = false ∧ fn.body.isNone = false) (L : Lays.n146 P ρ) (hi9 : (P.info? (ρ.t 9)).map (fun i => (i.zero, i.size, i.bytes)) = some (some (.string ByteArray.empty), 1, 16)) (hf : ρ.f 146 = f)
  (hD : ∀ w, Dw w → ∃ m, w.cell? ⟨(ρ.g 1), 0, none⟩ = some (.int .i64 m)) : SemOk P Dw f semSplit := fun xs y hy => by
 subst hf
 unfold semSplit at hy
 split at hy
 ·rename_i s sep
  split at hy
  ·rename_i h
   obtain rfl := Option.some.inj hy
   refine ⟨hfn, fun w M vs hd hM hrel => ?_⟩
   have e2 : vs = #[.string s, .string sep] := by
    have e := valsL_rel (us := [.string s, .string sep]) rfl hrel
    apply Array.toList_inj.1; simpa using e
   rw [e2]
   obtain ⟨m, hm⟩ := hD w hd
   have hlen := Lib.splitB_all sep h.2 0 _ s rfl
   have hle := Lib.countB_le sep h.2 s.size s (Nat.le_refl _)
   obtain ⟨M', h1, h2⟩ := strs_grow (w := w) (Lib.splitB sep 0 (Lib.countB s sep) s) (ρ.t 9) (by rw [hlen]; unfold maxLen; omega) hM
   rw [hlen] at h2
   exact (Any.strings_Split L hi9 s sep m w h.1 hm h.2).mono fun e w' ⟨he, hw⟩ => ⟨_, M', he, hw ▸ h1, h2⟩
  ·cases hy
 ·cases hy
end Go.Proofs.YtilbgbhpdjjliaaGreatDoor.Den
namespace Go.Proofs.YtilbgbhpdjjliaaGreatDoor.Ty
open Go Go.RowKit Go.Proofs.YtilbgbhpdjjliaaGreatDoor.Den
def t_Split (s sep : ByteArray) : Option (List ByteArray) := if s.size < 4294967281 ∧ 1 ≤ sep.size then some (Lib.splitB sep 0 (Lib.countB s sep) s) else none
theorem ty_Split (s sep : ByteArray) : Rv (fun x : List ByteArray => V.sl (x.map cT)) (semSplit [vt s, vt sep]) (t_Split s sep) := fun b hb => by
 unfold t_Split at hb
 split at hb
 ·rename_i h
  cases hb
  show (if _ then _ else _) = _
  rw [if_pos h]; rfl
 ·cases hb
end Go.Proofs.YtilbgbhpdjjliaaGreatDoor.Ty
