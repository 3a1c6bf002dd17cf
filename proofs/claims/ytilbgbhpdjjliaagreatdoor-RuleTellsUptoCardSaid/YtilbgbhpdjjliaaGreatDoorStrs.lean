/- strconv.Itoa and strings.Join, for the reader: their contracts on the kit's shelf as functions on plain values. -/
import Derived.Test.YtilbgbhpdjjliaaGreatDoorDen14
import Derived.Test.YtilbgbhpdjjliaaGreatDoorDenVals
import Derived.Test.YtilbgbhpdjjliaaGreatDoorTy
import Derived.Shelf.Strconv.Itoa3
import Derived.Shelf.Strings.OnBuilder
namespace Go.Proofs.YtilbgbhpdjjliaaGreatDoor.Den
open Go Go.RowKit
set_option linter.unusedSimpArgs false
set_option linter.unusedVariables false
def cStr (s : ByteArray) : List V := [.lit (.string s)]
def strsR : List (List V) → Option (List ByteArray)
  | [] => some []
  | [.lit (.string s)] :: l => (strsR l).map (s :: ·)
  | _ => none
theorem strsR_map : ∀ l : List ByteArray, strsR (l.map cStr) = some l
  | [] => rfl
  | s :: l => by simp [strsR, cStr]; exact strsR_map l
theorem strsR_eq : ∀ {l : List (List V)} {zs : List ByteArray}, strsR l = some zs → l = zs.map cStr
  | [], zs, h => by simp [strsR] at h; subst h; rfl
  | r :: l, zs, h => by
    unfold strsR at h
    split at h
    · cases ‹_ :: _ = []›
    · rename_i s l' e
      obtain ⟨rfl, rfl⟩ := List.cons.inj e
      obtain ⟨ys, h1, rfl⟩ := Option.map_eq_some_iff.1 h
      rw [strsR_eq h1]; rfl
    · cases h
def itoaS (z : Nat) : ByteArray := ⟨(Lib.decDigits z).toArray⟩
def joinS (l : List ByteArray) (sep : ByteArray) : ByteArray := ⟨(Lib.join (l.map (·.data.toList)) sep.data.toList).toArray⟩
def semItoa (xs : List V) : Option V := match xs with
  | [.lit (.int .i64 z)] => if 0 ≤ z ∧ z < 100 then some (.lit (.string (itoaS z.toNat))) else none
  | _ => none
def semJoin (xs : List V) : Option V := match xs with
  | [.sl rows, .lit (.string sep)] => (strsR rows).bind fun l => if l.length ≤ 140737488355328 ∧ (Lib.join (l.map (·.data.toList)) sep.data.toList).length ≤ 140737488355328 then some (.lit (.string (joinS l sep))) else none
  | _ => none
theorem itoa_s {P : Program} {Dw : World → Prop} {f : Nat} {ρ : Shelf.Ren} (hfn : ∃ fn, P.funcs[f]? = some fn ∧ (fn.name == "runtime.NumGoroutine") = false ∧ fn.body.isNone = false) (L : Lays.n171 P ρ) (hf : ρ.f 171 = f) : SemOk P Dw f semItoa := fun xs y hy => by
  subst hf
  unfold semItoa at hy
  split at hy
  · rename_i z
    split at hy
    · rename_i h
      obtain rfl := Option.some.inj hy
      refine scalls_vals (us := [.int .i64 z]) (r := .string (itoaS z.toNat)) hfn rfl rfl fun w _ => ?_
      have e : z = ((z.toNat : Nat) : Int) := by omega
      have := Any.strconv_Itoa_small L z.toNat (by omega) w
      rw [← e] at this
      exact this.mono fun en w' ⟨he, hw⟩ => ⟨he, hw ▸ Below.refl _ _⟩
    · cases hy
  · cases hy
theorem join_s {P : Program} {Dw : World → Prop} {f : Nat} {ρ : Shelf.Ren} (hfn : ∃ fn, P.funcs[f]? = some fn ∧ (fn.name == "runtime.NumGoroutine") = false ∧ fn.body.isNone = false) (L : Lays.n156 P ρ) (X : Builder.Extra P ρ) (hf : ρ.f 156 = f) : SemOk P Dw f semJoin := fun xs y hy => by
  subst hf
  unfold semJoin at hy
  split at hy
  · rename_i rows sep
    obtain ⟨l, hl, hy2⟩ := Option.bind_eq_some_iff.1 hy
    clear hy
    obtain rfl := strsR_eq hl
    split at hy2
    · rename_i hle
      obtain rfl := Option.some.inj hy2
      refine ⟨hfn, fun w M vs hd hM hrel => ?_⟩
      have h0 := hrel.2 0 _ rfl
      have h1 := hrel.2 1 _ rfl
      have hsz := hrel.1
      obtain ⟨A, c, k, b, o, ev, hIs⟩ := rel_sl h0
      have es := (rel_lit h1).1
      have evs : vs = #[.slice A l.length c, .string sep] := by
        apply Array.ext (by simpa using hsz)
        intro i hi1 hi2
        match i, hi2 with
        | 0, _ =>
          have : vs.toList.getD 0 undef = vs[0] := by simp [List.getD, hi1]
          simp only [List.length_map] at ev
          simpa [this] using this ▸ ev
        | 1, _ =>
          have : vs.toList.getD 1 undef = vs[1] := by simp [List.getD, hi1]
          simpa [this] using this ▸ es
      rw [evs]
      have fin : ∀ {e w'}, e = Ending.returned (.string (joinS l sep)) → Below w.heap.size w w' → ∃ r M', e = .returned r ∧ Grow M w M' w' ∧ Rel M' r (.lit (.string (joinS l sep))) := fun he hb => ⟨_, M, he, grow_below hM hb, .lit _ rfl⟩
      by_cases hn : l = []
      · subst hn
        exact (Any.strings_Join_none L X A c sep w).mono fun e w' ⟨he, hw⟩ => fin he (hw ▸ Below.refl _ _)
      · have hp : 0 < (l.map cStr).length := by simpa using List.length_pos_iff.2 hn
        have hA := hIs.hA hp
        subst hA
        have hk1 : k = 1 := by
          have := hIs.hk (cStr (l[0]'(by simpa using hp))) (List.mem_map_of_mem (List.getElem_mem _))
          exact this.symm
        subst hk1
        have cell : ∀ (j : Nat) x, l[j]? = some x → M b (o + j) = some (.string x) := fun j x hx => by
          obtain ⟨u, hu1, hu2, hu3⟩ := hIs.hr j (cStr x) (by rw [List.getElem?_map, hx]; rfl) 0 _ rfl
          rw [show o + j * 1 + 0 = o + j by omega] at hu1
          rw [hu1, (rel_lit hu3).1]
        have hb : b < w.heap.size := by
          have := cell 0 (l[0]'(by simpa using hp)) (List.getElem?_eq_getElem _)
          exact mem_lt hM this
        have hcap : l.length ≤ c := by simpa using hIs.hc
        exact (Any.strings_Join L X b o c l sep w (fun j x hx => hM _ _ _ (cell j x hx)) hb hle.1 hcap hle.2).mono fun e w' ⟨he, hw⟩ => fin he hw
    · cases hy2
  · cases hy
end Go.Proofs.YtilbgbhpdjjliaaGreatDoor.Den
namespace Go.Proofs.YtilbgbhpdjjliaaGreatDoor.Ty
open Go Go.RowKit Go.Proofs.YtilbgbhpdjjliaaGreatDoor.Den
def t_Itoa (z : Int) : Option ByteArray := if 0 ≤ z ∧ z < 100 then some (itoaS z.toNat) else none
theorem ty_Itoa (z : Int) : Rv (fun x : ByteArray => vt x) (semItoa [vi z]) (t_Itoa z) := fun b hb => by
  unfold t_Itoa at hb
  split at hb
  · rename_i h
    cases hb
    show (if 0 ≤ z ∧ z < 100 then _ else _) = _
    rw [if_pos h]
  · cases hb
def t_Join (l : List ByteArray) (sep : ByteArray) : Option ByteArray := if l.length ≤ 140737488355328 ∧ (Lib.join (l.map (·.data.toList)) sep.data.toList).length ≤ 140737488355328 then some (joinS l sep) else none
theorem ty_Join (l : List ByteArray) (sep : ByteArray) : Rv (fun x : ByteArray => vt x) (semJoin [V.sl (l.map cT), vt sep]) (t_Join l sep) := fun b hb => by
  unfold t_Join at hb
  split at hb
  · rename_i h
    cases hb
    show (strsR (l.map cStr)).bind _ = _
    rw [strsR_map, Option.bind_some, if_pos h]
  · cases hb
end Go.Proofs.YtilbgbhpdjjliaaGreatDoor.Ty
