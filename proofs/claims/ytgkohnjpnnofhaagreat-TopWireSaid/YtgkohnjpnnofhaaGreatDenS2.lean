/- A reader of Go code in plain values: slices of int that are cut in place, handed back as the caller's own. -/
import Derived.Test.YtgkohnjpnnofhaaGreatDenS
import Derived.Shelf.Slices.Delete
import Derived.Shelf.Slices.Empties
namespace Go.Proofs.YtgkohnjpnnofhaaGreat.Den
set_option linter.unusedSimpArgs false
set_option linter.unusedVariables false
open Go.RowKit
def semCompactO (xs : List V) : Option V := match xs with
 | [.osl 1 rows] => (intsR rows).bind fun zs => if zs.length ≤ 4294967296 then some (.tup [.osl 1 ((Lib.compact zs).map cInt), .any]) else none
 | _ => none
def semDelete (xs : List V) : Option V := match xs with
 | [.osl 1 rows, .lit (.int .i64 i), .lit (.int .i64 j)] => (intsR rows).bind fun zs => if zs.length ≤ 4294967296 ∧ 0 ≤ i ∧ i ≤ j ∧ j ≤ zs.length then some (.tup [.osl 1 ((zs.take i.toNat ++ zs.drop j.toNat).map cInt), .any, .any, .any]) else none
 | _ => none
theorem cut_post {w w' : World} {M : Mem} {hp : Hp} {F : Nat → Nat → Prop} {b c n : Nat} {cs : Array Value} {ty : TypeId} {fz : Nat × Nat} {d ys : List Int} {v0 : Value}
  (hM : ∀ b o u, M b o = some u → w.cell? ⟨b, o, none⟩ = some u) (hhp : ∀ q ob, hp q = some ob → w.heap[q]? = some ob ∧ ∀ o, M q o = none) (hF : ∀ i q, F i q → ∃ ob, hp q = some ob) (hFb : F 0 b) (hpb : hp b = some (.cells cs ty fz)) (hzf : NoFz fz cs.size) (hs : cs.size = c) (hm : c ≤ maxLen)
  (hl : d.length ≤ c) (hpre : ys <+: d) (hw : w' = Sort.putRow (Value.int .i64) (Sort.ahead w n) b 0 d.toArray) {N : Nat} {vs : Array Value} {xs : List V} (hx : ∀ i, i < N → xs.getD (i + 1) .any = .any) :
  ∃ (M' : Mem) (hp' : Hp) (F' : Nat → Nat → Prop), BelowF (fun q => ∃ i, F i q) w.heap.size w w' ∧ (∀ b o u, M b o = some u → M' b o = some u) ∧ (∀ b o u, M' b o = some u → w'.cell? ⟨b, o, none⟩ = some u) ∧ (∀ b o u, M' b o = some u → b < w.heap.size → (¬ ∃ i, F i b) → M b o = some u) ∧
   (∀ q ob, hp' q = some ob → (w.heap.size ≤ q ∨ ∃ i, F i q) ∧ w'.heap[q]? = some ob ∧ ∀ o, M' q o = none) ∧ (∀ i q, F' i q → ∃ ob, hp' q = some ob) ∧ (∀ i i' q, F' i q → F' i' q → i = i') ∧ RelT hp' M' (F' 0) (.slice (some ⟨b, 0, none⟩) ys.length c) (.osl 1 (ys.map cInt)) := by
 obtain ⟨hwb, hMb⟩ := hhp b _ hpb
 obtain ⟨hb1, hb2⟩ := put_block (n := n) (os := #[]) (d := d.toArray) hwb
 rw [Sort.grow_empty, ← hw] at hb1
 have hB := hb2 (fun q => ∃ i, F i q) ⟨0, hFb⟩
 rw [Sort.grow_empty, ← hw] at hB
 have hMw : ∀ b o u, M b o = some u → w'.cell? ⟨b, o, none⟩ = some u := fun b' o u hu => by
  by_cases hin : ∃ i, F i b'
  ·obtain ⟨i, hi⟩ := hin
   obtain ⟨ob, hob⟩ := hF i b' hi
   have := (hhp b' ob hob).2 o
   rw [hu] at this; cases this
  ·rw [World.cell?_of_block (w := w) (hB.block b' (mem_lt hM hu) hin)]; exact hM b' o u hu
 refine ⟨M, fun q => if q = b then w'.heap[q]? else none, fun i q => i = 0 ∧ q = b, hB, fun _ _ _ h => h, hMw, fun _ _ _ h _ _ => h, fun q ob hq => ?_, fun i q hq => ?_, fun i i' q h1 h2 => h1.1.trans h2.1.symm, ?_⟩
 ·replace hq : (if q = b then w'.heap[q]? else none) = some ob := hq
  split at hq
  ·rename_i e1
   subst e1
   exact ⟨.inr ⟨0, hFb⟩, hq, hMb⟩
  ·cases hq
 ·obtain ⟨_, rfl⟩ := hq
  exact ⟨_, (if_pos rfl).trans hb1⟩
 ·exact put_rel (d := d) ⟨rfl, rfl⟩ ((if_pos rfl).trans hb1) hzf hs hl hm hpre
theorem compactO_m {P : Program} {Dw : World → Prop} {f : Nat} {ρ : Shelf.Ren} (hfn : ∃ fn, P.funcs[f]? = some fn ∧ (fn.name == "runtime.NumGoroutine") = false ∧ fn.body.isNone = false) (L : Lays2.n20 P ρ) (hf : ρ.f 20 = f) : MSemOk P Dw f semCompactO := fun xs z hz => by
 subst hf
 unfold semCompactO at hz
 split at hz
 ·rename_i rows
  obtain ⟨zs, hi, hz2⟩ := oB_ hz
  clear hz
  obtain rfl := intsR_eq hi
  split at hz2
  ·rename_i hle
   obtain rfl := oJ_ hz2
   refine ⟨hfn, fun w M hp F vs hd hM hhp hF hdis hsz hr => ?_⟩
   have hx := hr 0 _ rfl
   rw [one_arg hsz]
   rcases osl_ints hx with ⟨hv, rfl⟩ | ⟨b, c, cs, ty, fz, hv, hFb, hpb, hzf, hs, hl, hm, hc⟩
   ·rw [hv]
    refine (Any.slices_Compact_int_empty L none 0 w).mono fun en w' ⟨he, hw⟩ => ?_
    subst hw
    refine ⟨_, M, fun _ => none, fun _ _ => False, he, BelowF.refl _ _ _, fun _ _ _ h => h, hM, fun _ _ _ h _ _ => h, fun _ _ h => (by cases h), fun _ _ h => h.elim, fun _ _ _ h => h.elim, ?_, fun i hi => ?_⟩
    ·exact .oslNil _ _
    ·have : i = 0 := by simpa using hi
     subst this
     exact .pure _ _ _ (.any _)
   ·obtain ⟨hwb, hMb⟩ := hhp b _ hpb
    rw [hv]
    have hH := holds_ints (zs := zs) hwb hzf (by omega) hc
    refine (Any.slices_Compact_int L b 0 c zs w hH (by omega) (by omega)).mono fun en w' ⟨he, n, hw⟩ => ?_
    have hcl := compact_len zs
    obtain ⟨M', hp', F', k1, k2, k3, k4, k5, k6, k7, k8⟩ := cut_post (w' := w') (n := n) (v0 := undef) (N := 0) (vs := #[]) (xs := []) hM hhp hF hFb hpb hzf hs hm (d := Lib.compact zs ++ List.replicate (zs.length - (Lib.compact zs).length) 0) (ys := Lib.compact zs) (by simp; omega) (List.prefix_append _ _) hw (fun i h => by omega)
    refine ⟨_, M', hp', F', he, k1, k2, k3, k4, k5, k6, k7, k8, fun i hi => ?_⟩
    have : i = 0 := by simpa using hi
    subst this
    exact .pure _ _ _ (.any _)
  ·cases hz2
 ·cases hz
theorem three_args {vs : Array Value} (hsz : vs.size = 3) : vs = #[vs.getD 0 undef, vs.getD 1 undef, vs.getD 2 undef] := by
 apply Array.ext (by simpa using hsz)
 intro i h1 h2
 have : i = 0 ∨ i = 1 ∨ i = 2 := by simp at h2; omega
 rcases this with rfl | rfl | rfl <;> simp [Array.getD, h1]
theorem delete_m {P : Program} {Dw : World → Prop} {f : Nat} {ρ : Shelf.Ren} (hfn : ∃ fn, P.funcs[f]? = some fn ∧ (fn.name == "runtime.NumGoroutine") = false ∧ fn.body.isNone = false) (L : Lays2.n23 P ρ) (hf : ρ.f 23 = f) : MSemOk P Dw f semDelete := fun xs z hz => by
 subst hf
 unfold semDelete at hz
 split at hz
 ·rename_i rows i j
  obtain ⟨zs, hi, hz2⟩ := oB_ hz
  clear hz
  obtain rfl := intsR_eq hi
  split at hz2
  ·rename_i hle
   obtain ⟨hle, h0, hij, hj⟩ := hle
   obtain rfl := oJ_ hz2
   refine ⟨hfn, fun w M hp F vs hd hM hhp hF hdis hsz hr => ?_⟩
   have hx := hr 0 _ rfl
   have h1 := relT_int (hr 1 _ rfl)
   have h2 := relT_int (hr 2 _ rfl)
   rw [three_args hsz, h1, h2]
   obtain ⟨i, rfl⟩ := Int.eq_ofNat_of_zero_le h0
   obtain ⟨j, rfl⟩ := Int.eq_ofNat_of_zero_le (Int.le_trans h0 hij)
   have anyL : ∀ (k : Nat) (hk : k < 3) (hp' : Hp) (M' : Mem) (G : Nat → Prop) (u : Value) (q : V), RelT hp' M' G u (([q, .any, .any, .any] : List V).getD (k + 1) .any) := fun k hk hp' M' G u q => by
    match k, hk with
    | 0, _ => exact .pure _ _ _ (.any _)
    | 1, _ => exact .pure _ _ _ (.any _)
    | 2, _ => exact .pure _ _ _ (.any _)
   rcases osl_ints hx with ⟨hv, rfl⟩ | ⟨b, c, cs, ty, fz, hv, hFb, hpb, hzf, hs, hl, hm, hc⟩
   ·rw [hv]
    have hj0 : j = 0 := by simp at hj; omega
    have hi0 : i = 0 := by omega
    subst hj0; subst hi0
    refine (Any.slices_Delete_int_empty L none 0 w).mono fun en w' ⟨he, hw⟩ => ?_
    subst hw
    refine ⟨_, M, fun _ => none, fun _ _ => False, he, BelowF.refl _ _ _, fun _ _ _ h => h, hM, fun _ _ _ h _ _ => h, fun _ _ h => (by cases h), fun _ _ h => h.elim, fun _ _ _ h => h.elim, ?_, fun i hi => anyL i (by simpa using hi) _ _ _ _ _⟩
    exact .oslNil _ _
   ·obtain ⟨hwb, hMb⟩ := hhp b _ hpb
    rw [hv]
    have hH := holds_ints (zs := zs) hwb hzf (by omega) hc
    refine (Any.slices_Delete_int L b 0 c i j zs w hH (by omega) (by have : maxLen ≤ 9223372036854775807 := by decide
                                                                     omega) (by omega) (by omega)).mono fun en w' ⟨he, n, hw⟩ => ?_
    obtain ⟨M', hp', F', k1, k2, k3, k4, k5, k6, k7, k8⟩ := cut_post (w' := w') (n := n) (v0 := undef) (N := 0) (vs := #[]) (xs := []) hM hhp hF hFb hpb hzf hs hm (d := zs.take i ++ zs.drop j ++ List.replicate (j - i) 0) (ys := zs.take i ++ zs.drop j) (by simp; omega) (List.prefix_append _ _) hw (fun i h => by omega)
    have hlen : (zs.take i ++ zs.drop j).length = zs.length - (j - i) := by simp; omega
    rw [hlen] at k8
    exact ⟨_, M', hp', F', he, k1, k2, k3, k4, k5, k6, k7, k8, fun i hi => anyL i (by simpa using hi) _ _ _ _ _⟩
  ·cases hz2
 ·cases hz
end Go.Proofs.YtgkohnjpnnofhaaGreat.Den
