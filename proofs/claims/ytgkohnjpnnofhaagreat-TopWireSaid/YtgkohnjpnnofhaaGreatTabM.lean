/- Plain facts on tables and single changes. -/
import Derived.Test.YtgkohnjpnnofhaaGreatCube
import Derived.Test.YtgkohnjpnnofhaaGreatQuiet
import Derived.Test.YtgkohnjpnnofhaaGreatRow
import Derived.Deep.RegionLaw
import Derived.Deep.MidRow
import Derived.Lib.LazyBuf
namespace Go.Proofs.YtgkohnjpnnofhaaGreat
set_option linter.unusedSimpArgs false
set_option linter.unusedVariables false
open Go.RowKit
def rchk (p m b o s v : Int) : Int :=
 if 0 ≤ p ∧ p ≤ 99 ∧ 0 ≤ o ∧ o ≤ 4 ∧ (0 ≤ s ∧ s < 16) ∧ (0 ≤ v ∧ v < 16) then
  (if cchk m b = 0 then (if bits .andNot .i64 v s = 0 ∧ ¬ (o = 0 ∧ s ≠ 0) then 0 else 3) else cchk m b)
 else 1
theorem rchk_0 {p m b o s v : Int} : rchk p m b o s v = 0 ↔ (0 ≤ p ∧ p ≤ 99 ∧ 0 ≤ o ∧ o ≤ 4 ∧ (0 ≤ s ∧ s < 16) ∧ (0 ≤ v ∧ v < 16)) ∧ cchk m b = 0 ∧ bits .andNot .i64 v s = 0 ∧ ¬ (o = 0 ∧ s ≠ 0) := by
 unfold rchk
 split
 ·rename_i h
  split
  ·rename_i h2
   split
   ·rename_i h3; exact ⟨fun _ => ⟨h, h2, h3.1, h3.2⟩, fun _ => rfl⟩
   ·rename_i h3; exact ⟨fun h => absurd h (by decide), fun h => absurd ⟨h.2.2.1, h.2.2.2⟩ h3⟩
  ·rename_i h2; exact ⟨fun h => absurd h h2, fun h => absurd h.2.1 h2⟩
 ·rename_i h; exact ⟨fun h => absurd h (by decide), fun h2 => absurd h2.1 h⟩
set_option maxHeartbeats 800000 in
theorem rcheck_any (p m b o s v : Int) (w : World) : Calls Tryz.prog 24 #[.agg #[.int .i64 p, .int .i64 m, .int .i64 b, .int .i64 o, .int .i64 s, .int .i64 v]] w fun e w' => e = .returned (errOf (rchk p m b o s v)) ∧ Below w.heap.size w w' := by
 by_cases hk : cchk m b = 0
 ·have HK := Lib.hid hk
  clear hk
  go_enter Tryz.func24, Tryz.ntmps24
  go_wp2_with (first | (go_at_call 55; refine (ccheck_ok _ _ _ HK.out).mono ?_; rintro e w' ⟨rfl, hb⟩; obtain ⟨hc, hf⟩ := bcell hb; have hz := hb.size; (try simp at hz); (try have y1 := Nat.lt_of_succ_le hz); (try have y2 := Nat.lt_of_succ_lt y1); (try have y3 := Nat.lt_of_succ_lt y2); have hB := bstep (w := w) (by go_grown) hb; (try have z0 : w.heap.size < w'.heap.size := by omega); (try have z1 : w.heap.size + 1 < w'.heap.size := by omega); (try have z2 : w.heap.size + 1 + 1 < w'.heap.size := by omega); (try have z3 : w.heap.size + 1 + 1 + 1 < w'.heap.size := by omega)) | (go_at_call 41; refine (header_any _ _).mono ?_; rintro e w' ⟨rfl, rfl⟩))
  all_goals go_ret
  all_goals refine ⟨ret_val ?_, by go_grown⟩
  all_goals (have hk := HK.out; go_light; (try simp only [Bool.not_eq_true', Bool.not_eq_false', decide_eq_false_iff_not, decide_eq_true_eq, bne_iff_ne, ne_eq, bne_eq_false_iff_eq, beq_iff_eq, beq_eq_false_iff_ne, Bool.and_eq_true, Bool.or_eq_true, Bool.not_true, Bool.not_false, Bool.not_eq_true, Bool.false_eq_true, hdr_iff, hdr_not, false_iff, true_iff, iff_false, iff_true] at *); (first | (have e0 : rchk p m b o s v = 0 := (by unfold rchk; (repeat' split) <;> omega); rw [e0]; rfl) | (have e0 : rchk p m b o s v = 1 := (by unfold rchk; (repeat' split) <;> omega); rw [e0]; rfl) | (have e0 : rchk p m b o s v = 3 := (by unfold rchk; (repeat' split) <;> omega); rw [e0]; rfl)))
 ·have HK := Lib.hid hk
  clear hk
  go_enter Tryz.func24, Tryz.ntmps24
  go_wp2_with (first | (go_at_call 55; refine (ccheck_bad _ _ _ HK.out).mono ?_; rintro e w' ⟨rfl, hb⟩; obtain ⟨hc, hf⟩ := bcell hb; have hz := hb.size; (try simp at hz); (try have y1 := Nat.lt_of_succ_le hz); (try have y2 := Nat.lt_of_succ_lt y1); (try have y3 := Nat.lt_of_succ_lt y2); have hB := bstep (w := w) (by go_grown) hb; (try have z0 : w.heap.size < w'.heap.size := by omega); (try have z1 : w.heap.size + 1 < w'.heap.size := by omega); (try have z2 : w.heap.size + 1 + 1 < w'.heap.size := by omega); (try have z3 : w.heap.size + 1 + 1 + 1 < w'.heap.size := by omega)) | (go_at_call 41; refine (header_any _ _).mono ?_; rintro e w' ⟨rfl, rfl⟩))
  all_goals go_ret
  all_goals refine ⟨ret_val ?_, by go_grown⟩
  all_goals (have hk := HK.out; go_light; (try simp only [Bool.not_eq_true', Bool.not_eq_false', decide_eq_false_iff_not, decide_eq_true_eq, bne_iff_ne, ne_eq, bne_eq_false_iff_eq, beq_iff_eq, beq_eq_false_iff_ne, Bool.and_eq_true, Bool.or_eq_true, Bool.not_true, Bool.not_false, Bool.not_eq_true, Bool.false_eq_true, hdr_iff, hdr_not, false_iff, true_iff, iff_false, iff_true] at *); first | (first | (have e0 : rchk p m b o s v = 1 := (by unfold rchk; (repeat' split) <;> omega); rw [e0]; rfl)) | ((have e0 : rchk p m b o s v = cchk m b := (by unfold rchk; (repeat' split) <;> omega)); rw [e0, errOf_ne hk]; rfl))
theorem rcheck_ok (p m b o s v : Int) (w : World) (h : rchk p m b o s v = 0) : Calls Tryz.prog 24 #[.agg #[.int .i64 p, .int .i64 m, .int .i64 b, .int .i64 o, .int .i64 s, .int .i64 v]] w fun e w' => e = .returned .nilIface ∧ Below w.heap.size w w' :=
 (rcheck_any p m b o s v w).mono fun _ _ ⟨he, hb⟩ => ⟨by rw [he, h]; rfl, hb⟩
theorem rcheck_bad (p m b o s v : Int) (w : World) (h : rchk p m b o s v ≠ 0) : Calls Tryz.prog 24 #[.agg #[.int .i64 p, .int .i64 m, .int .i64 b, .int .i64 o, .int .i64 s, .int .i64 v]] w fun e w' => e = .returned (.iface 81 (.int .i64 (rchk p m b o s v))) ∧ Below w.heap.size w w' :=
 (rcheck_any p m b o s v w).mono fun _ _ ⟨he, hb⟩ => ⟨by rw [he, errOf_ne h], hb⟩
open Go.RowKit
structure Rl where
 p : Int
 m : Int
 b : Int
 o : Int
 s : Int
 v : Int
deriving DecidableEq
instance : Inhabited Rl := ⟨⟨0, 0, 0, 0, 0, 0⟩⟩
def Rl.cells (x : Rl) : List Value := [.int .i64 x.p, .int .i64 x.m, .int .i64 x.b, .int .i64 x.o, .int .i64 x.s, .int .i64 x.v]
def Rl.chk (x : Rl) : Int := rchk x.p x.m x.b x.o x.s x.v
def Rules (w : World) (A : Option Addr) (c : Nat) (l : List Rl) : Prop := RowC w 6 A l.length c (l.map Rl.cells)
theorem Rules.below {w w' : World} {A : Option Addr} {c : Nat} {l : List Rl} (h : Rules w A c l) (hb : Below w.heap.size w w') : Rules w' A c l := RowC.below h hb
theorem Rules.le {w : World} {A : Option Addr} {c : Nat} {l : List Rl} (h : Rules w A c l) : l.length ≤ c := h.2.1
theorem Rules.at_ {w : World} {A : Option Addr} {c : Nat} {l : List Rl} (h : Rules w A c l) {i : Nat} (hi : i < l.length) : ∃ b o, A = some ⟨b, o, none⟩ ∧ b < w.heap.size ∧
  w.cell? ⟨b, o + i * 6, none⟩ = some (.int .i64 l[i].p) ∧ w.cell? ⟨b, o + i * 6 + 1, none⟩ = some (.int .i64 l[i].m) ∧ w.cell? ⟨b, o + i * 6 + 2, none⟩ = some (.int .i64 l[i].b) ∧
  w.cell? ⟨b, o + i * 6 + 3, none⟩ = some (.int .i64 l[i].o) ∧ w.cell? ⟨b, o + i * 6 + 4, none⟩ = some (.int .i64 l[i].s) ∧ w.cell? ⟨b, o + i * 6 + 5, none⟩ = some (.int .i64 l[i].v) := by
 obtain ⟨b, o, cs, e, hlt, hx, hc⟩ := RowC.at_ h hi
 rw [List.getElem?_map, gE_ hi] at hx
 simp only [Option.map_some, oE_] at hx
 subst hx
 exact ⟨b, o, e, hlt, hc 0 _ rfl, hc 1 _ rfl, hc 2 _ rfl, hc 3 _ rfl, hc 4 _ rfl, hc 5 _ rfl⟩
theorem Rules.take {w : World} {A : Option Addr} {c : Nat} {l : List Rl} (h : Rules w A c l) (k : Nat) (hk : k ≤ l.length) : RowC w 6 A k c ((l.take k).map Rl.cells) := by
 obtain ⟨h1, h2, h3, h4⟩ := h
 refine ⟨by simp; omega, by omega, fun cs hcs => ?_, fun hk0 => ?_⟩
 ·obtain ⟨x, hx, rfl⟩ := List.mem_map.1 hcs
  exact h3 _ (List.mem_map.2 ⟨x, List.mem_of_mem_take hx, rfl⟩)
 ·obtain ⟨b, o, e, hlt, hc⟩ := h4 (by omega)
  refine ⟨b, o, e, hlt, fun i cs hi j u hu => hc i cs ?_ j u hu⟩
  rw [List.getElem?_map] at hi ⊢
  have : i < k := by
   rcases Nat.lt_or_ge i k with h | h
   ·exact h
   ·rw [List.getElem?_take, if_neg (by omega)] at hi
    cases hi
  rw [List.getElem?_take, if_pos this] at hi
  exact hi
def Rl.key (x y : Rl) : Bool := decide (x.p = y.p ∧ x.m = y.m ∧ x.b = y.b)
set_option maxHeartbeats 400000 in
theorem key_any (x y : Rl) (w : World) : Calls Tryz.prog 52 #[.agg #[.int .i64 x.p, .int .i64 x.m, .int .i64 x.b, .int .i64 x.o, .int .i64 x.s, .int .i64 x.v], .agg #[.int .i64 y.p, .int .i64 y.m, .int .i64 y.b, .int .i64 y.o, .int .i64 y.s, .int .i64 y.v]] w fun e w' => e = .returned (.bool (x.key y)) ∧ Below w.heap.size w w' := by
 go_enter Tryz.func52, Tryz.ntmps52
 go_wp2
 all_goals go_ret
 all_goals refine ⟨?_, by go_grown⟩
 all_goals (refine ret_bool ?_; go_light; unfold Rl.key; rw [Bool.eq_iff_iff]; (try simp only [Bool.not_eq_true', Bool.not_eq_false', decide_eq_false_iff_not, decide_eq_true_eq, bne_iff_ne, ne_eq, bne_eq_false_iff_eq, beq_iff_eq, beq_eq_false_iff_ne, Bool.and_eq_true, Bool.or_eq_true, Bool.not_true, Bool.not_false, Bool.not_eq_true, Bool.false_eq_true, hdr_iff, hdr_not, false_iff, true_iff, iff_false, iff_true] at *); omega)
theorem hmf (fn : Fn) (first cap : Array Value) (w : World) : (Instr.makeFunc fn first cap).run Tryz.prog w = .ok (.func fn first cap) w := rfl
theorem clos59_any (x y : Rl) (b : Nat) (w : World) (hb : b < w.heap.size)
  (h0 : w.cell? ⟨b, 0, none⟩ = some (.int .i64 y.p)) (h1 : w.cell? ⟨b, 1, none⟩ = some (.int .i64 y.m)) (h2 : w.cell? ⟨b, 2, none⟩ = some (.int .i64 y.b))
  (h3 : w.cell? ⟨b, 3, none⟩ = some (.int .i64 y.o)) (h4 : w.cell? ⟨b, 4, none⟩ = some (.int .i64 y.s)) (h5 : w.cell? ⟨b, 5, none⟩ = some (.int .i64 y.v)) :
  Calls Tryz.prog 59 #[.agg #[.int .i64 x.p, .int .i64 x.m, .int .i64 x.b, .int .i64 x.o, .int .i64 x.s, .int .i64 x.v], .pointer (some ⟨b, 0, none⟩)] w fun e w' => e = .returned (.bool (x.key y)) ∧ Below w.heap.size w w' := by
 go_enter Tryz.func59, Tryz.ntmps59
 go_wp2_with (go_at_call 52; refine (key_any _ _ _).mono ?_; rintro e w2 ⟨rfl, hbw2⟩; obtain ⟨hcw2, hfw2⟩ := bcell hbw2; have hzw2 := hbw2.size; (try simp at hzw2); have hBw2 := bstep (w := w) (by go_grown) hbw2; (try have : wa.heap.size < w2.heap.size := by omega); (try have : w.heap.size < w2.heap.size := by omega); (try have : w.heap.size + 1 < w2.heap.size := by omega); (try have : w.heap.size + 1 + 1 < w2.heap.size := by omega); (try have : w.heap.size + 1 + 1 + 1 < w2.heap.size := by omega))
 go_ret
 exact ⟨rfl, by go_grown⟩
set_option maxHeartbeats 800000 in
theorem rindex59_any (A : Option Addr) (n cp : Nat) (l : List Rl) (w : World) (hn : n = l.length) (h : RowC w 6 A n cp (l.map Rl.cells)) (hl : l.length ≤ 4294967296) (a : Addr) (p : Rl → Bool)
  (hf : ∀ x ∈ l, ∀ W, Below w.heap.size w W → Calls Tryz.prog 59 #[.agg #[.int .i64 x.p, .int .i64 x.m, .int .i64 x.b, .int .i64 x.o, .int .i64 x.s, .int .i64 x.v], .pointer (some a)] W fun e W' => e = .returned (.bool (p x)) ∧ Below W.heap.size W W') :
  Calls Tryz.prog 73 #[.slice A n cp, .func (.func 59) #[] #[.pointer (some a)]] w fun e w' => e = .returned (.int .i64 (fidx p l)) ∧ Below w.heap.size w w' := by
 subst hn
 have H : Hid (Rules w A cp l) := h
 have HF := Lib.hid hf
 clear h hf
 go_enter Tryz.func73, Tryz.ntmps73
 go_wp2_with fail
 go_loopw [8] (fun i wr => ∃ k : Nat, k ≤ l.length ∧ i = .int .i64 k ∧ Below w.heap.size w wr ∧ Hid (∀ j (hj : j < l.length), j < k → p l[j] = false)) (fun i _ => l.length - (intOf i).toNat)
 case atStart => exact ⟨0, by omega, rfl, Below.refl _ _, fun j _ hj => absurd hj (by omega)⟩
 case round =>
  obtain ⟨k, hk, rfl, hbel, hno⟩ := hrel
  have hwr := hbel.size
  by_cases hlt : k < l.length
  ·obtain ⟨b, o, rfl, hb, c0, c1, c2, c3, c4, c5⟩ := (H.out.below hbel).at_ hlt
   have HK := Lib.hid (HF.out l[k] (List.getElem_mem hlt) wr hbel)
   cases hp : p l[k] with
   | true =>
    have HX := Lib.hid (fidx_found hlt hp fun j hj => hno.out j (by omega) hj)
    rw [hp] at HK
    clear hp
    go_wp2_with (go_at_call 59; refine HK.out.mono ?_; rintro e w2 ⟨rfl, hb2⟩)
    go_ret
    exact ⟨by rw [HX.out]; rfl, hbel.trans (hb2.mono hwr)⟩
   | false =>
    have HX := Lib.hid (fun j (hj : j < l.length) (hjk : j < k + 1) => show p l[j] = false from if e : j < k then hno.out j hj e else (by obtain rfl : j = k := (by omega); exact hp))
    rw [hp] at HK
    clear hp
    go_wp2_with (go_at_call 59; refine HK.out.mono ?_; rintro e w2 ⟨rfl, hb2⟩)
    go_roundw
    case rel => exact ⟨k + 1, by omega, by go_num, hbel.trans (hb2.mono hwr), HX.out⟩
    case measure => simp [intOf]; omega
  ·have HX := Lib.hid (fidx_none fun j hj => hno.out j hj (by omega))
   go_wp2_with fail
   go_ret
   exact ⟨by rw [HX.out]; rfl, hbel⟩
theorem rcontains59_any (A : Option Addr) (n cp : Nat) (l : List Rl) (w : World) (hn : n = l.length) (h : RowC w 6 A n cp (l.map Rl.cells)) (hl : l.length ≤ 4294967296) (y : Rl) (b : Nat) (hb : b < w.heap.size)
  (h0 : w.cell? ⟨b, 0, none⟩ = some (.int .i64 y.p)) (h1 : w.cell? ⟨b, 1, none⟩ = some (.int .i64 y.m)) (h2 : w.cell? ⟨b, 2, none⟩ = some (.int .i64 y.b))
  (h3 : w.cell? ⟨b, 3, none⟩ = some (.int .i64 y.o)) (h4 : w.cell? ⟨b, 4, none⟩ = some (.int .i64 y.s)) (h5 : w.cell? ⟨b, 5, none⟩ = some (.int .i64 y.v)) :
  Calls Tryz.prog 50 #[.slice A n cp, .func (.func 59) #[] #[.pointer (some ⟨b, 0, none⟩)]] w fun e w' => e = .returned (.bool (l.any fun x => x.key y)) ∧ Below w.heap.size w w' := by
 have H := Lib.hid (rindex59_any A n cp l w hn h hl ⟨b, 0, none⟩ (fun x => x.key y) fun x _ W hW =>
  have c := fun i => hW.cell (p := ⟨b, i, none⟩) hb
  clos59_any x y b W (Nat.lt_of_lt_of_le hb hW.size) ((c 0).trans h0) ((c 1).trans h1) ((c 2).trans h2) ((c 3).trans h3) ((c 4).trans h4) ((c 5).trans h5))
 have HX := Lib.hid (fidx_any (fun x : Rl => x.key y) l)
 clear h hn h0 h1 h2 h3 h4 h5
 go_enter Tryz.func50, Tryz.ntmps50
 go_wp2_with (go_at_call 73; refine (H.out).mono ?_; rintro e w2 ⟨rfl, hbw2⟩; obtain ⟨hcw2, hfw2⟩ := bcell hbw2; have hzw2 := hbw2.size; (try simp at hzw2); have hBw2 := bstep (w := w) (by go_grown) hbw2; (try have : wa.heap.size < w2.heap.size := by omega); (try have : w.heap.size < w2.heap.size := by omega); (try have : w.heap.size + 1 < w2.heap.size := by omega); (try have : w.heap.size + 1 + 1 < w2.heap.size := by omega); (try have : w.heap.size + 1 + 1 + 1 < w2.heap.size := by omega))
 go_ret
 exact ⟨ret_bool HX.out, by go_grown⟩
theorem clos51_any (x y : Rl) (b : Nat) (w : World) (hb : b < w.heap.size)
  (h0 : w.cell? ⟨b, 0, none⟩ = some (.int .i64 y.p)) (h1 : w.cell? ⟨b, 1, none⟩ = some (.int .i64 y.m)) (h2 : w.cell? ⟨b, 2, none⟩ = some (.int .i64 y.b))
  (h3 : w.cell? ⟨b, 3, none⟩ = some (.int .i64 y.o)) (h4 : w.cell? ⟨b, 4, none⟩ = some (.int .i64 y.s)) (h5 : w.cell? ⟨b, 5, none⟩ = some (.int .i64 y.v)) :
  Calls Tryz.prog 51 #[.agg #[.int .i64 x.p, .int .i64 x.m, .int .i64 x.b, .int .i64 x.o, .int .i64 x.s, .int .i64 x.v], .pointer (some ⟨b, 0, none⟩)] w fun e w' => e = .returned (.bool (x.key y)) ∧ Below w.heap.size w w' := by
 go_enter Tryz.func51, Tryz.ntmps51
 go_wp2_with (go_at_call 52; refine (key_any _ _ _).mono ?_; rintro e w2 ⟨rfl, hbw2⟩; obtain ⟨hcw2, hfw2⟩ := bcell hbw2; have hzw2 := hbw2.size; (try simp at hzw2); have hBw2 := bstep (w := w) (by go_grown) hbw2; (try have : wa.heap.size < w2.heap.size := by omega); (try have : w.heap.size < w2.heap.size := by omega); (try have : w.heap.size + 1 < w2.heap.size := by omega); (try have : w.heap.size + 1 + 1 < w2.heap.size := by omega); (try have : w.heap.size + 1 + 1 + 1 < w2.heap.size := by omega))
 go_ret
 exact ⟨rfl, by go_grown⟩
set_option maxHeartbeats 800000 in
theorem rindex51_any (A : Option Addr) (n cp : Nat) (l : List Rl) (w : World) (hn : n = l.length) (h : RowC w 6 A n cp (l.map Rl.cells)) (hl : l.length ≤ 4294967296) (a : Addr) (p : Rl → Bool)
  (hf : ∀ x ∈ l, ∀ W, Below w.heap.size w W → Calls Tryz.prog 51 #[.agg #[.int .i64 x.p, .int .i64 x.m, .int .i64 x.b, .int .i64 x.o, .int .i64 x.s, .int .i64 x.v], .pointer (some a)] W fun e W' => e = .returned (.bool (p x)) ∧ Below W.heap.size W W') :
  Calls Tryz.prog 73 #[.slice A n cp, .func (.func 51) #[] #[.pointer (some a)]] w fun e w' => e = .returned (.int .i64 (fidx p l)) ∧ Below w.heap.size w w' := by
 subst hn
 have H : Hid (Rules w A cp l) := h
 have HF := Lib.hid hf
 clear h hf
 go_enter Tryz.func73, Tryz.ntmps73
 go_wp2_with fail
 go_loopw [8] (fun i wr => ∃ k : Nat, k ≤ l.length ∧ i = .int .i64 k ∧ Below w.heap.size w wr ∧ Hid (∀ j (hj : j < l.length), j < k → p l[j] = false)) (fun i _ => l.length - (intOf i).toNat)
 case atStart => exact ⟨0, by omega, rfl, Below.refl _ _, fun j _ hj => absurd hj (by omega)⟩
 case round =>
  obtain ⟨k, hk, rfl, hbel, hno⟩ := hrel
  have hwr := hbel.size
  by_cases hlt : k < l.length
  ·obtain ⟨b, o, rfl, hb, c0, c1, c2, c3, c4, c5⟩ := (H.out.below hbel).at_ hlt
   have HK := Lib.hid (HF.out l[k] (List.getElem_mem hlt) wr hbel)
   cases hp : p l[k] with
   | true =>
    have HX := Lib.hid (fidx_found hlt hp fun j hj => hno.out j (by omega) hj)
    rw [hp] at HK
    clear hp
    go_wp2_with (go_at_call 51; refine HK.out.mono ?_; rintro e w2 ⟨rfl, hb2⟩)
    go_ret
    exact ⟨by rw [HX.out]; rfl, hbel.trans (hb2.mono hwr)⟩
   | false =>
    have HX := Lib.hid (fun j (hj : j < l.length) (hjk : j < k + 1) => show p l[j] = false from if e : j < k then hno.out j hj e else (by obtain rfl : j = k := (by omega); exact hp))
    rw [hp] at HK
    clear hp
    go_wp2_with (go_at_call 51; refine HK.out.mono ?_; rintro e w2 ⟨rfl, hb2⟩)
    go_roundw
    case rel => exact ⟨k + 1, by omega, by go_num, hbel.trans (hb2.mono hwr), HX.out⟩
    case measure => simp [intOf]; omega
  ·have HX := Lib.hid (fidx_none fun j hj => hno.out j hj (by omega))
   go_wp2_with fail
   go_ret
   exact ⟨by rw [HX.out]; rfl, hbel⟩
theorem rcontains51_any (A : Option Addr) (n cp : Nat) (l : List Rl) (w : World) (hn : n = l.length) (h : RowC w 6 A n cp (l.map Rl.cells)) (hl : l.length ≤ 4294967296) (y : Rl) (b : Nat) (hb : b < w.heap.size)
  (h0 : w.cell? ⟨b, 0, none⟩ = some (.int .i64 y.p)) (h1 : w.cell? ⟨b, 1, none⟩ = some (.int .i64 y.m)) (h2 : w.cell? ⟨b, 2, none⟩ = some (.int .i64 y.b))
  (h3 : w.cell? ⟨b, 3, none⟩ = some (.int .i64 y.o)) (h4 : w.cell? ⟨b, 4, none⟩ = some (.int .i64 y.s)) (h5 : w.cell? ⟨b, 5, none⟩ = some (.int .i64 y.v)) :
  Calls Tryz.prog 50 #[.slice A n cp, .func (.func 51) #[] #[.pointer (some ⟨b, 0, none⟩)]] w fun e w' => e = .returned (.bool (l.any fun x => x.key y)) ∧ Below w.heap.size w w' := by
 have H := Lib.hid (rindex51_any A n cp l w hn h hl ⟨b, 0, none⟩ (fun x => x.key y) fun x _ W hW =>
  have c := fun i => hW.cell (p := ⟨b, i, none⟩) hb
  clos51_any x y b W (Nat.lt_of_lt_of_le hb hW.size) ((c 0).trans h0) ((c 1).trans h1) ((c 2).trans h2) ((c 3).trans h3) ((c 4).trans h4) ((c 5).trans h5))
 have HX := Lib.hid (fidx_any (fun x : Rl => x.key y) l)
 clear h hn h0 h1 h2 h3 h4 h5
 go_enter Tryz.func50, Tryz.ntmps50
 go_wp2_with (go_at_call 73; refine (H.out).mono ?_; rintro e w2 ⟨rfl, hbw2⟩; obtain ⟨hcw2, hfw2⟩ := bcell hbw2; have hzw2 := hbw2.size; (try simp at hzw2); have hBw2 := bstep (w := w) (by go_grown) hbw2; (try have : wa.heap.size < w2.heap.size := by omega); (try have : w.heap.size < w2.heap.size := by omega); (try have : w.heap.size + 1 < w2.heap.size := by omega); (try have : w.heap.size + 1 + 1 < w2.heap.size := by omega); (try have : w.heap.size + 1 + 1 + 1 < w2.heap.size := by omega))
 go_ret
 exact ⟨ret_bool HX.out, by go_grown⟩
def tfaultFrom (seen : List Rl) : List Rl → Int
 | [] => 0
 | x :: r => if x.chk ≠ 0 then x.chk else if (seen.any fun y => y.key x) = true then 7 else tfaultFrom (seen ++ [x]) r
def tchk (l : List Rl) : Int := if l.length > 12 then 4 else tfaultFrom [] l
theorem tfault_step {l : List Rl} {k : Nat} (h : k < l.length) : tfaultFrom (l.take k) (l.drop k) = if l[k].chk ≠ 0 then l[k].chk else if ((l.take k).any fun y => y.key l[k]) = true then 7 else tfaultFrom (l.take (k + 1)) (l.drop (k + 1)) := by
 rw [List.drop_eq_getElem_cons h, tfaultFrom, List.take_succ_eq_append_getElem h]
theorem rchk_ok (x : Rl) (w : World) (h : x.chk = 0) : Calls Tryz.prog 24 #[.agg #[.int .i64 x.p, .int .i64 x.m, .int .i64 x.b, .int .i64 x.o, .int .i64 x.s, .int .i64 x.v]] w fun e w' => e = .returned .nilIface ∧ Below w.heap.size w w' := rcheck_ok _ _ _ _ _ _ w h
theorem rchk_bad (x : Rl) (w : World) (h : x.chk ≠ 0) : Calls Tryz.prog 24 #[.agg #[.int .i64 x.p, .int .i64 x.m, .int .i64 x.b, .int .i64 x.o, .int .i64 x.s, .int .i64 x.v]] w fun e w' => e = .returned (.iface 81 (.int .i64 x.chk)) ∧ Below w.heap.size w w' := rcheck_bad _ _ _ _ _ _ w h
set_option maxHeartbeats 800000 in
theorem tcheck_any (A : Option Addr) (cp : Nat) (l : List Rl) (w : World) (h : Rules w A cp l) : Calls Tryz.prog 33 #[.slice A l.length cp] w fun e w' => e = .returned (errOf (tchk l)) ∧ Below w.heap.size w w' := by
 have hmk := hmf
 have H := Lib.hid h
 have hcp := h.le
 clear h
 by_cases hl : l.length ≤ 12
 ·have HT := Lib.hid (show tchk l = tfaultFrom [] l by unfold tchk; rw [if_neg (by omega)])
  go_enter Tryz.func33, Tryz.ntmps33
  go_wp2_with fail
  go_loopw [12] (fun i wr => ∃ k : Nat, k ≤ l.length ∧ i = .int .i64 k ∧ Below w.heap.size w wr ∧ Hid (tfaultFrom [] l = tfaultFrom (l.take k) (l.drop k))) (fun i _ => l.length - (intOf i).toNat)
  case atStart => exact ⟨0, by omega, rfl, Below.refl _ _, rfl⟩
  case round =>
   obtain ⟨k, hk, rfl, hbel, hno⟩ := hrel
   have hwr := hbel.size
   by_cases hlt : k < l.length
   ·obtain ⟨b, o, rfl, hb, c0, c1, c2, c3, c4, c5⟩ := (H.out.below hbel).at_ hlt
    have HS := Lib.hid (tfault_step hlt)
    by_cases hz : l[k].chk = 0
    ·have HC := Lib.hid (fun w => rchk_ok l[k] w hz)
     go_wp2_with fail
     (go_at_call 24; refine (HC.out _).mono ?_; rintro e w2 ⟨rfl, hbw2⟩; obtain ⟨hcw2, hfw2⟩ := bcell hbw2; have hzw2 := hbw2.size; (try simp at hzw2); have hBw2 := bstep (w := w) (by go_grown) hbw2; (try have : wa.heap.size < w2.heap.size := by omega); (try have : w.heap.size < w2.heap.size := by omega); (try have : w.heap.size + 1 < w2.heap.size := by omega); (try have : w.heap.size + 1 + 1 < w2.heap.size := by omega); (try have : w.heap.size + 1 + 1 + 1 < w2.heap.size := by omega))
     go_wp2_with fail
     have q := fun i => hbw2.cell (p := ⟨wr.heap.size, i, none⟩) (by simp)
     have hq : wr.heap.size < w2.heap.size := by omega
     have HR := Lib.hid (rcontains59_any (some ⟨b, o, none⟩) k cp (l.take k) w2 (by simp; omega) ((H.out.below hBw2).take k hk) (by simp; omega) l[k] wr.heap.size hq
      ((q 0).trans (by simp [go_sem])) ((q 1).trans (by simp [go_sem])) ((q 2).trans (by simp [go_sem])) ((q 3).trans (by simp [go_sem])) ((q 4).trans (by simp [go_sem])) ((q 5).trans (by simp [go_sem])))
     cases hany : (l.take k).any fun y => y.key l[k] with
     | true =>
      have HX := Lib.hid (HT.out.trans (hno.out.trans (by rw [HS.out, if_neg (by simpa using hz), if_pos hany])))
      rw [hany] at HR
      clear hany hz q
      refine HR.out.mono ?_
      rintro e w3 ⟨rfl, hb3⟩
      go_wp2_with fail
      go_ret
      exact ⟨by rw [HX.out]; rfl, hBw2.trans (hb3.mono hBw2.size)⟩
     | false =>
      have HX := Lib.hid (hno.out.trans (by rw [HS.out, if_neg (by simpa using hz), if_neg (by rw [hany]; exact Bool.false_ne_true)]))
      rw [hany] at HR
      clear hany hz q
      refine HR.out.mono ?_
      rintro e w3 ⟨rfl, hb3⟩
      go_wp2_with fail
      go_roundw
      case rel => exact ⟨k + 1, by omega, by go_num, hBw2.trans (hb3.mono hBw2.size), HX.out⟩
      case measure => simp [intOf]; omega
    ·have HC := Lib.hid (fun w => rchk_bad l[k] w hz)
     have HX := Lib.hid (HT.out.trans (hno.out.trans (by rw [HS.out, if_pos hz])))
     have HZ := Lib.hid hz
     clear hz
     generalize l[k].chk = q at *
     go_wp2_with (go_at_call 24; refine (HC.out _).mono ?_; rintro e w2 ⟨rfl, hbw2⟩; obtain ⟨hcw2, hfw2⟩ := bcell hbw2; have hzw2 := hbw2.size; (try simp at hzw2); have hBw2 := bstep (w := w) (by go_grown) hbw2; (try have : wa.heap.size < w2.heap.size := by omega); (try have : w.heap.size < w2.heap.size := by omega); (try have : w.heap.size + 1 < w2.heap.size := by omega); (try have : w.heap.size + 1 + 1 < w2.heap.size := by omega); (try have : w.heap.size + 1 + 1 + 1 < w2.heap.size := by omega))
     go_ret
     exact ⟨by rw [HX.out, errOf_ne HZ.out]; rfl, by go_grown⟩
   ·have HX := Lib.hid (HT.out.trans (hno.out.trans (by rw [List.drop_of_length_le (by omega)]; try rfl)))
    go_wp2_with fail
    go_ret
    exact ⟨by rw [HX.out]; rfl, hbel⟩
 ·have HT := Lib.hid (show tchk l = 4 by unfold tchk; rw [if_pos (by omega)])
  go_enter Tryz.func33, Tryz.ntmps33
  go_wp2_with fail
  go_ret
  exact ⟨by rw [HT.out]; rfl, Below.refl _ _⟩
theorem tcheck_ok (A : Option Addr) (cp : Nat) (l : List Rl) (w : World) (h : Rules w A cp l) (hz : tchk l = 0) : Calls Tryz.prog 33 #[.slice A l.length cp] w fun e w' => e = .returned .nilIface ∧ Below w.heap.size w w' :=
 (tcheck_any A cp l w h).mono fun _ _ ⟨he, hb⟩ => ⟨by rw [he, hz]; rfl, hb⟩
theorem tcheck_bad (A : Option Addr) (cp : Nat) (l : List Rl) (w : World) (h : Rules w A cp l) (hz : tchk l ≠ 0) : Calls Tryz.prog 33 #[.slice A l.length cp] w fun e w' => e = .returned (.iface 81 (.int .i64 (tchk l))) ∧ Below w.heap.size w w' :=
 (tcheck_any A cp l w h).mono fun _ _ ⟨he, hb⟩ => ⟨by rw [he, errOf_ne hz], hb⟩
open Go.RowKit
theorem Rl.ext_iff' (x y : Rl) : x = y ↔ x.p = y.p ∧ x.m = y.m ∧ x.b = y.b ∧ x.o = y.o ∧ x.s = y.s ∧ x.v = y.v := by
 cases x; cases y; simp
theorem run_eql_rule (x y : Rl) (w : World) : (binOp .eql 47 (.agg #[.int .i64 x.p, .int .i64 x.m, .int .i64 x.b, .int .i64 x.o, .int .i64 x.s, .int .i64 x.v]) (.agg #[.int .i64 y.p, .int .i64 y.m, .int .i64 y.b, .int .i64 y.o, .int .i64 y.s, .int .i64 y.v])).run Tryz.prog w = .ok (.bool (decide (x = y))) w := by
 rw [run_eql_struct]
 simp [go_sem]
 by_cases e : x = y
 ·subst e; simp
 ·rw [decide_eq_false e]
  have h := mt (Rl.ext_iff' x y).2 e
  (repeat' split) <;> first | rfl | (exfalso; simp_all)
set_option maxHeartbeats 800000 in
theorem tindex_any (A : Option Addr) (cp : Nat) (l : List Rl) (r : Rl) (w : World) (h : Rules w A cp l) (hl : l.length ≤ 4294967296) :
  Calls Tryz.prog 49 #[.slice A l.length cp, .agg #[.int .i64 r.p, .int .i64 r.m, .int .i64 r.b, .int .i64 r.o, .int .i64 r.s, .int .i64 r.v]] w fun e w' => e = .returned (.int .i64 (fidx (fun x => decide (r = x)) l)) ∧ Below w.heap.size w w' := by
 have H := Lib.hid h
 clear h
 go_enter Tryz.func49, Tryz.ntmps49
 go_wp2_with fail
 have hst : ∀ W, Below (w.heap.size + 1) (w.alloc (.cells #[.int .i64 r.p, .int .i64 r.m, .int .i64 r.b, .int .i64 r.o, .int .i64 r.s, .int .i64 r.v] 47)) W →
   W.cell? ⟨w.heap.size, 0, none⟩ = some (.int .i64 r.p) ∧ W.cell? ⟨w.heap.size, 1, none⟩ = some (.int .i64 r.m) ∧ W.cell? ⟨w.heap.size, 2, none⟩ = some (.int .i64 r.b) ∧ W.cell? ⟨w.heap.size, 3, none⟩ = some (.int .i64 r.o) ∧ W.cell? ⟨w.heap.size, 4, none⟩ = some (.int .i64 r.s) ∧ W.cell? ⟨w.heap.size, 5, none⟩ = some (.int .i64 r.v) := fun W hW =>
  have c := fun i => hW.cell (p := ⟨w.heap.size, i, none⟩) (by simp)
  ⟨(c 0).trans (by simp [go_sem]), (c 1).trans (by simp [go_sem]), (c 2).trans (by simp [go_sem]), (c 3).trans (by simp [go_sem]), (c 4).trans (by simp [go_sem]), (c 5).trans (by simp [go_sem])⟩
 have HST := Lib.hid hst
 clear hst
 go_loopw [8] (fun i wr => ∃ k : Nat, k ≤ l.length ∧ i = .int .i64 k ∧ Below (w.heap.size + 1) (w.alloc (.cells #[.int .i64 r.p, .int .i64 r.m, .int .i64 r.b, .int .i64 r.o, .int .i64 r.s, .int .i64 r.v] 47)) wr ∧ Hid (∀ j (hj : j < l.length), j < k → decide (r = l[j]) = false)) (fun i _ => l.length - (intOf i).toNat)
 case atStart => exact ⟨0, by omega, rfl, Below.refl _ _, fun j _ hj => absurd hj (by omega)⟩
 case round =>
  obtain ⟨k, hk, rfl, hbel, hno⟩ := hrel
  have hwr := hbel.size
  simp at hwr
  have hb0 : Below w.heap.size w wr := ((Below.refl _ _).alloc (Nat.le_refl _) _).trans (hbel.mono (by omega))
  by_cases hlt : k < l.length
  ·obtain ⟨b, o, rfl, hb, c0, c1, c2, c3, c4, c5⟩ := (H.out.below hb0).at_ hlt
   obtain ⟨d0, d1, d2, d3, d4, d5⟩ := HST.out wr hbel
   have i0 : (0 : Int) ≤ (k : Int) := by omega
   have i1 : (k : Int) < (l.length : Int) := by omega
   have hlw : w.heap.size < wr.heap.size := by omega
   have hrun := run_eql_rule r l[k]
   by_cases he : r = l[k]
   ·have HX := Lib.hid (fidx_found (p := fun x => decide (r = x)) hlt (decide_eq_true he) fun j hj => hno.out j (by omega) hj)
    rw [decide_eq_true he] at hrun
    clear he
    go_wp2_with fail
    refine wp_region_below (by kernel_rfl) (by kernel_rfl) ?_
    repeat (go_big_quiet_step (fail))
    refine wpQuiet_nil ?_
    intro w2 hb2
    go_wp2_with fail
    go_ret
    exact ⟨by rw [HX.out]; rfl, hb0.trans (hb2.mono (by omega))⟩
   ·have HX := Lib.hid (fun j (hj : j < l.length) (hjk : j < k + 1) => show decide (r = l[j]) = false from if e : j < k then hno.out j hj e else (by obtain rfl : j = k := (by omega); exact decide_eq_false he))
    rw [decide_eq_false he] at hrun
    clear he
    go_wp2_with fail
    refine wp_region_below (by kernel_rfl) (by kernel_rfl) ?_
    repeat (go_big_quiet_step (fail))
    refine wpQuiet_nil ?_
    intro w2 hb2
    go_wp2_with fail
    go_roundw
    case rel => exact ⟨k + 1, by omega, by go_num, hbel.trans (hb2.mono (by omega)), HX.out⟩
    case measure => simp [intOf]; omega
  ·have HX := Lib.hid (fidx_none (p := fun x => decide (r = x)) fun j hj => hno.out j hj (by omega))
   go_wp2_with fail
   go_ret
   exact ⟨by rw [HX.out]; rfl, hb0⟩
theorem el_rule : Elem Tryz.prog 58 47 6 48 := elem_of (z := .agg #[.int .i64 0, .int .i64 0, .int .i64 0, .int .i64 0, .int .i64 0, .int .i64 0]) Tryz.underlying58 (by kernel_rfl) rfl (by omega)
theorem rules_one (l : List Rl) : ∀ cs ∈ l.map Rl.cells, ∀ u ∈ cs, u.oneCell' = true := by
 intro cs hcs
 obtain ⟨x, -, rfl⟩ := List.mem_map.1 hcs
 simp [Rl.cells, Value.oneCell']
def RetRules (l : List Rl) (w : World) (e : Ending) (w' : World) : Prop := ∃ v, e = .returned v ∧ Owns w' w.heap.size 47 6 v (l.map Rl.cells) ∧ Below w.heap.size w w'
theorem Owns.rules {w : World} {base e : Nat} {v : Value} {l : List Rl} (h : Owns w base e 6 v (l.map Rl.cells)) : ∃ A c, v = .slice A l.length c ∧ Rules w A c l := by
 obtain ⟨A, c, rfl, hr⟩ := h.row
 rw [List.length_map] at hr ⊢
 exact ⟨A, c, rfl, hr⟩
theorem trun_nil (a : Option Addr) (n c : Nat) (w : World) : (binOp .eql 58 (.slice a n c) (.slice none 0 0)).run Tryz.prog w = .ok (.bool a.isNone) w := Lib.run_eql_slice_nil w _ _ a n c 0 0 Tryz.underlying58
set_option maxHeartbeats 400000 in
theorem tclone_any (A : Option Addr) (cp : Nat) (l : List Rl) (w : World) (h : Rules w A cp l) (hl : l.length ≤ 65536) :
  Calls Tryz.prog 34 #[.slice A l.length cp] w (RetRules l w) := by
 have H := Lib.hid h
 cases A with
 | none =>
  have hrun := trun_nil none 0 cp
  have h0 : l = [] := by
   rcases Nat.eq_zero_or_pos l.length with h0 | h0
   ·exact List.eq_nil_of_length_eq_zero h0
   ·obtain ⟨b, o, e, -⟩ := h.2.2.2 h0; cases e
  subst h0
  clear h
  show Calls Tryz.prog 34 #[.slice none 0 cp] w _
  go_enter Tryz.func34, Tryz.ntmps34
  simp only [Option.isNone] at hrun
  go_wp2_with fail
  go_ret
  exact ⟨_, rfl, Owns.nil_ _ _ _ _, by go_grown⟩
 | some a =>
  have hrun := trun_nil (some a) l.length cp
  clear h
  go_enter Tryz.func34, Tryz.ntmps34
  simp only [Option.isNone] at hrun
  go_wp2_with (at_builtin; refine wpList_extend el_rule rfl (.tmp 5) (.tmp 6) rfl w.heap.size _ [] rfl (Owns.made rfl rfl (Nat.le_refl _) rfl (by simp) (by simp [maxLen])) (some a) _ cp (l.map Rl.cells) rfl (H.out.below (by go_grown)) (rules_one _) ?c1 ?c2 ?c3 ?_)
  case c1 => simp [maxLen]; omega
  case c2 => simp; omega
  case c3 => simp
  intro v' w2 hO hB
  go_wp2_with fail
  go_ret
  exact ⟨_, rfl, by simpa using hO, ((Below.refl _ _).alloc (Nat.le_refl _) _).trans hB⟩
def zrule : List Value := List.replicate 6 (.int .i64 0)
theorem run_clear_rule (w : World) (ty : TypeId) (b o c : Nat) (hc : ∀ j, j < 6 → (w.cell? ⟨b, o + j, none⟩).isSome = true) (hf : ∀ j, j < 6 → w.frozen? ⟨b, o + j, none⟩ = false) :
  (Builtin.clear_ #[58] ty #[.slice (some ⟨b, o, none⟩) 1 c]).run Tryz.prog w = .ok (.tuple #[]) (w.setCells b o zrule) := by
 have hv : ∀ w, (zeroValue 47).run Tryz.prog w = .ok (.agg #[.int .i64 0, .int .i64 0, .int .i64 0, .int .i64 0, .int .i64 0, .int .i64 0]) w := by
  intro w
  have h : (Tryz.prog.info? 47).map (fun i => i.zero) = some (some (.agg #[.int .i64 0, .int .i64 0, .int .i64 0, .int .i64 0, .int .i64 0, .int .i64 0])) := by kernel_rfl
  obtain ⟨i, hi, hz⟩ := oM_ h
  simp [zeroValue, typeInfo, hi, hz]
 have hst := run_storeCells_cells (P := Tryz.prog) b o zrule 0 w (by simpa [zrule] using hc) (by simpa [zrule] using hf) (by intro v hv'; rw [List.eq_of_mem_replicate hv']; rfl)
 simp only [Nat.add_zero] at hst
 have hzc : (Builtin.zeroCells (Value.agg #[.int .i64 0, .int .i64 0, .int .i64 0, .int .i64 0, .int .i64 0, .int .i64 0]).cells 1).toList = zrule := by kernel_rfl
 simp [Builtin.clear_, run_underlying Tryz.underlying58, hv, hzc, hst]
theorem RowC.flat {w : World} {k g n c : Nat} {xs : List (List Value)} (h : RowC w k (some ⟨g, 0, none⟩) n c xs) (hk : 0 < k) : ∀ t u, xs.flatten[t]? = some u → w.cell? ⟨g, t, none⟩ = some u := by
 intro t u hu
 have hjl : t < xs.flatten.length := (gS_ hu).1
 rw [flatten_length h.2.2.1] at hjl
 have hq : t / k < xs.length := (Nat.div_lt_iff_lt_mul hk).2 hjl
 obtain ⟨b, o, e, hlt, hc⟩ := h.2.2.2 (h.1 ▸ Nat.lt_of_le_of_lt (Nat.zero_le _) hq)
 cases e
 have hcs := gE_ hq
 have hlen := h.2.2.1 _ (List.getElem_mem hq)
 have hr : t % k < xs[t / k].length := by rw [hlen]; exact Nat.mod_lt _ hk
 have he : t / k * k + t % k = t := by rw [Nat.mul_comm]; exact Nat.div_add_mod t k
 have h4 := flatten_at h.2.2.1 hcs (gE_ hr)
 rw [he, hu] at h4
 have h5 := hc _ _ hcs _ _ (gE_ hr)
 rw [← h4, Nat.zero_add, he] at h5
 exact h5
theorem RowC.ofFlat {w : World} {k g n c : Nat} {xs : List (List Value)} (hl : xs.length = n) (hn : n ≤ c) (hk : ∀ cs ∈ xs, cs.length = k) (hg : g < w.heap.size) (h : ∀ t u, xs.flatten[t]? = some u → w.cell? ⟨g, t, none⟩ = some u) : RowC w k (some ⟨g, 0, none⟩) n c xs :=
 ⟨hl, hn, hk, fun _ => ⟨g, 0, rfl, hg, fun i cs hi j u hu => by rw [Nat.zero_add]; exact h _ _ (flatten_at hk hi hu)⟩⟩
theorem cells6 (l : List Rl) : ∀ cs ∈ l.map Rl.cells, cs.length = 6 := by
 intro cs hcs
 obtain ⟨x, -, rfl⟩ := List.mem_map.1 hcs
 rfl
def rflat (l : List Rl) : List Value := (l.map Rl.cells).flatten
theorem rflat_length (l : List Rl) : (rflat l).length = l.length * 6 := by unfold rflat; rw [flatten_length (cells6 l), List.length_map]
theorem rflat_append (a b : List Rl) : rflat (a ++ b) = rflat a ++ rflat b := by simp [rflat]
open Go.RowKit
theorem wpList_append_in {P : Program} {w : World} {ops : Array Oper} {rest : List Oper} {o : Oper} {a : Act} {Q : Exit → Act → World → Prop} {t e k bytes : Nat} (el : Elem P t e k bytes) (hgd : o.guard = none) (s x : Operand)
  (ho : o.op = .call { callee := .builtin .append, args := #[s, x], argTypes := #[t, t] })
  (g off n cap : Nat) (hs : a.eval s = .slice (some ⟨g, off, none⟩) n cap) (ad : Addr) (m c : Nat) (news : List Value) (hx : a.eval x = .slice (some ad) m c) (hn : news.length = m * k)
  (hc : ∀ j u, news[j]? = some u → w.cell? (ad.add j) = some u) (h1 : ∀ u ∈ news, u.oneCell' = true) (hroom : n + m ≤ cap)
  (hspare : ∀ j, j < news.length → (w.cell? ⟨g, off + n * k + j, none⟩).isSome = true ∧ w.frozen? ⟨g, off + n * k + j, none⟩ = false)
  (h : wpList P ops Q rest (a.put o.dst (.slice (some ⟨g, off, none⟩) (n + m) cap)) (w.setCells g (off + n * k) news)) : wpList P ops Q (o :: rest) a w := by
 refine wpList_plain hgd fun K hK => ?_
 obtain ⟨i, z, hi, hz, hsize, hby, hzs⟩ := el.hi
 subst hsize
 have hr := run_append_room_cells (P := P) w t o.type e i el.ht hi g off n cap ad m c news hn hc h1 hroom (fun j hj => (hspare j hj).1) (fun j hj => (hspare j hj).2)
 unfold Oper.wp execOp
 simp only [ho, resolve, invoke, builtin, Sem.run_bind, Sem.run_pure, Result.andThen_ok, List.map_toArray, List.map_cons, List.map_nil, hs, hx, hr]
 exact hK _ _ h
set_option maxHeartbeats 2000000 in
theorem delete_world {g cp base i : Nat} {l : List Rl} {w : World} (hi : i < l.length) (hb : base ≤ g) (hg : g < w.heap.size) (h : Rules w (some ⟨g, 0, none⟩) cp l) (hfz : ∀ t, w.frozen? ⟨g, t, none⟩ = false) :
  ∃ (news : List Value), news.length = (l.length - (i + 1)) * 6 ∧ (∀ u ∈ news, u.oneCell' = true) ∧ (∀ j, j < news.length → (w.cell? ⟨g, 0 + i * 6 + j, none⟩).isSome = true ∧ w.frozen? ⟨g, 0 + i * 6 + j, none⟩ = false) ∧
   (∀ j u, news[j]? = some u → w.cell? ((⟨g, (i + 1) * 6, none⟩ : Addr).add j) = some u) ∧
   (∀ ty c, (Builtin.clear_ #[58] ty #[.slice (some ⟨g, (l.length - 1) * 6, none⟩) 1 c]).run Tryz.prog (w.setCells g (0 + i * 6) news) = .ok (.tuple #[]) ((w.setCells g (0 + i * 6) news).setCells g ((l.length - 1) * 6) zrule)) ∧
   Rules ((w.setCells g (0 + i * 6) news).setCells g ((l.length - 1) * 6) zrule) (some ⟨g, 0, none⟩) cp (l.eraseIdx i) ∧ Below base w ((w.setCells g (0 + i * 6) news).setCells g ((l.length - 1) * 6) zrule) ∧
   (∀ t, ((w.setCells g (0 + i * 6) news).setCells g ((l.length - 1) * 6) zrule).frozen? ⟨g, t, none⟩ = false) := by
 have hle := h.le
 have hflat := RowC.flat h (by omega)
 obtain ⟨news, hnews⟩ : ∃ news, news = rflat (l.drop (i + 1)) := ⟨_, rfl⟩
 have hlen : news.length = (l.length - (i + 1)) * 6 := by rw [hnews, rflat_length, List.length_drop]
 have hsplit : l = l.take (i + 1) ++ l.drop (i + 1) := by simp
 have hF : rflat l = rflat (l.take (i + 1)) ++ news := by rw [hnews, ← rflat_append, ← hsplit]
 have hl1 : (rflat (l.take (i + 1))).length = (i + 1) * 6 := by rw [rflat_length, List.length_take]; congr 1; omega
 have hsome : ∀ t, t < l.length * 6 → (w.cell? ⟨g, t, none⟩).isSome = true := by
  intro t ht
  have : t < (rflat l).length := by rw [rflat_length]; exact ht
  rw [hflat t _ (gE_ this)]; rfl
 have hsrc : ∀ t u, news[t]? = some u → w.cell? ((⟨g, (i + 1) * 6, none⟩ : Addr).add t) = some u := by
  intro t u hu
  rw [Addr.add_lit]
  refine hflat ((i + 1) * 6 + t) u ?_
  show (rflat l)[_]? = _
  rw [hF, List.getElem?_append_right (by omega), hl1, Nat.add_sub_cancel_left]
  exact hu
 have s2 : ∀ u ∈ news, u.oneCell' = true := by
  intro u hu
  rw [hnews] at hu
  obtain ⟨cs, hcs, hu⟩ := List.mem_flatten.1 hu
  exact rules_one _ cs hcs u hu
 have s3 : ∀ t, t < news.length → (w.cell? ⟨g, 0 + i * 6 + t, none⟩).isSome = true ∧ w.frozen? ⟨g, 0 + i * 6 + t, none⟩ = false := by
  intro t ht
  exact ⟨hsome _ (by omega), hfz _⟩
 have hcell1 : ∀ t, t < l.length * 6 → ((w.setCells g (0 + i * 6) news).cell? ⟨g, t, none⟩).isSome = true := by
  intro t ht; exact World.isSome_setCells g _ _ _ _ (hsome t ht)
 have hcl : ∀ ty c, (Builtin.clear_ #[58] ty #[.slice (some ⟨g, (l.length - 1) * 6, none⟩) 1 c]).run Tryz.prog (w.setCells g (0 + i * 6) news) = .ok (.tuple #[]) ((w.setCells g (0 + i * 6) news).setCells g ((l.length - 1) * 6) zrule) := fun ty c =>
  run_clear_rule _ ty g _ _ (fun j hj => hcell1 _ (by omega)) (fun j hj => by rw [World.frozen?_setCells]; exact hfz _)
 refine ⟨news, hlen, s2, s3, hsrc, hcl, ?_, below_setCells hb _ _ _ (below_setCells hb _ _ _ (Below.refl base w)), fun t => by rw [World.frozen?_setCells, World.frozen?_setCells]; exact hfz t⟩
 have hz6 : zrule.length = 6 := rfl
 have hl0 : (rflat (l.take i)).length = i * 6 := by rw [rflat_length, List.length_take]; congr 1; omega
 have hE : rflat (l.eraseIdx i) = rflat (l.take i) ++ news := by rw [List.eraseIdx_eq_take_drop_succ, rflat_append, hnews]
 have hF2 : ∀ t, t < i * 6 → (rflat l)[t]? = (rflat (l.take i))[t]? := by
  intro t ht
  have : rflat l = rflat (l.take i) ++ rflat (l.drop i) := by rw [← rflat_append, List.take_append_drop]
  rw [this, List.getElem?_append_left (by omega)]
 have hsz : g < ((w.setCells g (0 + i * 6) news).setCells g ((l.length - 1) * 6) zrule).heap.size := by
  have h1 := (below_setCells (B := g) (Nat.le_refl _) zrule ((l.length - 1) * 6) _ (below_setCells (Nat.le_refl _) news (0 + i * 6) _ (Below.refl g w))).size
  omega
 refine RowC.ofFlat (by rw [List.length_map]) (by rw [List.length_eraseIdx_of_lt hi]; omega) (cells6 _) hsz fun t u hu => ?_
 have htl : t < (rflat (l.eraseIdx i)).length := (gS_ hu).1
 rw [hE, List.length_append, hl0, hlen] at htl
 have hu' : (rflat (l.eraseIdx i))[t]? = some u := hu
 rw [hE] at hu'
 rw [World.cell?_setCells_out g _ _ _ _ (fun _ _ => Or.inl (by simp; omega))]
 by_cases ht : t < i * 6
 ·rw [World.cell?_setCells_out g _ _ _ _ (fun _ _ => Or.inl (by simp; omega))]
  rw [List.getElem?_append_left (by omega), ← hF2 t ht] at hu'
  exact hflat t u hu'
 ·rw [List.getElem?_append_right (by omega), hl0] at hu'
  obtain ⟨hj, hje⟩ := gS_ hu'
  have := World.cell?_setCells_in g news (0 + i * 6) w (fun j hj => (s3 j hj).1) (t - i * 6) hj
  rw [show 0 + i * 6 + (t - i * 6) = t by omega, hje] at this
  exact this
set_option maxHeartbeats 1600000 in
theorem tdelete_any (g cp base : Nat) (l : List Rl) (i : Nat) (hi : i < l.length) (w : World) (hb : base ≤ g) (hg : g < w.heap.size) (h : Rules w (some ⟨g, 0, none⟩) cp l) (hfz : ∀ t, w.frozen? ⟨g, t, none⟩ = false) (hl : l.length ≤ 65536) :
  Calls Tryz.prog 53 #[.slice (some ⟨g, 0, none⟩) l.length cp, .int .i64 i, .int .i64 (i + 1)] w fun e w' => e = .returned (.slice (some ⟨g, 0, none⟩) (l.length - 1) cp) ∧ Rules w' (some ⟨g, 0, none⟩) cp (l.eraseIdx i) ∧ Below base w w' := by
 have hle := h.le
 have H := Lib.hid h
 have HF := Lib.hid hfz
 clear h hfz
 have hn1 : ((i : Int) == (i : Int) + 1) = false := by rw [beq_eq_false_iff_ne]; omega
 go_enter Tryz.func53, Tryz.ntmps53
 go_wp2_with fail
 refine wp_region_tail 6 (by kernel_rfl) (by kernel_rfl) ?_; simp only [List.take_succ_cons, List.take_zero, List.drop_succ_cons, List.drop_zero]
 repeat (go_big_quiet_step (fail))
 refine wpQuiet_nil ?_
 intro w2 hb2
 have hsz := hb2.size
 have HW := Lib.hid (delete_world (base := base) (cp := cp) (g := g) (w := w2) hi hb (by omega) (H.out.below hb2) (fun t => (hb2.frozen (p := ⟨g, t, none⟩) hg).trans (HF.out t)))
 obtain ⟨news, hn, h1, hsp, hsrc, hcl, hR, hB, hFz⟩ := HW.out
 obtain ⟨A, hA, hA2⟩ : ∃ A : Addr, (if cp = i + 1 then (some ⟨g, 0, none⟩ : Option Addr) else some ⟨g, (i + 1) * 6, none⟩) = some A ∧ (∀ j u, news[j]? = some u → w2.cell? (A.add j) = some u) := by
  by_cases hc : cp = i + 1
  ·refine ⟨⟨g, 0, none⟩, by simp [hc], fun t u hu => ?_⟩
   have h0 : news.length = 0 := by rw [hn]; omega
   rw [List.length_eq_zero_iff.1 h0] at hu
   simp at hu
  ·exact ⟨⟨g, (i + 1) * 6, none⟩, by simp [hc], hsrc⟩
 have hlen : i + (l.length - (i + 1)) = l.length - 1 := by omega
 refine wpList_append_in el_rule rfl (.tmp 22) (.tmp 25) rfl g 0 i cp rfl A (l.length - (i + 1)) (cp - (i + 1)) news (by rw [← hA]; rfl) hn hA2 h1 (by omega) hsp ?_
 rw [hlen]
 have HC := Lib.hid hcl
 have HR := Lib.hid hR
 have HB := Lib.hid (hb2.mono (Nat.le_trans hb (Nat.le_of_lt hg)) |>.trans hB)
 clear hcl hR hB hFz hsp hsrc h1 hn hA2 hA HW hlen
 generalize w2.setCells g (0 + i * 6) news = W1 at *
 have h1 : l.length - (l.length - 1) = 1 := by omega
 have hcl : ∀ ty c, (Builtin.clear_ #[58] ty #[.slice (some ⟨g, (l.length - 1) * 6, none⟩) (l.length - (l.length - 1)) c]).run Tryz.prog W1 = .ok (.tuple #[]) (W1.setCells g ((l.length - 1) * 6) zrule) := fun ty c => by rw [h1]; exact HC.out ty c
 clear h1
 go_wp2_with fail
 all_goals go_ret
 all_goals first | exact ⟨rfl, HR.out, HB.out⟩ | (have h : cp = i + 1 := (by assumption); subst h; exact ⟨rfl, HR.out, HB.out⟩)
open Go.RowKit
def Ext (w w' : World) : Prop := Below w.heap.size w w'
theorem Ext.refl (w : World) : Ext w w := Below.refl _ _
theorem Ext.trans {a b c : World} (h : Ext a b) (k : Ext b c) : Ext a c := Below.trans h (k.mono h.size)
abbrev LSpec := (Value → Prop) × (Value → World → Prop)
abbrev KL := Act → (World → Prop) → Prop
def MonoF (F : World → Prop) : Prop := ∀ w w', F w → Ext w w' → F w'
def AntiK (K : KL) : Prop := ∀ a F F', (∀ w, F' w → F w) → K a F → K a F'
def looseUpon (P : Program) (w : World) (S : Value → Prop) (R : Value → World → Prop) : Result Next → Prop
 | .ok (.value u) w' => S u ∧ R u w' ∧ Ext w w'
 | .ok (.enter f args) w' => w' = w ∧ Calls P f args w (fun e w'' => ∃ u, e = .returned u ∧ S u ∧ R u w'' ∧ Ext w w'')
 | _ => False
def plainOp : Op → Bool
 | .move _ | .assign _ | .pick .. | .load .. | .binOp .. | .unOp .. | .convert .. | .makeInterface .. | .makeFunc .. | .slice .. | .fieldAddr .. | .field .. | .indexAddr .. | .index .. | .lookup .. | .extract .. => true
 | .call { callee := .builtin .len, .. } => true
 | _ => false
theorem run_v {P : Program} {s : Sem Value} {w w' : World} {n : Next} (h : Sem.run P (do pure (Next.value (← s)) : Sem Next) w = .ok n w') : ∃ u, n = .value u := by
 rw [Sem.run_bind] at h
 cases hs : s.run P w with
 | ok u w1 => rw [hs] at h; simp only [Result.andThen_ok, Sem.run_pure, Result.ok.injEq] at h; exact ⟨u, h.1.symm⟩
 | halt x w1 => rw [hs] at h; simp [Result.andThen] at h
theorem plain_call {P : Program} {ρ : Operand → Value} {c : Call} {ty : TypeId} (ho : plainOp (.call c) = true) {w w' : World} {n : Next} (h : Sem.run P (do let d ← resolve ρ c ty; invoke d.target d.args) w = .ok n w') : ∃ u, n = .value u := by
 obtain ⟨callee, args, tys⟩ := c
 cases callee with
 | value f => exact absurd ho (by simp [plainOp])
 | invoke r m => exact absurd ho (by simp [plainOp])
 | builtin b =>
  cases b <;> first
   | (simp only [plainOp, Bool.false_eq_true] at ho; done)
   | (simp only [resolve, invoke, builtin, Sem.run_bind, Sem.run_pure, Result.andThen_ok] at h
      cases hs : Sem.run P (Builtin.len_ tys ty (Array.map ρ args)) w with
      | ok u w1 => rw [hs] at h; simp only [Result.andThen_ok, Result.ok.injEq] at h; exact ⟨u, h.1.symm⟩
      | halt x w1 => rw [hs] at h; simp [Result.andThen] at h)
theorem plain_value {P : Program} {a : Act} {o : Oper} (ho : plainOp o.op = true) {w w' : World} {n : Next} (h : (execOp a.eval o).run P w = .ok n w') : ∃ u, n = .value u := by
 unfold execOp at h
 obtain ⟨dst, op, ty, pos, after, guard⟩ := o
 cases op
 case call c => exact plain_call ho h
 case pick c x y =>
  simp only [Sem.run_bind] at h
  cases hs : (asBool (a.eval c)).run P w with
  | ok u w1 => rw [hs] at h; simp only [Result.andThen_ok, Sem.run_pure, Result.ok.injEq] at h; exact ⟨_, h.1.symm⟩
  | halt x w1 => rw [hs] at h; simp [Result.andThen] at h
 all_goals first
  | (simp only [plainOp, Bool.false_eq_true] at ho; done)
  | exact run_v h
  | (simp only [Sem.run_pure, Result.ok.injEq] at h; exact ⟨_, h.1.symm⟩)
section
variable {P : Program} {ops : Array Oper} {md : Region.Mode} {w0 : World} {T : Nat → Option LSpec}
def lOp (P : Program) (ops : Array Oper) (w0 : World) (T : Nat → Option LSpec) (i : Nat) (K : KL) : KL := fun a F =>
 match ops[i]? with
 | none => K a F
 | some o =>
  if Region.wanted o (yielded ops a.tmps) then
   match T i with
   | none => plainOp o.op = true ∧ ∃ v, (∀ w, Ext w0 w → o.quietAt P a (fun _ => True) w v) ∧ K (a.put o.dst v) F
   | some sr => (∀ w, Ext w0 w → looseUpon P w sr.1 sr.2 ((execOp a.eval o).run P w)) ∧ ∀ v, sr.1 v → K (a.put o.dst v) (fun w => F w ∧ sr.2 v w)
  else K (a.put o.dst undef) F
def YL (P : Program) (ops : Array Oper) (w0 : World) (T : Nat → Option LSpec) (i : Nat) (o : Oper) (a : Act) (S : Value → Prop) (R : Value → World → Prop) : Prop :=
 (Region.wanted o (yielded ops a.tmps) = true ∧ T i = none ∧ plainOp o.op = true ∧ ∃ v, S = (· = v) ∧ R = (fun _ _ => True) ∧ ∀ w, Ext w0 w → o.quietAt P a (fun _ => True) w v) ∨
 (Region.wanted o (yielded ops a.tmps) = true ∧ T i = some (S, R) ∧ ∀ w, Ext w0 w → looseUpon P w S R ((execOp a.eval o).run P w)) ∨
 (Region.wanted o (yielded ops a.tmps) = false ∧ S = (· = undef) ∧ R = fun _ _ => True)
theorem YL.lOp {i : Nat} {o : Oper} {a : Act} {S : Value → Prop} {R : Value → World → Prop} {K : KL} {F : World → Prop} (hi : ops[i]? = some o) (hK : AntiK K) (h : YL P ops w0 T i o a S R)
  (H : ∀ v, S v → K (a.put o.dst v) (fun w => F w ∧ R v w)) : Proofs.YtgkohnjpnnofhaaGreat.lOp P ops w0 T i K a F := by
 unfold Proofs.YtgkohnjpnnofhaaGreat.lOp
 simp only [hi]
 rcases h with ⟨hw, hT, hp, v, rfl, rfl, hv⟩ | ⟨hw, hT, hv⟩ | ⟨hw, rfl, rfl⟩
 ·simp only [hw, if_true, hT]
  exact ⟨hp, v, hv, hK _ _ _ (fun _ h => ⟨h, trivial⟩) (H v rfl)⟩
 ·simp only [hw, if_true, hT]
  exact ⟨hv, H⟩
 ·simp only [hw, Bool.false_eq_true, if_false]
  exact hK _ _ _ (fun _ h => ⟨h, trivial⟩) (H _ rfl)
theorem YL_of {i : Nat} {o : Oper} {a : Act} {K : KL} {F : World → Prop} (hi : ops[i]? = some o) (hK : AntiK K) (h : lOp P ops w0 T i K a F) :
  ∃ S R, YL P ops w0 T i o a S R ∧ ∀ v, S v → K (a.put o.dst v) (fun w => F w ∧ R v w) := by
 unfold lOp at h
 simp only [hi] at h
 by_cases hw : Region.wanted o (yielded ops a.tmps) = true
 ·simp only [hw, if_true] at h
  cases hT : T i with
  | none =>
   simp only [hT] at h
   obtain ⟨hp, v, hv, hk⟩ := h
   exact ⟨_, _, .inl ⟨hw, hT, hp, v, rfl, rfl, hv⟩, fun u hu => by subst hu; exact hK _ _ _ (fun _ h => h.1) hk⟩
  | some sr =>
   simp only [hT] at h
   obtain ⟨S, R⟩ := sr
   exact ⟨S, R, .inr (.inl ⟨hw, hT, h.1⟩), h.2⟩
 ·simp only [hw] at h
  exact ⟨_, _, .inr (.inr ⟨by simpa using hw, rfl, rfl⟩), fun u hu => by subst hu; exact hK _ _ _ (fun _ h => h.1) h⟩
theorem YL.of_same {i : Nat} {o : Oper} {a a' : Act} {S : Value → Prop} {R : Value → World → Prop} (h : YL P ops w0 T i o a S R) (he : execOp a'.eval o = execOp a.eval o)
  (hw : Region.wanted o (yielded ops a'.tmps) = Region.wanted o (yielded ops a.tmps)) : YL P ops w0 T i o a' S R := by
 unfold YL Oper.quietAt at *
 rw [he, hw]
 exact h
theorem YL.some_ {i : Nat} {o : Oper} {a : Act} {S : Value → Prop} {R : Value → World → Prop} (h : YL P ops w0 T i o a S R) : ∃ v, S v := by
 rcases h with ⟨_, _, _, v, rfl, _⟩ | ⟨_, _, h⟩ | ⟨_, rfl, _⟩
 ·exact ⟨v, rfl⟩
 ·have h1 := h w0 (Ext.refl _)
  generalize (execOp a.eval o).run P w0 = r at h1
  cases r with
  | ok n w' =>
   cases n <;> simp only [looseUpon] at h1
   case value u => exact ⟨u, h1.1⟩
   case enter f args =>
    obtain ⟨_, hc⟩ := h1
    obtain ⟨e, w2, fr, ⟨u, _, hS, _⟩, _⟩ := hc []
    exact ⟨u, hS⟩
  | halt x w' => simp only [looseUpon] at h1
 ·exact ⟨_, rfl⟩
theorem quietAt_one {o : Oper} {a : Act} {w : World} {u v : Value} (hp : plainOp o.op = true) (h1 : o.quietAt P a (fun _ => True) w u) (h2 : o.quietAt P a (fun _ => True) w v) : u = v := by
 unfold Oper.quietAt at h1 h2
 cases hr : (execOp a.eval o).run P w with
 | ok n w' =>
  obtain ⟨x, rfl⟩ := plain_value hp hr
  rw [hr] at h1 h2
  exact h1.2.symm.trans h2.2
 | halt x w' => rw [hr] at h1; exact h1.elim
theorem lOp_put {i j : Nat} {oi oj : Oper} (hj : ops[j]? = some oj) (hap : oi.apart ops oj = true)
  (hsi : ∀ cs b, oi.op ≠ .select cs b) (hsj : ∀ cs b, oj.op ≠ .select cs b) {K : KL} (hK : AntiK K) {a : Act} {F : World → Prop} {S : Value → Prop} {R : Value → World → Prop}
  (hy : YL P ops w0 T i oi a S R) (h : ∀ v, S v → lOp P ops w0 T j K (a.put oi.dst v) (fun w => F w ∧ R v w)) :
  lOp P ops w0 T j (fun a' F' => YL P ops w0 T i oi a' S R ∧ ∀ v, S v → K (a'.put oi.dst v) (fun w => F' w ∧ R v w)) a F := by
 obtain ⟨h1, h2, h3⟩ := Oper.apart_spec hap
 have keep : ∀ u, YL P ops w0 T i oi (a.put oj.dst u) S R := fun u => hy.of_same (execOp_put oi hsi a oj.dst u h3) (wanted_put oi a oj.dst u h3)
 obtain ⟨v0, hv0⟩ := hy.some_
 have hex : ∀ v, execOp (a.put oi.dst v).eval oj = execOp a.eval oj := fun v => execOp_put oj hsj a oi.dst v h1
 unfold lOp at *
 simp only [hj, wanted_put oj a oi.dst _ h1] at *
 by_cases hw : Region.wanted oj (yielded ops a.tmps) = true
 ·simp only [hw, if_true] at *
  cases hT : T j with
  | none =>
   simp only [hT] at *
   obtain ⟨hp, u, hu, _⟩ := h v0 hv0
   refine ⟨hp, u, fun w hw' => ?_, keep u, fun v hv => ?_⟩
   ·have := hu w hw'
    unfold Oper.quietAt at *
    rwa [hex] at this
   ·obtain ⟨_, u', hu', hk⟩ := h v hv
    have e : u' = u := by
     refine quietAt_one (P := P) (o := oj) (a := a) (w := w0) hp ?_ ?_
     ·have := hu' w0 (Ext.refl _)
      unfold Oper.quietAt at *
      rwa [hex] at this
     ·have := hu w0 (Ext.refl _)
      unfold Oper.quietAt at *
      rwa [hex] at this
    subst e
    rw [← Act.put_comm a v u' h2]
    exact hk
  | some sr =>
   simp only [hT] at *
   refine ⟨fun w hw' => ?_, fun u hu => ⟨keep u, fun v hv => ?_⟩⟩
   ·have := (h v0 hv0).1 w hw'
    rwa [hex] at this
   ·have := (h v hv).2 u hu
    rw [← Act.put_comm a v u h2]
    exact hK _ _ _ (fun _ h => ⟨⟨h.1.1, h.2⟩, h.1.2⟩) this
 ·simp only [hw] at *
  refine ⟨keep _, fun v hv => ?_⟩
  rw [← Act.put_comm a v undef h2]
  exact h v hv
theorem lOp_mono {i : Nat} {K K' : KL} (h : ∀ a F, K a F → K' a F) {a : Act} {F : World → Prop} (hh : lOp P ops w0 T i K a F) : lOp P ops w0 T i K' a F := by
 unfold lOp at *
 cases ho : ops[i]? with
 | none => simp only [ho] at *; exact h _ _ hh
 | some o =>
  simp only [ho] at *
  by_cases hw : Region.wanted o (yielded ops a.tmps) = true
  ·simp only [hw, if_true] at *
   cases hT : T i with
   | none => simp only [hT] at *; exact ⟨hh.1, hh.2.choose, hh.2.choose_spec.1, h _ _ hh.2.choose_spec.2⟩
   | some sr => simp only [hT] at *; exact ⟨hh.1, fun v hv => h _ _ (hh.2 v hv)⟩
  ·simp only [hw] at *; exact h _ _ hh
theorem lOp_anti {i : Nat} {K : KL} (hK : AntiK K) : AntiK (lOp P ops w0 T i K) := by
 intro a F F' hF hh
 unfold lOp at *
 cases ho : ops[i]? with
 | none => simp only [ho] at *; exact hK _ _ _ hF hh
 | some o =>
  simp only [ho] at *
  by_cases hw : Region.wanted o (yielded ops a.tmps) = true
  ·simp only [hw, if_true] at *
   cases hT : T i with
   | none => simp only [hT] at *; exact ⟨hh.1, hh.2.choose, hh.2.choose_spec.1, hK _ _ _ hF hh.2.choose_spec.2⟩
   | some sr => simp only [hT] at *; exact ⟨hh.1, fun v hv => hK _ _ _ (fun w h => ⟨hF w h.1, h.2⟩) (hh.2 v hv)⟩
  ·simp only [hw] at *; exact hK _ _ _ hF hh
def headL (P : Program) (md : Region.Mode) (ops : Array Oper) (w0 : World) (T : Nat → Option LSpec) (n : Nat) (L : Array Bool → KL) : Nat → Array Bool → KL
 | 0, listed, a, F => L listed a F
 | f + 1, listed, a, F => Region.ready md ops listed ≠ [] ∧ ∀ i ∈ Region.ready md ops listed, i < n ∧ lOp P ops w0 T i (headL P md ops w0 T n L f (listed.setIfInBounds i true)) a F
theorem headL_anti {n : Nat} {L : Array Bool → KL} (hL : ∀ listed, AntiK (L listed)) : ∀ f listed, AntiK (headL P md ops w0 T n L f listed)
 | 0, listed => hL listed
 | f + 1, listed => fun a F F' hF h => ⟨h.1, fun i hi => ⟨(h.2 i hi).1, lOp_anti (headL_anti hL f _) a F F' hF (h.2 i hi).2⟩⟩
theorem headL_first {n i : Nat} {oi : Oper} {S : Value → Prop} {R : Value → World → Prop} {L : Array Bool → KL} (hLA : ∀ listed, AntiK (L listed)) (hi : ops[i]? = some oi) (hsel : ∀ (j : Nat) (o : Oper) cs b, ops[j]? = some o → o.op ≠ .select cs b)
  (hlow : ∀ listed, HeadInv md ops n listed → listed.getD i true = false → ∀ j ∈ Region.ready md ops listed, j < n) (hdone : ∀ listed a F, L listed a F → ∀ j ∈ Region.ready md ops listed, n ≤ j) :
  ∀ (f : Nat) (listed : Array Bool) (a : Act) (F : World → Prop), HeadInv md ops n listed →
   (∀ j oj, ops[j]? = some oj → j ≠ i → listed.getD j true = false → (∀ e ∈ oj.after, Region.binds md e = true → e.on ≠ i) → oi.apart ops oj = true) →
   i ∈ Region.ready md ops listed → YL P ops w0 T i oi a S R →
   (∀ v, S v → headL P md ops w0 T n L f (listed.setIfInBounds i true) (a.put oi.dst v) (fun w => F w ∧ R v w)) → headL P md ops w0 T n L (f + 1) listed a F := by
 intro f
 induction f with
 | zero =>
  intro listed a F inv _ hr hy H
  have hun := (mem_ready.1 hr).1
  have hlow : ∀ j ∈ Region.ready md ops listed, j < n := hlow listed inv hun
  refine ⟨fun h => (by rw [h] at hr; cases hr), fun j hj => ⟨hlow j hj, ?_⟩⟩
  by_cases hji : j = i
  ·subst hji; exact hy.lOp hi (headL_anti hLA _ _) H
  ·obtain ⟨v, hv⟩ := hy.some_
   have := hdone _ _ _ (H v hv) j (ready_mono hj hji)
   have := hlow j hj
   omega
 | succ f ih =>
  intro listed a F inv hfree hr hy H
  have hun := (mem_ready.1 hr).1
  have hlow : ∀ j ∈ Region.ready md ops listed, j < n := hlow listed inv hun
  refine ⟨fun h => (by rw [h] at hr; cases hr), fun j hj => ⟨hlow j hj, ?_⟩⟩
  by_cases hji : j = i
  ·subst hji; exact hy.lOp hi (headL_anti hLA _ _) H
  ·obtain ⟨hjun, oj, hoj, hall⟩ := mem_ready.1 hj
   have hnot : ∀ e ∈ oj.after, Region.binds md e = true → e.on ≠ i := fun e he hb heq => by
    have h1 := hall e he hb
    rw [heq, getD_both hun] at h1
    cases h1
   refine lOp_mono (fun a' F' h3 => ih (listed.setIfInBounds j true) a' F' (inv.set hj (hlow j hj)) (fun k ok hk hki hk2 hk3 => ?_) (ready_mono hr (Ne.symm hji)) h3.1 ?_)
    (lOp_put hoj (hfree j oj hoj hji hjun hnot) (fun cs b => hsel i oi cs b hi) (fun cs b => hsel j oj cs b hoj) (headL_anti hLA _ _) hy (fun v hv => ((H v hv).2 j (ready_mono hj hji)).2))
   ·refine hfree k ok hk hki ?_ hk3
    by_cases hjk : j = k
    ·subst hjk; exact hjun
    ·rw [getD_set_ne true hjk] at hk2; exact hk2
   ·intro v hv
    rw [Array.setIfInBounds_comm _ _ hji]
    exact h3.2 v hv
def wpL (P : Program) (ops : Array Oper) (w0 : World) (T : Nat → Option LSpec) (Q : KL) : List Oper → Nat → KL
 | [], _, a, F => Q a F
 | o :: rest, k, a, F =>
  if Region.wanted o (yielded ops a.tmps) then
   match T k with
   | none => plainOp o.op = true ∧ ∃ v, (∀ w, Ext w0 w → o.quietAt P a (fun _ => True) w v) ∧ wpL P ops w0 T Q rest (k + 1) (a.put o.dst v) F
   | some sr => (∀ w, Ext w0 w → looseUpon P w sr.1 sr.2 ((execOp a.eval o).run P w)) ∧ ∀ v, sr.1 v → wpL P ops w0 T Q rest (k + 1) (a.put o.dst v) (fun w => F w ∧ sr.2 v w)
  else wpL P ops w0 T Q rest (k + 1) (a.put o.dst undef) F
theorem wpL_anti {Q : KL} (hQ : AntiK Q) : ∀ l k, AntiK (wpL P ops w0 T Q l k)
 | [], _ => hQ
 | o :: rest, k => fun a F F' hF h => by
  unfold wpL at *
  by_cases hw : Region.wanted o (yielded ops a.tmps) = true
  ·simp only [hw, if_true] at *
   cases hT : T k with
   | none => simp only [hT] at *; exact ⟨h.1, h.2.choose, h.2.choose_spec.1, wpL_anti hQ rest _ _ _ _ hF h.2.choose_spec.2⟩
   | some sr => simp only [hT] at *; exact ⟨h.1, fun v hv => wpL_anti hQ rest _ _ _ _ (fun w h => ⟨hF w h.1, h.2⟩) (h.2 v hv)⟩
  ·simp only [hw] at *; exact wpL_anti hQ rest _ _ _ _ hF h
theorem headL_lex {n g : Nat} {Lq : KL} (hLq : AntiK Lq) (hsel : Region.noSelect ops = true) (hlow : ∀ i, i < n → ∀ listed, HeadInv md ops n listed → listed.getD i true = false → ∀ j ∈ Region.ready md ops listed, j < n) :
  ∀ (l : List Oper) (k : Nat) (listed : Array Bool) (a : Act) (F : World → Prop), (∀ j, j < l.length → l[j]? = ops[k + j]?) → k + l.length = n → HeadInv md ops n listed →
  Region.lexHead md ops g l.length k listed = true → wpL P ops w0 T Lq l k a F → headL P md ops w0 T n (fun listed' a' F' => Region.seqB md ops g n listed' = true ∧ Lq a' F') l.length listed a F
 | [], k, listed, a, F, _, hk, _, hB, h => by
  obtain rfl : k = n := by simpa using hk
  exact ⟨by simpa [Region.lexHead] using hB, h⟩
 | o :: l, k, listed, a, F, hl, hk, inv, hB, h => by
  have h0 : ops[k]? = some o := by simpa using (hl 0 (by simp)).symm
  simp only [List.length_cons, Region.lexHead, Bool.and_eq_true] at hB
  obtain ⟨⟨hr, hf⟩, hB'⟩ := hB
  have hkn : k < n := by simp only [List.length_cons] at hk; omega
  have hr' : k ∈ Region.ready md ops listed := by simpa using hr
  have hst : lOp P ops w0 T k (wpL P ops w0 T Lq l (k + 1)) a F := by unfold lOp; simp only [h0]; exact h
  obtain ⟨S, R, hy, hK⟩ := YL_of h0 (wpL_anti hLq _ _) hst
  exact headL_first (fun listed a F F' hF h => ⟨h.1, hLq a F F' hF h.2⟩) h0 (Region.noSelect_spec hsel) (hlow k hkn) (fun listed' a' F' hL => seqB_ready hL.1) l.length listed a F inv (Region.free_spec h0 hf) hr' hy
   (fun v hv => headL_lex hLq hsel hlow l (k + 1) _ _ _ (fun j hj => by have := hl (j + 1) (by simp; omega); simpa [Nat.add_assoc, Nat.add_comm 1 j] using this) (by simp only [List.length_cons] at hk; omega) (inv.set hr' hkn) hB' (hK v hv))
def MonoT (T : Nat → Option LSpec) : Prop := ∀ i sr, T i = some sr → ∀ v w w', sr.2 v w → Ext w w' → sr.2 v w'
theorem wpOp_of_lOp {i : Nat} {a : Act} {F : World → Prop} {w : World} {K : KL} {K' : Act → World → Prop} {Q' : Exit → Act → World → Prop} (hT : MonoT T) (hM : MonoF F) (hw0 : Ext w0 w) (hF : F w)
  (h : ∀ a' F' w', MonoF F' → Ext w0 w' → F' w' → K a' F' → K' a' w') (hh : lOp P ops w0 T i K a F) : wpOp P ops Q' i K' a w := by
 unfold lOp at hh
 unfold wpOp
 cases ho : ops[i]? with
 | none => simp only [ho] at *; exact h _ _ _ hM hw0 hF hh
 | some o =>
  simp only [ho] at *
  by_cases hw : Region.wanted o (yielded ops a.tmps) = true
  ·simp only [hw, if_true] at *
   refine .inl ?_
   cases hTi : T i with
   | none =>
    simp only [hTi] at hh
    obtain ⟨hp, v, hv, hk⟩ := hh
    have h1 := hv w hw0
    unfold Oper.quietAt at h1
    unfold Oper.wp
    cases hr : (execOp a.eval o).run P w with
    | ok n w' =>
     obtain ⟨x, rfl⟩ := plain_value hp hr
     rw [hr] at h1
     obtain ⟨e1, e2⟩ := h1
     subst e1 e2
     exact h _ _ _ hM hw0 hF hk
    | halt x w' => rw [hr] at h1; exact h1.elim
   | some sr =>
    simp only [hTi] at hh
    obtain ⟨h1, hk⟩ := hh
    have h1 := h1 w hw0
    unfold Oper.wp
    have hMM : ∀ v, MonoF (fun w => F w ∧ sr.2 v w) := fun v x y hx hxy => ⟨hM x y hx.1 hxy, hT i sr hTi v x y hx.2 hxy⟩
    cases hr : (execOp a.eval o).run P w with
    | ok n w' =>
     rw [hr] at h1
     cases n <;> simp only [looseUpon] at h1 <;> simp only [Oper.upon]
     case value u =>
      obtain ⟨hS, hR, hE⟩ := h1
      exact h _ _ _ (hMM u) (hw0.trans hE) ⟨hM _ _ hF hE, hR⟩ (hk u hS)
     case enter f args =>
      obtain ⟨e1, hc⟩ := h1
      subst e1
      exact hc.mono fun e w'' ⟨u, he, hS, hR, hE⟩ => by subst he; exact h _ _ _ (hMM u) (hw0.trans hE) ⟨hM _ _ hF hE, hR⟩ (hk u hS)
    | halt x w' => rw [hr] at h1; simp only [looseUpon] at h1
  ·simp only [hw] at *; exact h _ _ _ hM hw0 hF hh
theorem wpAny_of_headL {n g : Nat} {L : Array Bool → KL} {Q' : Exit → Act → World → Prop} (hT : MonoT T) (hL : ∀ listed a F w, Ext w0 w → F w → L listed a F → wpAny P md ops Q' g listed a w) :
  ∀ (f : Nat) (listed : Array Bool) (a : Act) (F : World → Prop) (w : World), MonoF F → Ext w0 w → F w → headL P md ops w0 T n L f listed a F → wpAny P md ops Q' (f + g) listed a w
 | 0, listed, a, F, w, _, hw, hF, h => by rw [Nat.zero_add]; exact hL _ _ _ _ hw hF h
 | f + 1, listed, a, F, w, hM, hw, hF, h => by
  rw [show f + 1 + g = (f + g) + 1 by omega]
  exact ⟨fun h0 => absurd h0 h.1, fun i hi => wpOp_of_lOp hT hM hw hF (fun a' F' w' hM' hw' hF' h' => wpAny_of_headL hT hL f _ a' F' w' hM' hw' hF' h') (h.2 i hi).2⟩
def looseB (ops : Array Oper) (n : Nat) : Bool :=
 Region.noSelect ops && ((decide (n < ops.size) && Region.sinkB .any ops n && Region.chainB .any ops n) || decide (n = ops.size)) && Region.lexHead .any ops (ops.size - n) n 0 (Array.replicate ops.size false)
theorem wp_region_loose {id : Nat} {Q : Exit → Act → World → Prop} {a : Act} {w : World} {l : List Oper} (n : Nat) (T : Nat → Option LSpec) (hT : MonoT T) (hm : P.follows .mixedOrders = true) (hB : looseB l.toArray n = true)
  (h : wpL P l.toArray w T (fun a' F => ∀ w', Below w.heap.size w w' → F w' → wpList P l.toArray Q (l.drop n) a' w') (l.take n) 0 a (fun _ => True)) : (Code.region id l.toArray true).wp P Q a w := by
 unfold looseB at hB
 simp only [Bool.and_eq_true, Bool.or_eq_true, decide_eq_true_eq] at hB
 obtain ⟨⟨hsel, hn⟩, hlex⟩ := hB
 have hn' : n ≤ l.length := by rcases hn with h | h <;> simp at h <;> omega
 have hlow : ∀ i, i < n → ∀ listed, HeadInv .any l.toArray n listed → listed.getD i true = false → ∀ j ∈ Region.ready .any l.toArray listed, j < n := by
  intro i hi listed inv hun j hj
  rcases hn with ⟨⟨hn1, hs⟩, hch⟩ | hn1
  ·exact Nat.lt_of_not_le fun h => tail_waits hs hch hn1 inv _ i rfl hi hun j h hj
  ·rw [hn1]
   obtain ⟨_, oj, hoj, _⟩ := mem_ready.1 hj
   exact (Array.getElem?_eq_some_iff.1 hoj).1
 have htl : (l.take n).length = n := by simp; omega
 have hdl : (l.drop n).length = l.toArray.size - n := by simp
 have inv0 : HeadInv .any l.toArray n (Array.replicate l.toArray.size false) :=
  ⟨by simp, fun j oj _ hl => (by rw [getD_replicate_false] at hl; cases hl), fun t _ ht => getD_in (by simpa using ht) (getD_replicate_false _ _)⟩
 have hA : AntiK (fun a' F => ∀ w', Below w.heap.size w w' → F w' → wpList P l.toArray Q (l.drop n) a' w') := fun a F F' hF h w' hb hF' => h w' hb (hF w' hF')
 have H := headL_lex (md := .any) (g := l.toArray.size - n) hA hsel hlow (l.take n) 0 _ a _ (fun j hj => by
  have hj' : j < n := by rw [htl] at hj; exact hj
  simp [hj']) (by simpa using htl) inv0 (by rw [htl]; exact hlex) h
 refine wp_region_any hm ?_
 have hL : ∀ (listed : Array Bool) (a' : Act) (F : World → Prop) (w' : World), Ext w w' → F w' → (Region.seqB .any l.toArray (l.toArray.size - n) n listed = true ∧ ∀ w', Below w.heap.size w w' → F w' → wpList P l.toArray Q (l.drop n) a' w') → wpAny P .any l.toArray Q (l.toArray.size - n) listed a' w' := fun listed a' F w' hw hF hL => by
  have := wpAny_of_seq (md := .any) (Q' := Q) (l.drop n) n listed a' w' (fun j => by simp [List.getElem?_drop]) (by rw [hdl]; exact hL.1) (hL.2 _ hw hF)
  rwa [hdl] at this
 have := wpAny_of_headL hT hL _ _ _ _ { w with drawn := w.drawn + 1 } (fun _ _ _ _ => trivial) ⟨rfl, rfl, rfl, Nat.le_refl _, fun _ _ => rfl⟩ trivial H
 rw [htl, show n + (l.toArray.size - n) = l.toArray.size by omega] at this
 exact this
theorem wpL_nil {Q : KL} {k : Nat} {a : Act} {F : World → Prop} (h : Q a F) : wpL P ops w0 T Q [] k a F := h
theorem wpL_plain_ {Q : KL} {F : World → Prop} : ∀ (m : Nat) {l : List Oper} {k : Nat} {a : Act}, (∀ j, j < m → T (k + j) = none) → (l.take m).all (fun o => plainOp o.op) = true →
  wpQuiet P ops (fun w' => ∃ e, w' = more w0 e) (fun a' => wpL P ops w0 T Q (l.drop m) (k + m) a' F) (l.take m) a → wpL P ops w0 T Q l k a F
 | 0, l, k, a, _, _, h => h
 | m + 1, [], k, a, hT, _, h => by simpa [wpL, wpQuiet] using h
 | m + 1, o :: l, k, a, hT, hp, h => by
  simp only [List.take_succ_cons, List.all_cons, Bool.and_eq_true] at hp
  simp only [List.take_succ_cons, List.drop_succ_cons, wpQuiet] at h
  have h0 := hT 0 (by omega)
  rw [Nat.add_zero] at h0
  have ih := fun a' (h' : wpQuiet P ops (fun w' => ∃ e, w' = more w0 e) (fun a' => wpL P ops w0 T Q (l.drop m) (k + (m + 1)) a' F) (l.take m) a') =>
   wpL_plain_ (Q := Q) (F := F) m (l := l) (k := k + 1) (a := a') (fun j hj => by have := hT (j + 1) (by omega); rwa [show k + (j + 1) = k + 1 + j by omega] at this) hp.2 (by rw [show k + 1 + m = k + (m + 1) by omega]; exact h')
  unfold wpL
  by_cases hw : Region.wanted o (yielded ops a.tmps) = true
  ·simp only [hw, if_true] at *
   simp only [h0]
   obtain ⟨v, hv, hk⟩ := h
   refine ⟨hp.1, v, fun w hwe => ?_, ih _ hk⟩
   have := hv w (more_of_below hwe)
   unfold Oper.quietAt at *
   cases hr : (execOp a.eval o).run P w with
   | ok n w' =>
    obtain ⟨x, rfl⟩ := plain_value hp.1 hr
    rw [hr] at this
    exact this
   | halt x w' => rw [hr] at this; exact this.elim
  ·simp only [hw] at *
   exact ih _ h
theorem wpL_plain {Q : KL} {F : World → Prop} (m : Nat) {l : List Oper} {k : Nat} {a : Act} (hT : ((List.range m).all fun j => (T (k + j)).isNone) = true) (hp : (l.take m).all (fun o => plainOp o.op) = true)
  (h : wpQuiet P ops (fun w' => ∃ e, w' = more w0 e) (fun a' => wpL P ops w0 T Q (l.drop m) (k + m) a' F) (l.take m) a) : wpL P ops w0 T Q l k a F :=
 wpL_plain_ m (fun j hj => by simpa using List.all_eq_true.1 hT j (List.mem_range.2 hj)) hp h
theorem wpL_made {Q : KL} {F : World → Prop} {o : Oper} {rest : List Oper} {k : Nat} {a : Act} {S : Value → Prop} {R : Value → World → Prop} (hT : T k = some (S, R)) (hw : Region.wanted o (yielded ops a.tmps) = true)
  (h1 : ∀ w, Ext w0 w → looseUpon P w S R ((execOp a.eval o).run P w)) (h2 : ∀ v, S v → wpL P ops w0 T Q rest (k + 1) (a.put o.dst v) (fun w => F w ∧ R v w)) : wpL P ops w0 T Q (o :: rest) k a F := by
 unfold wpL
 simp only [hw, if_true, hT]
 exact ⟨h1, h2⟩
end
def tabT : List (Nat × LSpec) → Nat → Option LSpec
 | [], _ => none
 | (k, s) :: r, i => if i = k then some s else tabT r i
def LMono (s : LSpec) : Prop := ∀ v w w', s.2 v w → Ext w w' → s.2 v w'
theorem monoT_tab : ∀ {l : List (Nat × LSpec)}, (∀ p ∈ l, LMono p.2) → MonoT (tabT l)
 | [], _ => fun i sr h => by cases h
 | (k, s) :: r, h => fun i sr hi v w w' h1 h2 => by
  unfold tabT at hi
  by_cases e : i = k
  ·rw [if_pos e] at hi; cases hi; exact h _ (List.mem_cons_self ..) v w w' h1 h2
  ·rw [if_neg e] at hi; exact monoT_tab (fun p hp => h p (List.mem_cons_of_mem _ hp)) i sr hi v w w' h1 h2
def SVal (v : Value) : LSpec := (fun u => u = v, fun _ _ => True)
def SFact (R : Value → World → Prop) : LSpec := (fun _ => True, R)
def BlockAt (w : World) (g : Nat) (cs : List Value) : Prop := g < w.heap.size ∧ ∀ j u, cs[j]? = some u → w.cell? ⟨g, j, none⟩ = some u
theorem BlockAt.below {w w' : World} {g : Nat} {cs : List Value} (h : BlockAt w g cs) (hb : Ext w w') : BlockAt w' g cs :=
 ⟨Nat.lt_of_lt_of_le h.1 hb.size, fun j u hu => (hb.cell (p := ⟨g, j, none⟩) h.1).trans (h.2 j u hu)⟩
theorem BlockAt.new (w : World) (cs : List Value) (T : Nat) : BlockAt (w.alloc (.cells cs.toArray T)) w.heap.size cs :=
 ⟨by simp, fun j u hu => by rw [World.cell?_alloc_at _ _ _ _ rfl]; simpa using hu⟩
def SLit (cs : List Value) : LSpec := (fun v => ∃ g, v = .slice (some ⟨g, 0, none⟩) 1 1, fun v w => ∀ g, v = .slice (some ⟨g, 0, none⟩) 1 1 → BlockAt w g cs)
def SBox (cs : List Value) : LSpec := (fun v => ∃ g, v = .pointer (some ⟨g, 0, none⟩), fun v w => ∀ g, v = .pointer (some ⟨g, 0, none⟩) → BlockAt w g cs)
theorem SVal.mono (v : Value) : LMono (SVal v) := fun _ _ _ _ _ => trivial
theorem SLit.mono (cs : List Value) : LMono (SLit cs) := fun _ _ _ h hb g e => (h g e).below hb
theorem SBox.mono (cs : List Value) : LMono (SBox cs) := fun _ _ _ h hb g e => (h g e).below hb
theorem ext_alloc (w : World) (o : Obj) : Ext w (w.alloc o) := (Below.refl _ _).alloc (Nat.le_refl _) _
theorem made_new (w : World) (cs : List Value) (T : Nat) : BlockAt (w.alloc (.cells cs.toArray T)) w.heap.size cs ∧ Ext w (w.alloc (.cells cs.toArray T)) := ⟨BlockAt.new w cs T, ext_alloc _ _⟩
theorem SVal.call {P : Program} {f : FuncId} {args : Array Value} {W : World} {v : Value} (h : Calls P f args W fun e w' => e = .returned v ∧ Below W.heap.size W w') :
  Calls P f args W fun e w'' => e = .returned v ∧ Ext W w'' := h
theorem SFact.call {P : Program} {f : FuncId} {args : Array Value} {W : World} {R : Value → World → Prop} (h : Calls P f args W fun e w' => ∃ v, e = .returned v ∧ R v w' ∧ Below W.heap.size W w') :
  Calls P f args W fun e w'' => ∃ u, e = .returned u ∧ R u w'' ∧ Ext W w'' := h
open Go.RowKit
set_option maxRecDepth 100000
theorem tchk_len {l : List Rl} (h : tchk l = 0) : l.length ≤ 12 := by
 unfold tchk at h
 by_cases h2 : l.length > 12
 ·rw [if_pos h2] at h; cases h
 ·omega
def tdoF (l : List Rl) (add : Bool) (r : Rl) : Int :=
 if tchk l ≠ 0 then tchk l else if r.chk ≠ 0 then r.chk
 else if add = true then (if (l.any fun x => x.key r) = true then 7 else if 12 ≤ l.length then 4 else 0)
 else if (l.any fun x => decide (r = x)) = true then 0 else 5
def tdoR (l : List Rl) (add : Bool) (r : Rl) : List Rl := if add = true then l ++ [r] else l.eraseIdx (fidx (fun x => decide (r = x)) l).toNat
def tdoV (l : List Rl) (add : Bool) (r : Rl) : List Rl := if tdoF l add r = 0 then tdoR l add r else []
def FreshRow {α : Type} (base : Nat) (A : Option Addr) (l : List α) : Prop := l = [] ∨ ∃ b o, A = some ⟨b, o, none⟩ ∧ base ≤ b
theorem Owns.freshRow {w : World} {base e k : Nat} {v : Value} {α : Type} {f : α → List Value} {l : List α} {A : Option Addr} {n c : Nat} (h : Owns w base e k v (l.map f)) (hv : v = .slice A n c) {b2 : Nat} (hb : b2 ≤ base) : FreshRow b2 A l := by
 rcases h.1.2 with ⟨_, h0⟩ | ⟨g, cap, cur, e1, hg, _⟩
 ·left; exact List.eq_nil_of_length_eq_zero (by simpa using h0)
 ·right
  rw [e1] at hv
  simp only [Value.slice.injEq] at hv
  exact ⟨g, 0, hv.1.symm, by omega⟩
def RetT (l : List Rl) (er : Value) (w : World) (e : Ending) (w' : World) : Prop := ∃ A c, e = .returned (.tuple #[.slice A l.length c, er]) ∧ Rules w' A c l ∧ Below w.heap.size w w' ∧ FreshRow w.heap.size A l
theorem RetT.bad {l : List Rl} {w w' : World} {er : Value} (hl : l = []) (hb : Below w.heap.size w w') : RetT l er w (.returned (.tuple #[.slice none 0 0, er])) w' := by
 subst hl; exact ⟨none, 0, rfl, RowC.none_ _ _, hb, .inl rfl⟩
def Rl.val (r : Rl) : Value := .agg #[.int .i64 r.p, .int .i64 r.m, .int .i64 r.b, .int .i64 r.o, .int .i64 r.s, .int .i64 r.v]
structure RlAt (w : World) (g : Nat) (r : Rl) : Prop where
 c0 : w.cell? ⟨g, 0, none⟩ = some (.int .i64 r.p)
 c1 : w.cell? ⟨g, 1, none⟩ = some (.int .i64 r.m)
 c2 : w.cell? ⟨g, 2, none⟩ = some (.int .i64 r.b)
 c3 : w.cell? ⟨g, 3, none⟩ = some (.int .i64 r.o)
 c4 : w.cell? ⟨g, 4, none⟩ = some (.int .i64 r.s)
 c5 : w.cell? ⟨g, 5, none⟩ = some (.int .i64 r.v)
 lt : g < w.heap.size
theorem RlAt.below {w w' : World} {g : Nat} {r : Rl} (h : RlAt w g r) (hb : Below w.heap.size w w') : RlAt w' g r :=
 have c := fun i => hb.cell (p := ⟨g, i, none⟩) h.lt
 ⟨(c 0).trans h.c0, (c 1).trans h.c1, (c 2).trans h.c2, (c 3).trans h.c3, (c 4).trans h.c4, (c 5).trans h.c5, Nat.lt_of_lt_of_le h.lt hb.size⟩
theorem RlAt.new (w : World) (r : Rl) (T : Nat) : RlAt (w.alloc (.cells #[.int .i64 r.p, .int .i64 r.m, .int .i64 r.b, .int .i64 r.o, .int .i64 r.s, .int .i64 r.v] T)) w.heap.size r :=
 ⟨by simp [go_sem], by simp [go_sem], by simp [go_sem], by simp [go_sem], by simp [go_sem], by simp [go_sem], by simp⟩
theorem tkey_any (A : Option Addr) (cp : Nat) (l : List Rl) (w : World) (h : Rules w A cp l) (hl : l.length ≤ 65536) (y : Rl) (g : Nat) (hy : RlAt w g y) :
  Calls Tryz.prog 50 #[.slice A l.length cp, .func (.func 51) #[] #[.pointer (some ⟨g, 0, none⟩)]] w fun e w' => e = .returned (.bool (l.any fun x => x.key y)) ∧ Below w.heap.size w w' :=
 rcontains51_any A l.length cp l w rfl h (by omega) y g hy.lt hy.c0 hy.c1 hy.c2 hy.c3 hy.c4 hy.c5
theorem RlAt.cells_at {w : World} {g : Nat} {r : Rl} (h : RlAt w g r) : ∀ j u, r.cells[j]? = some u → w.cell? ⟨g, j, none⟩ = some u := by
 intro j u hu
 match j, hu with
 | 0, hu => simp [Rl.cells] at hu; subst hu; exact h.c0
 | 1, hu => simp [Rl.cells] at hu; subst hu; exact h.c1
 | 2, hu => simp [Rl.cells] at hu; subst hu; exact h.c2
 | 3, hu => simp [Rl.cells] at hu; subst hu; exact h.c3
 | 4, hu => simp [Rl.cells] at hu; subst hu; exact h.c4
 | 5, hu => simp [Rl.cells] at hu; subst hu; exact h.c5
 | j + 6, hu => simp [Rl.cells] at hu
theorem rule_one (r : Rl) : ∀ u ∈ r.cells, u.oneCell' = true := by simp [Rl.cells, Value.oneCell']
theorem SOwn_mono (base e k : Nat) (xs : List (List Value)) : LMono (SFact fun v w' => Owns w' base e k v xs) := fun _ _ _ h hb => h.below hb
theorem tdoV_bad {l : List Rl} {add : Bool} {r : Rl} {n : Int} (h : tdoF l add r = n) (hn : n ≠ 0) : tdoV l add r = [] := by unfold tdoV; rw [if_neg (by omega)]
theorem tdoV_ok {l : List Rl} {add : Bool} {r : Rl} (h : tdoF l add r = 0) : tdoV l add r = tdoR l add r := by unfold tdoV; rw [if_pos h]
set_option maxHeartbeats 1600000 in
theorem tdo_add (A : Option Addr) (cp : Nat) (l : List Rl) (r : Rl) (wa : World) (h : Rules wa A cp l) (hz : tchk l = 0) (hr : r.chk = 0) :
  Calls Tryz.prog 21 #[.slice A l.length cp, .bool true, .agg #[.int .i64 r.p, .int .i64 r.m, .int .i64 r.b, .int .i64 r.o, .int .i64 r.s, .int .i64 r.v]] wa (RetT (tdoV l true r) (errOf (tdoF l true r)) wa) := by
 have hmk := hmf
 have HT := Lib.hid (fun A cp w h => tcheck_ok A cp l w h hz)
 have hl12 := tchk_len hz
 have HC := Lib.hid (fun w => rchk_ok r w hr)
 have HI := Lib.hid (fun A cp w h => tindex_any A cp l r w h (by omega))
 have HK := Lib.hid (fun A cp w h g hg => tkey_any A cp l w h (by omega) r g hg)
 have HN := Lib.hid (fun A cp w h => tclone_any A cp l w h (by omega))
 (obtain ⟨w, hw⟩ : ∃ w : World, w = wa.alloc (.cells #[.int .i64 r.p, .int .i64 r.m, .int .i64 r.b, .int .i64 r.o, .int .i64 r.s, .int .i64 r.v] 47) := ⟨_, rfl⟩); have hb0 : Below wa.heap.size wa w := (hw ▸ (Below.refl _ _).alloc (Nat.le_refl _) _); have hs0 : wa.heap.size < w.heap.size := (by rw [hw]; simp); have HS1 := Lib.hid (show wa.heap.size + 1 = w.heap.size by rw [hw]; simp)
 have HA := Lib.hid (show RlAt w wa.heap.size r from hw ▸ RlAt.new wa r 47)
 have H := Lib.hid (h.below hb0)
 obtain ⟨c0, c1, c2, c3, c4, c5, -⟩ := HA.out
 have HF0 := Lib.hid (show tdoF l true r = if (l.any fun x => x.key r) = true then 7 else if 12 ≤ l.length then 4 else 0 by unfold tdoF; rw [if_neg (by simpa using hz), if_neg (by simpa using hr), if_pos rfl])
 clear h hz hr
 go_enter Tryz.func21, Tryz.ntmps21
 go_wp2_with fail
 rw [← hw]; clear hw
 (go_at_call 33; refine (HT.out _ _ _ H.out).mono ?_; rintro e w2 ⟨rfl, hbw2⟩; obtain ⟨hcw2, hfw2⟩ := bcell hbw2; have hzw2 := hbw2.size; (try simp at hzw2); have hBw2 := bstep (w := w) (by go_grown) hbw2; (try have : wa.heap.size < w2.heap.size := by omega); (try have : w.heap.size < w2.heap.size := by omega); (try have : w.heap.size + 1 < w2.heap.size := by omega); (try have : w.heap.size + 1 + 1 < w2.heap.size := by omega); (try have : w.heap.size + 1 + 1 + 1 < w2.heap.size := by omega))
 go_wp2_with fail
 (go_at_call 24; refine (HC.out _).mono ?_; rintro e w3 ⟨rfl, hbw3⟩; obtain ⟨hcw3, hfw3⟩ := bcell hbw3; have hzw3 := hbw3.size; (try simp at hzw3); have hBw3 := bstep (w := w) (by go_grown) hbw3; (try have : wa.heap.size < w3.heap.size := by omega); (try have : w.heap.size < w3.heap.size := by omega); (try have : w.heap.size + 1 < w3.heap.size := by omega); (try have : w.heap.size + 1 + 1 < w3.heap.size := by omega); (try have : w.heap.size + 1 + 1 + 1 < w3.heap.size := by omega))
 go_wp2_with fail
 (go_at_call 49; refine (HI.out _ _ _ (H.out.below (by go_grown))).mono ?_; rintro e w4 ⟨rfl, hbw4⟩; obtain ⟨hcw4, hfw4⟩ := bcell hbw4; have hzw4 := hbw4.size; (try simp at hzw4); have hBw4 := bstep (w := w) (by go_grown) hbw4; (try have : wa.heap.size < w4.heap.size := by omega); (try have : w.heap.size < w4.heap.size := by omega); (try have : w.heap.size + 1 < w4.heap.size := by omega); (try have : w.heap.size + 1 + 1 < w4.heap.size := by omega); (try have : w.heap.size + 1 + 1 + 1 < w4.heap.size := by omega))
 go_wp2_with fail
 cases hk : l.any (fun x => x.key r) with
 | true =>
  rw [hk] at HK HF0
  have HF := Lib.hid (HF0.out.trans (if_pos rfl))
  clear hk
  (go_at_call 50; refine (HK.out _ _ _ (H.out.below (by go_grown)) _ (HA.out.below (by go_grown))).mono ?_; rintro e w5 ⟨rfl, hbw5⟩; obtain ⟨hcw5, hfw5⟩ := bcell hbw5; have hzw5 := hbw5.size; (try simp at hzw5); have hBw5 := bstep (w := w) (by go_grown) hbw5; (try have : wa.heap.size < w5.heap.size := by omega); (try have : w.heap.size < w5.heap.size := by omega); (try have : w.heap.size + 1 < w5.heap.size := by omega); (try have : w.heap.size + 1 + 1 < w5.heap.size := by omega); (try have : w.heap.size + 1 + 1 + 1 < w5.heap.size := by omega))
  go_wp2_with fail
  go_ret2
  rw [HF.out]; exact RetT.bad (tdoV_bad HF.out (by omega)) (hb0.trans (hBw5.mono (by omega)))
 | false =>
  rw [hk] at HK HF0
  clear hk
  have HF1 := Lib.hid (HF0.out.trans (if_neg (by simp)))
  by_cases h12 : 12 ≤ l.length
  ·have HF := Lib.hid (HF1.out.trans (if_pos h12))
   have h12' : (12 : Int) ≤ (l.length : Int) := by omega
   clear h12
   (go_at_call 50; refine (HK.out _ _ _ (H.out.below (by go_grown)) _ (HA.out.below (by go_grown))).mono ?_; rintro e w5 ⟨rfl, hbw5⟩; obtain ⟨hcw5, hfw5⟩ := bcell hbw5; have hzw5 := hbw5.size; (try simp at hzw5); have hBw5 := bstep (w := w) (by go_grown) hbw5; (try have : wa.heap.size < w5.heap.size := by omega); (try have : w.heap.size < w5.heap.size := by omega); (try have : w.heap.size + 1 < w5.heap.size := by omega); (try have : w.heap.size + 1 + 1 < w5.heap.size := by omega); (try have : w.heap.size + 1 + 1 + 1 < w5.heap.size := by omega))
   go_wp2_with fail
   go_ret2
   rw [HF.out]; exact RetT.bad (tdoV_bad HF.out (by omega)) (hb0.trans (hBw5.mono (by omega)))
  ·have HF := Lib.hid (HF1.out.trans (if_neg h12))
   have HV := Lib.hid (tdoV_ok HF.out)
   have h12' : ¬ (12 : Int) ≤ (l.length : Int) := by omega
   clear h12
   (go_at_call 50; refine (HK.out _ _ _ (H.out.below (by go_grown)) _ (HA.out.below (by go_grown))).mono ?_; rintro e w5 ⟨rfl, hbw5⟩; obtain ⟨hcw5, hfw5⟩ := bcell hbw5; have hzw5 := hbw5.size; (try simp at hzw5); have hBw5 := bstep (w := w) (by go_grown) hbw5; (try have : wa.heap.size < w5.heap.size := by omega); (try have : w.heap.size < w5.heap.size := by omega); (try have : w.heap.size + 1 < w5.heap.size := by omega); (try have : w.heap.size + 1 + 1 < w5.heap.size := by omega); (try have : w.heap.size + 1 + 1 + 1 < w5.heap.size := by omega))
   go_wp2_with fail
   (refine wp_region_loose 4 (tabT [(1, SFact fun v w' => Owns w' w5.heap.size 47 6 v (l.map Rl.cells)), (3, SLit r.cells)]) (monoT_tab (by simp [SOwn_mono, SLit.mono])) (by kernel_rfl) (by kernel_rfl) ?_); simp only [List.take_succ_cons, List.take_zero, List.drop_succ_cons, List.drop_zero]
   (refine wpL_plain 1 rfl rfl ?_); simp only [List.take_succ_cons, List.take_zero, List.drop_succ_cons, List.drop_zero]; (repeat (go_big_quiet_step (fail))); (refine wpQuiet_nil ?_)
   (refine wpL_made rfl rfl (fun W hW => ?_) (fun v6 hv6 => ?_)); (focus (simp [go_sem, execOp, resolve, looseUpon]; exact SFact.call ((HN.out _ _ _ (H.out.below (hBw5.trans (hW.mono hBw5.size)))).mono fun e w' ⟨v, he, hO, hb⟩ => ⟨v, he, hO.mono hW.size, hb⟩))); (try go_frame)
   (refine wpL_plain 1 rfl rfl ?_); simp only [List.take_succ_cons, List.take_zero, List.drop_succ_cons, List.drop_zero]; (repeat (go_big_quiet_step (fail))); (refine wpQuiet_nil ?_)
   (refine wpL_made rfl rfl (fun W hW => ?_) (fun v7 hv7 => ?_)); (focus (simp [go_sem, execOp, resolve, looseUpon]; exact made_new _ _ _)); (try go_frame)
   refine wpL_nil ?_; intro W hW hF
   obtain ⟨g, rfl⟩ := hv7
   obtain ⟨⟨-, hO⟩, hC⟩ := hF
   have HO : Hid (Owns W w5.heap.size 47 6 v6 (l.map Rl.cells)) := hO
   have HB := Lib.hid (hC g rfl)
   have hWs := hW.size
   clear hO hC hv6
   refine wpList_push el_rule rfl (.tmp 43) (.tmp 45) rfl w5.heap.size _ _ rfl HO.out g r.cells rfl HB.out.1 rfl HB.out.2 (rule_one r) (by simp [maxLen]; omega) (by simp; omega) hWs ?_
   intro v8 w8 hO8 hb8
   have HO8 := Lib.hid hO8
   clear hO8
   go_wp2_with fail
   go_ret2
   obtain ⟨A8, c8, rfl, hR8⟩ := Owns.rules (l := l ++ [r]) (by simpa using HO8.out)
   have e1 : tdoV l true r = l ++ [r] := HV.out
   have hfr : FreshRow wa.heap.size A8 (l ++ [r]) := Owns.freshRow (f := Rl.cells) (by simpa using HO8.out) rfl (Nat.le_trans hb0.size hBw5.size)
   rw [HF.out, e1]
   exact ⟨_, _, rfl, hR8, hb0.trans ((hBw5.trans (hb8.mono (by omega) |> (hW.mono hBw5.size).trans)).mono (by omega)), hfr⟩
theorem Owns.form {w : World} {base e k : Nat} {v : Value} {xs : List (List Value)} (h : Owns w base e k v xs) (hn : 0 < xs.length) : ∃ g c, v = .slice (some ⟨g, 0, none⟩) xs.length c ∧ base ≤ g ∧ g < w.heap.size ∧ (∀ t, w.frozen? ⟨g, t, none⟩ = false) ∧ RowC w k (some ⟨g, 0, none⟩) xs.length c xs := by
 obtain ⟨A, c, e1, hr⟩ := h.row
 rcases h.1.2 with ⟨rfl, h0⟩ | ⟨g, cap, cur, rfl, hg, hh, r⟩
 ·omega
 ·simp only [Value.slice.injEq] at e1
  obtain ⟨rfl, -, rfl⟩ := e1
  refine ⟨g, cap, rfl, hg, ?_, fun t => ?_, hr⟩
  ·rcases Nat.lt_or_ge g w.heap.size with hlt | hge
   ·exact hlt
   ·rw [Array.getElem?_eq_none hge] at hh; cases hh
  ·unfold World.frozen?
   simp only [hh]
   simp
theorem fidx_lt {α : Type} {p : α → Bool} {l : List α} (h : l.any p = true) : ∃ i : Nat, fidx p l = i ∧ i < l.length := by
 have h1 := fidx_any p l
 rw [h, decide_eq_true_eq] at h1
 have h2 := fidx_range p l
 exact ⟨(fidx p l).toNat, by omega, by omega⟩
set_option maxHeartbeats 1600000 in
theorem tdo_del (A : Option Addr) (cp : Nat) (l : List Rl) (r : Rl) (wa : World) (h : Rules wa A cp l) (hz : tchk l = 0) (hr : r.chk = 0) :
  Calls Tryz.prog 21 #[.slice A l.length cp, .bool false, .agg #[.int .i64 r.p, .int .i64 r.m, .int .i64 r.b, .int .i64 r.o, .int .i64 r.s, .int .i64 r.v]] wa (RetT (tdoV l false r) (errOf (tdoF l false r)) wa) := by
 have hmk := hmf
 have HT := Lib.hid (fun A cp w h => tcheck_ok A cp l w h hz)
 have hl12 := tchk_len hz
 have HC := Lib.hid (fun w => rchk_ok r w hr)
 have HI := Lib.hid (fun A cp w h => tindex_any A cp l r w h (by omega))
 have HN := Lib.hid (fun A cp w h => tclone_any A cp l w h (by omega))
 (obtain ⟨w, hw⟩ : ∃ w : World, w = wa.alloc (.cells #[.int .i64 r.p, .int .i64 r.m, .int .i64 r.b, .int .i64 r.o, .int .i64 r.s, .int .i64 r.v] 47) := ⟨_, rfl⟩); have hb0 : Below wa.heap.size wa w := (hw ▸ (Below.refl _ _).alloc (Nat.le_refl _) _); have hs0 : wa.heap.size < w.heap.size := (by rw [hw]; simp); have HS1 := Lib.hid (show wa.heap.size + 1 = w.heap.size by rw [hw]; simp)
 have HA := Lib.hid (show RlAt w wa.heap.size r from hw ▸ RlAt.new wa r 47)
 have H := Lib.hid (h.below hb0)
 obtain ⟨c0, c1, c2, c3, c4, c5, -⟩ := HA.out
 have HF0 := Lib.hid (show tdoF l false r = if (l.any fun x => decide (r = x)) = true then 0 else 5 by unfold tdoF; rw [if_neg (by simpa using hz), if_neg (by simpa using hr), if_neg (by simp)])
 clear h hz hr
 cases hk : l.any (fun x => decide (r = x)) with
 | true =>
  rw [hk] at HF0
  have HF := Lib.hid (HF0.out.trans (if_pos rfl))
  obtain ⟨i, hi, hil⟩ := fidx_lt hk
  have HV := Lib.hid (show tdoV l false r = l.eraseIdx i by rw [tdoV_ok HF.out]; unfold tdoR; rw [if_neg (by simp), hi]; rfl)
  have HD := Lib.hid (fun g cp base w hb hg h hf => tdelete_any g cp base l i hil w hb hg h hf (by omega))
  rw [hi] at HI
  clear hk hi HF0
  go_enter Tryz.func21, Tryz.ntmps21
  go_wp2_with fail
  rw [← hw]; clear hw
  (go_at_call 33; refine (HT.out _ _ _ H.out).mono ?_; rintro e w2 ⟨rfl, hbw2⟩; obtain ⟨hcw2, hfw2⟩ := bcell hbw2; have hzw2 := hbw2.size; (try simp at hzw2); have hBw2 := bstep (w := w) (by go_grown) hbw2; (try have : wa.heap.size < w2.heap.size := by omega); (try have : w.heap.size < w2.heap.size := by omega); (try have : w.heap.size + 1 < w2.heap.size := by omega); (try have : w.heap.size + 1 + 1 < w2.heap.size := by omega); (try have : w.heap.size + 1 + 1 + 1 < w2.heap.size := by omega))
  go_wp2_with fail
  (go_at_call 24; refine (HC.out _).mono ?_; rintro e w3 ⟨rfl, hbw3⟩; obtain ⟨hcw3, hfw3⟩ := bcell hbw3; have hzw3 := hbw3.size; (try simp at hzw3); have hBw3 := bstep (w := w) (by go_grown) hbw3; (try have : wa.heap.size < w3.heap.size := by omega); (try have : w.heap.size < w3.heap.size := by omega); (try have : w.heap.size + 1 < w3.heap.size := by omega); (try have : w.heap.size + 1 + 1 < w3.heap.size := by omega); (try have : w.heap.size + 1 + 1 + 1 < w3.heap.size := by omega))
  go_wp2_with fail
  (go_at_call 49; refine (HI.out _ _ _ (H.out.below (by go_grown))).mono ?_; rintro e w4 ⟨rfl, hbw4⟩; obtain ⟨hcw4, hfw4⟩ := bcell hbw4; have hzw4 := hbw4.size; (try simp at hzw4); have hBw4 := bstep (w := w) (by go_grown) hbw4; (try have : wa.heap.size < w4.heap.size := by omega); (try have : w.heap.size < w4.heap.size := by omega); (try have : w.heap.size + 1 < w4.heap.size := by omega); (try have : w.heap.size + 1 + 1 < w4.heap.size := by omega); (try have : w.heap.size + 1 + 1 + 1 < w4.heap.size := by omega))
  go_wp2_with fail
  go_at_call 34
  refine (HN.out _ _ _ (H.out.below (by go_grown))).mono ?_
  rintro e w5 ⟨v5, rfl, hO5, hb5⟩
  obtain ⟨g, c, rfl, hg1, hg2, hfz, hRC⟩ := hO5.form (by simpa using (by omega : 0 < l.length))
  have HR5 := Lib.hid (show Rules w5 (some ⟨g, 0, none⟩) c l by simpa [Rules] using hRC)
  have HFZ := Lib.hid hfz
  have hB5 := bstep (w := w) (by go_grown) hb5
  have hll : (l.map Rl.cells).length = l.length := List.length_map _
  rw [hll]
  clear hO5 hRC hfz hll
  go_wp2_with fail
  go_at_call 53
  refine (HD.out g c w4.heap.size w5 hg1 hg2 HR5.out HFZ.out).mono ?_
  rintro e w6 ⟨rfl, hR6, hb6⟩
  have HR6 := Lib.hid hR6
  clear hR6
  go_wp2_with fail
  go_ret2
  have e1 : (l.eraseIdx i).length = l.length - 1 := List.length_eraseIdx_of_lt hil
  rw [HF.out, HV.out]
  refine ⟨some ⟨g, 0, none⟩, c, ?_, HR6.out, hb0.trans (Below.mono (hB5.trans (hb6.mono (by omega))) (by omega)), .inr ⟨g, 0, rfl, by have := hb0.size; omega⟩⟩
  rw [e1]; rfl
 | false =>
  rw [hk] at HF0
  have HF := Lib.hid (HF0.out.trans (if_neg (by simp)))
  have hi0 : fidx (fun x => decide (r = x)) l < 0 := by
   have h1 := fidx_any (fun x => decide (r = x)) l
   rw [hk, decide_eq_false_iff_not] at h1
   omega
  clear hk HF0
  go_enter Tryz.func21, Tryz.ntmps21
  go_wp2_with fail
  rw [← hw]; clear hw
  (go_at_call 33; refine (HT.out _ _ _ H.out).mono ?_; rintro e w2 ⟨rfl, hbw2⟩; obtain ⟨hcw2, hfw2⟩ := bcell hbw2; have hzw2 := hbw2.size; (try simp at hzw2); have hBw2 := bstep (w := w) (by go_grown) hbw2; (try have : wa.heap.size < w2.heap.size := by omega); (try have : w.heap.size < w2.heap.size := by omega); (try have : w.heap.size + 1 < w2.heap.size := by omega); (try have : w.heap.size + 1 + 1 < w2.heap.size := by omega); (try have : w.heap.size + 1 + 1 + 1 < w2.heap.size := by omega))
  go_wp2_with fail
  (go_at_call 24; refine (HC.out _).mono ?_; rintro e w3 ⟨rfl, hbw3⟩; obtain ⟨hcw3, hfw3⟩ := bcell hbw3; have hzw3 := hbw3.size; (try simp at hzw3); have hBw3 := bstep (w := w) (by go_grown) hbw3; (try have : wa.heap.size < w3.heap.size := by omega); (try have : w.heap.size < w3.heap.size := by omega); (try have : w.heap.size + 1 < w3.heap.size := by omega); (try have : w.heap.size + 1 + 1 < w3.heap.size := by omega); (try have : w.heap.size + 1 + 1 + 1 < w3.heap.size := by omega))
  go_wp2_with fail
  (go_at_call 49; refine (HI.out _ _ _ (H.out.below (by go_grown))).mono ?_; rintro e w4 ⟨rfl, hbw4⟩; obtain ⟨hcw4, hfw4⟩ := bcell hbw4; have hzw4 := hbw4.size; (try simp at hzw4); have hBw4 := bstep (w := w) (by go_grown) hbw4; (try have : wa.heap.size < w4.heap.size := by omega); (try have : w.heap.size < w4.heap.size := by omega); (try have : w.heap.size + 1 < w4.heap.size := by omega); (try have : w.heap.size + 1 + 1 < w4.heap.size := by omega); (try have : w.heap.size + 1 + 1 + 1 < w4.heap.size := by omega))
  go_wp2_with fail
  go_ret2
  rw [HF.out]; exact RetT.bad (tdoV_bad HF.out (by omega)) (hb0.trans (hBw4.mono (by omega)))
set_option maxHeartbeats 1600000 in
theorem tdo_any (A : Option Addr) (cp : Nat) (l : List Rl) (add : Bool) (r : Rl) (wa : World) (h : Rules wa A cp l) :
  Calls Tryz.prog 21 #[.slice A l.length cp, .bool add, .agg #[.int .i64 r.p, .int .i64 r.m, .int .i64 r.b, .int .i64 r.o, .int .i64 r.s, .int .i64 r.v]] wa (RetT (tdoV l add r) (errOf (tdoF l add r)) wa) := by
 by_cases hz : tchk l = 0
 ·by_cases hr : r.chk = 0
  ·cases add with
   | true => exact tdo_add A cp l r wa h hz hr
   | false => exact tdo_del A cp l r wa h hz hr
  ·have HT := Lib.hid (fun A cp w h => tcheck_ok A cp l w h hz)
   have HC := Lib.hid (fun w => rchk_bad r w hr)
   (obtain ⟨w, hw⟩ : ∃ w : World, w = wa.alloc (.cells #[.int .i64 r.p, .int .i64 r.m, .int .i64 r.b, .int .i64 r.o, .int .i64 r.s, .int .i64 r.v] 47) := ⟨_, rfl⟩); have hb0 : Below wa.heap.size wa w := (hw ▸ (Below.refl _ _).alloc (Nat.le_refl _) _); have hs0 : wa.heap.size < w.heap.size := (by rw [hw]; simp); have HS1 := Lib.hid (show wa.heap.size + 1 = w.heap.size by rw [hw]; simp)
   have HA := Lib.hid (show RlAt w wa.heap.size r from hw ▸ RlAt.new wa r 47)
   have H := Lib.hid (h.below hb0)
   obtain ⟨c0, c1, c2, c3, c4, c5, -⟩ := HA.out
   have HF := Lib.hid (show tdoF l add r = r.chk by unfold tdoF; rw [if_neg (by simpa using hz), if_pos hr])
   have HR := Lib.hid hr
   clear h hz hr
   generalize r.chk = q at *
   go_enter Tryz.func21, Tryz.ntmps21
   go_wp2_with fail
   rw [← hw]; clear hw
   (go_at_call 33; refine (HT.out _ _ _ H.out).mono ?_; rintro e w2 ⟨rfl, hbw2⟩; obtain ⟨hcw2, hfw2⟩ := bcell hbw2; have hzw2 := hbw2.size; (try simp at hzw2); have hBw2 := bstep (w := w) (by go_grown) hbw2; (try have : wa.heap.size < w2.heap.size := by omega); (try have : w.heap.size < w2.heap.size := by omega); (try have : w.heap.size + 1 < w2.heap.size := by omega); (try have : w.heap.size + 1 + 1 < w2.heap.size := by omega); (try have : w.heap.size + 1 + 1 + 1 < w2.heap.size := by omega))
   go_wp2_with fail
   (go_at_call 24; refine (HC.out _).mono ?_; rintro e w3 ⟨rfl, hbw3⟩; obtain ⟨hcw3, hfw3⟩ := bcell hbw3; have hzw3 := hbw3.size; (try simp at hzw3); have hBw3 := bstep (w := w) (by go_grown) hbw3; (try have : wa.heap.size < w3.heap.size := by omega); (try have : w.heap.size < w3.heap.size := by omega); (try have : w.heap.size + 1 < w3.heap.size := by omega); (try have : w.heap.size + 1 + 1 < w3.heap.size := by omega); (try have : w.heap.size + 1 + 1 + 1 < w3.heap.size := by omega))
   go_wp2_with fail
   go_ret2
   have := RetT.bad (er := errOf (tdoF l add r)) (tdoV_bad HF.out HR.out) (hb0.trans (hBw3.mono (by omega)))
   rw [HF.out, errOf_ne HR.out] at this ⊢
   exact this
 ·have HT := Lib.hid (fun A cp w h => tcheck_bad A cp l w h hz)
  (obtain ⟨w, hw⟩ : ∃ w : World, w = wa.alloc (.cells #[.int .i64 r.p, .int .i64 r.m, .int .i64 r.b, .int .i64 r.o, .int .i64 r.s, .int .i64 r.v] 47) := ⟨_, rfl⟩); have hb0 : Below wa.heap.size wa w := (hw ▸ (Below.refl _ _).alloc (Nat.le_refl _) _); have hs0 : wa.heap.size < w.heap.size := (by rw [hw]; simp); have HS1 := Lib.hid (show wa.heap.size + 1 = w.heap.size by rw [hw]; simp)
  have H := Lib.hid (h.below hb0)
  have HF := Lib.hid (show tdoF l add r = tchk l by unfold tdoF; rw [if_pos hz])
  have HR := Lib.hid hz
  clear h hz
  generalize tchk l = q at *
  go_enter Tryz.func21, Tryz.ntmps21
  go_wp2_with fail
  rw [← hw]; clear hw
  (go_at_call 33; refine (HT.out _ _ _ H.out).mono ?_; rintro e w2 ⟨rfl, hbw2⟩; obtain ⟨hcw2, hfw2⟩ := bcell hbw2; have hzw2 := hbw2.size; (try simp at hzw2); have hBw2 := bstep (w := w) (by go_grown) hbw2; (try have : wa.heap.size < w2.heap.size := by omega); (try have : w.heap.size < w2.heap.size := by omega); (try have : w.heap.size + 1 < w2.heap.size := by omega); (try have : w.heap.size + 1 + 1 < w2.heap.size := by omega); (try have : w.heap.size + 1 + 1 + 1 < w2.heap.size := by omega))
  go_wp2_with fail
  go_ret2
  have := RetT.bad (er := errOf (tdoF l add r)) (tdoV_bad HF.out HR.out) (hb0.trans (hBw2.mono (by omega)))
  rw [HF.out, errOf_ne HR.out] at this ⊢
  exact this
open Go.RowKit
structure Tok (l : List Rl) : Prop where
 len : l.length ≤ 12
 chk : ∀ x ∈ l, x.chk = 0
 key : l.Pairwise (fun x y => x.key y = false)
theorem key_self (x : Rl) : x.key x = true := by simp [Rl.key]
theorem tfault_iff : ∀ (l seen : List Rl), tfaultFrom seen l = 0 ↔ (∀ x ∈ l, x.chk = 0) ∧ l.Pairwise (fun x y => x.key y = false) ∧ ∀ x ∈ l, ∀ y ∈ seen, y.key x = false
 | [], seen => by simp [tfaultFrom]
 | x :: r, seen => by
  unfold tfaultFrom
  by_cases h1 : x.chk = 0
  ·rw [if_neg (by simpa using h1)]
   cases h2 : seen.any fun y => y.key x with
   | true =>
    rw [if_pos rfl]
    constructor
    ·intro h; cases h
    ·rintro ⟨_, _, h⟩
     obtain ⟨y, hy, hk⟩ := List.any_eq_true.1 h2
     rw [h x (by simp) y hy] at hk; cases hk
   | false =>
    rw [if_neg Bool.false_ne_true, tfault_iff r]
    have h3 : ∀ y ∈ seen, y.key x = false := fun y hy => by
     cases e : y.key x with
     | false => rfl
     | true => rw [List.any_eq_true.2 ⟨y, hy, e⟩] at h2; cases h2
    simp only [List.mem_cons, forall_eq_or_imp, List.pairwise_cons, List.mem_append, List.mem_nil_iff, or_false]
    constructor
    ·rintro ⟨a, b, c⟩
     exact ⟨⟨h1, a⟩, ⟨fun y hy => c y hy x (.inr rfl), b⟩, h3, fun y hy z hz => c y hy z (.inl hz)⟩
    ·rintro ⟨⟨_, a⟩, ⟨b, c⟩, d, e⟩
     exact ⟨a, c, fun y hy z hz => hz.elim (e y hy z) (fun h => h ▸ b y hy)⟩
  ·rw [if_pos h1]
   constructor
   ·intro h; exact absurd h h1
   ·rintro ⟨h, _⟩; exact absurd (h x (by simp)) h1
theorem tchk_iff {l : List Rl} : tchk l = 0 ↔ Tok l := by
 unfold tchk
 by_cases h : l.length > 12
 ·rw [if_pos h]
  exact ⟨fun h => (by cases h), fun h2 => (by have := h2.len; omega)⟩
 ·rw [if_neg h, tfault_iff]
  exact ⟨fun ⟨a, b, _⟩ => ⟨by omega, a, b⟩, fun h => ⟨h.chk, h.key, by simp⟩⟩
theorem Tok.sub {l l' : List Rl} (h : Tok l) (hs : List.Sublist l' l) : Tok l' :=
 ⟨Nat.le_trans hs.length_le h.len, fun x hx => h.chk x (hs.subset hx), h.key.sublist hs⟩
theorem Tok.nodup {l : List Rl} (h : Tok l) : l.Nodup := h.key.imp fun {a b} hk e => by subst e; rw [key_self] at hk; cases hk
theorem tdo_add_tok {t : List Rl} {r : Rl} (h : tdoF t true r = 0) : Tok (t ++ [r]) := by
 unfold tdoF at h
 by_cases h1 : tchk t = 0
 ·rw [if_neg (by simpa using h1)] at h
  have ht := tchk_iff.1 h1
  by_cases h2 : r.chk = 0
  ·rw [if_neg (by simpa using h2), if_pos rfl] at h
   cases h3 : t.any fun x => x.key r with
   | true => rw [h3, if_pos rfl] at h; cases h
   | false =>
    rw [h3, if_neg Bool.false_ne_true] at h
    by_cases h4 : 12 ≤ t.length
    ·rw [if_pos h4] at h; cases h
    ·refine ⟨by simp; omega, fun x hx => ?_, List.pairwise_append.2 ⟨ht.key, by simp, fun a ha b hb => ?_⟩⟩
     ·rcases List.mem_append.1 hx with hx | hx
      ·exact ht.chk x hx
      ·simp at hx; subst hx; exact h2
     ·simp at hb; subst hb
      cases e : a.key b with
      | false => rfl
      | true => rw [List.any_eq_true.2 ⟨a, ha, e⟩] at h3; cases h3
  ·rw [if_pos h2] at h; exact absurd h h2
 ·rw [if_pos h1] at h; exact absurd h h1
end Go.Proofs.YtgkohnjpnnofhaaGreat
