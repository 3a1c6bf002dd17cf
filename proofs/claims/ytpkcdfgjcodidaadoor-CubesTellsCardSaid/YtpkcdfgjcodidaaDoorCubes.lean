/- What the functions of package cubes come to. -/
import Derived.Test.YtpkcdfgjcodidaaDoorCube
import Derived.Test.YtpkcdfgjcodidaaDoorQuiet
import Derived.Test.YtpkcdfgjcodidaaDoorRow
namespace Go.Proofs.YtpkcdfgjcodidaaDoor
open Go.RowKit
set_option linter.unusedSimpArgs false
set_option linter.unusedVariables false

/-- the fault of some cubes: of the first that has one -/
def cfault : List Cb → Int
  | [] => 0
  | x :: r => if cchk x.m x.b ≠ 0 then cchk x.m x.b else cfault r
def cschk (l : List Cb) : Int := if l.length > 40 then 4 else cfault l

theorem drop_cons {α : Type} {l : List α} {k : Nat} (h : k < l.length) : l.drop k = l[k] :: l.drop (k + 1) := List.drop_eq_getElem_cons h
theorem cfault_step {l : List Cb} {k : Nat} (h : k < l.length) : cfault (l.drop k) = if cchk l[k].m l[k].b ≠ 0 then cchk l[k].m l[k].b else cfault (l.drop (k + 1)) := by
  rw [drop_cons h]; rfl

set_option maxRecDepth 100000 in
set_option maxHeartbeats 800000 in
theorem cscheck_any (A : Option Addr) (c : Nat) (l : List Cb) (w : World) (h : Cubes w A c l) : Calls Tryd.prog 38 #[.slice A l.length c] w fun e w' => e = .returned (errOf (cschk l)) ∧ Below w.heap.size w w' := by
  have H := Lib.hid h
  clear h
  by_cases hl : l.length ≤ 40
  · have HF := Lib.hid (show cschk l = cfault l by unfold cschk; rw [if_neg (by omega)])
    go_enter Tryd.func38, Tryd.ntmps38
    go_wp2_with fail
    go_loopw [12] (fun i wr => ∃ k : Nat, k ≤ l.length ∧ i = .int .i64 k ∧ Below w.heap.size w wr ∧ Hid (cfault l = cfault (l.drop k))) (fun i _ => l.length - (intOf i).toNat)
    case atStart => exact ⟨0, by omega, rfl, Below.refl _ _, rfl⟩
    case round =>
      obtain ⟨k, hk, rfl, hbel, hf⟩ := hrel
      have hwr := hbel.size
      by_cases hlt : k < l.length
      · obtain ⟨b, o, rfl, hb, c0, c1⟩ := (H.out.below hbel).at_ hlt
        have hs := cfault_step hlt
        by_cases hz0 : cchk l[k].m l[k].b = 0
        · have HS := Lib.hid (hf.out.trans (by rw [hs, if_neg (by simpa using hz0)]))
          have HZ := Lib.hid hz0
          clear hs hf hz0
          go_wp2_with (go_at_call 19; refine (ccheck_ok _ _ _ HZ.out).mono ?_; rintro e w2 ⟨rfl, hbw2⟩; obtain ⟨hcw2, hfw2⟩ := bcell hbw2; have hzw2 := hbw2.size; (try simp at hzw2); have hBw2 := bstep (w := w) (by go_grown) hbw2; (try have : wa.heap.size < w2.heap.size := by omega); (try have : w.heap.size < w2.heap.size := by omega); (try have : w.heap.size + 1 < w2.heap.size := by omega); (try have : w.heap.size + 1 + 1 < w2.heap.size := by omega); (try have : w.heap.size + 1 + 1 + 1 < w2.heap.size := by omega))
          go_roundw
          case rel => exact ⟨k + 1, by omega, by go_num, by go_grown, HS.out⟩
          case measure => simp [intOf]; omega
        · have HS := Lib.hid (HF.out.trans (hf.out.trans (by rw [hs, if_pos (by simpa using hz0)])))
          have HZ := Lib.hid hz0
          clear hs hf hz0
          go_wp2_with (go_at_call 19; refine (ccheck_bad _ _ _ HZ.out).mono ?_; rintro e w2 ⟨rfl, hbw2⟩; obtain ⟨hcw2, hfw2⟩ := bcell hbw2; have hzw2 := hbw2.size; (try simp at hzw2); have hBw2 := bstep (w := w) (by go_grown) hbw2; (try have : wa.heap.size < w2.heap.size := by omega); (try have : w.heap.size < w2.heap.size := by omega); (try have : w.heap.size + 1 < w2.heap.size := by omega); (try have : w.heap.size + 1 + 1 < w2.heap.size := by omega); (try have : w.heap.size + 1 + 1 + 1 < w2.heap.size := by omega))
          go_ret
          exact ⟨by rw [HS.out, errOf_ne HZ.out]; rfl, by go_grown⟩
      · have hk' : k = l.length := by omega
        have HS := Lib.hid (HF.out.trans (hf.out.trans (by rw [hk', List.drop_length]; try rfl)))
        clear hf
        go_wp2_with fail
        go_ret
        exact ⟨by rw [HS.out]; rfl, by go_grown⟩
  · have HF := Lib.hid (show cschk l = 4 by unfold cschk; rw [if_pos (by omega)])
    go_enter Tryd.func38, Tryd.ntmps38
    go_wp2_with fail
    go_ret
    exact ⟨by rw [HF.out]; rfl, by go_grown⟩
theorem cscheck_ok (A : Option Addr) (c : Nat) (l : List Cb) (w : World) (h : Cubes w A c l) (hz : cschk l = 0) : Calls Tryd.prog 38 #[.slice A l.length c] w fun e w' => e = .returned .nilIface ∧ Below w.heap.size w w' :=
  (cscheck_any A c l w h).mono fun _ _ ⟨he, hb⟩ => ⟨by rw [he, hz]; rfl, hb⟩
theorem cscheck_bad (A : Option Addr) (c : Nat) (l : List Cb) (w : World) (h : Cubes w A c l) (hz : cschk l ≠ 0) : Calls Tryd.prog 38 #[.slice A l.length c] w fun e w' => e = .returned (.iface 119 (.int .i64 (cschk l))) ∧ Below w.heap.size w w' :=
  (cscheck_any A c l w h).mono fun _ _ ⟨he, hb⟩ => ⟨by rw [he, errOf_ne hz], hb⟩

theorem el_cube : Elem Tryd.prog 74 23 2 16 := elem_of (z := .agg #[.int .i64 0, .int .i64 0]) Tryd.underlying74 (by kernel_rfl) rfl (by omega)
theorem cube_one (x : Cb) : ∀ u ∈ x.cells, u.oneCell' = true := by simp [Cb.cells, Value.oneCell']
theorem cubes_one (l : List Cb) : ∀ cs ∈ l.map Cb.cells, ∀ u ∈ cs, u.oneCell' = true := by
  intro cs hcs
  obtain ⟨x, -, rfl⟩ := List.mem_map.1 hcs
  exact cube_one x

def wloop (a b : Cb) : List Int → List Cb
  | [] => []
  | bit :: r => if bits .and .i64 (bits .andNot .i64 b.m a.m) bit = 0 then wloop a b r
    else ⟨bits .or .i64 a.m bit, bits .or .i64 a.b (bits .andNot .i64 bit b.b)⟩ :: wloop ⟨bits .or .i64 a.m bit, bits .or .i64 a.b (bits .and .i64 bit b.b)⟩ b r
/-- a cube less another one -/
def without (a b : Cb) : List Cb := if cmet a.m a.b b.m b.b = true then wloop a b [8, 4, 2, 1] else [a]
def bitv : Nat → Int
  | 0 => 8
  | 1 => 4
  | 2 => 2
  | 3 => 1
  | _ => 0
theorem wloop_le (b : Cb) : ∀ (l : List Int) (a : Cb), (wloop a b l).length ≤ l.length
  | [], a => by simp [wloop]
  | bit :: r, a => by
    unfold wloop
    split
    · have := wloop_le b r a; simp; omega
    · have := wloop_le b r ⟨bits .or .i64 a.m bit, bits .or .i64 a.b (bits .and .i64 bit b.b)⟩
      simp only [List.length_cons]; omega
theorem without_le (a b : Cb) : (without a b).length ≤ 4 := by
  unfold without; split
  · exact wloop_le b _ a
  · simp

/-- at each round's head of 'without' -/
structure WR (w : World) (base : Nat) (a b a' : Cb) (out : List Cb) (k : Nat) (v : Value) (wr : World) : Prop where
  below : Below w.heap.size w wr
  size : base ≤ wr.heap.size
  a0 : wr.cell? ⟨w.heap.size, 0, none⟩ = some (.int .i64 a'.m)
  a1 : wr.cell? ⟨w.heap.size, 1, none⟩ = some (.int .i64 a'.b)
  f0 : wr.frozen? ⟨w.heap.size, 0, none⟩ = false
  f1 : wr.frozen? ⟨w.heap.size, 1, none⟩ = false
  b0 : wr.cell? ⟨w.heap.size + 1, 0, none⟩ = some (.int .i64 b.m)
  b1 : wr.cell? ⟨w.heap.size + 1, 1, none⟩ = some (.int .i64 b.b)
  own : Owns wr base 23 2 v (out.map Cb.cells)
  eq : wloop a b [8, 4, 2, 1] = out ++ wloop a' b (([8, 4, 2, 1] : List Int).drop k)
  len : out.length ≤ k

theorem bits_drop {k : Nat} (hk : k < 4) : ([8, 4, 2, 1] : List Int).drop k = bitv k :: ([8, 4, 2, 1] : List Int).drop (k + 1) := by
  obtain rfl | rfl | rfl | rfl : k = 0 ∨ k = 1 ∨ k = 2 ∨ k = 3 := by omega
  all_goals rfl
theorem WR.skip {w wr : World} {base k : Nat} {a b a' : Cb} {out : List Cb} {v : Value} (h : WR w base a b a' out k v wr) (hk : k < 4) (ht : bits .and .i64 (bits .andNot .i64 b.m a'.m) (bitv k) = 0) : WR w base a b a' out (k + 1) v wr :=
  { h with
    eq := by rw [h.eq, bits_drop hk]; show out ++ wloop a' b (bitv k :: _) = _; rw [wloop, if_pos ht]
    len := by have := h.len; omega }
theorem WR.step {w wr w' : World} {base k : Nat} {a b a' : Cb} {out : List Cb} {v v' : Value} (h : WR w base a b a' out k v wr) (hk : k < 4) (hlt : w.heap.size + 1 < base) (ht : ¬ bits .and .i64 (bits .andNot .i64 b.m a'.m) (bitv k) = 0)
    (ho : Owns w' base 23 2 v' (out.map Cb.cells ++ [[.int .i64 (bits .or .i64 a'.m (bitv k)), .int .i64 (bits .or .i64 a'.b (bits .andNot .i64 (bitv k) b.b))]])) (hb : Below base wr w') :
    WR w base a b ⟨bits .or .i64 a'.m (bitv k), bits .or .i64 a'.b (bits .and .i64 (bitv k) b.b)⟩ (out ++ [⟨bits .or .i64 a'.m (bitv k), bits .or .i64 a'.b (bits .andNot .i64 (bitv k) b.b)⟩]) (k + 1) v'
      ((w'.setCell ⟨w.heap.size, 0, none⟩ (.int .i64 (bits .or .i64 a'.m (bitv k)))).setCell ⟨w.heap.size, 1, none⟩ (.int .i64 (bits .or .i64 a'.b (bits .and .i64 (bitv k) b.b)))) := by
  have c := fun b o (h : b < base) => hb.cell (p := ⟨b, o, none⟩) h
  have f := fun b o (h : b < base) => hb.frozen (p := ⟨b, o, none⟩) h
  refine ⟨?_, ?_, ?_, ?_, ?_, ?_, ?_, ?_, ?_, ?_, ?_⟩
  · exact ((h.below.trans (hb.mono (by omega))).setCell (Nat.le_refl _) _).setCell (Nat.le_refl _) _
  · simp; exact Nat.le_trans h.size hb.size
  · rw [World.cell?_setCell_other _ _ _ _ (by simp), World.cell?_setCell_same _ _ _ ((c _ _ (by omega)).trans h.a0)]
  · rw [World.cell?_setCell_same _ _ _ ((World.cell?_setCell_other _ _ _ _ (by simp)).trans ((c _ _ (by omega)).trans h.a1))]
  · rw [World.frozen?_setCell, World.frozen?_setCell, f _ _ (by omega)]; exact h.f0
  · rw [World.frozen?_setCell, World.frozen?_setCell, f _ _ (by omega)]; exact h.f1
  · rw [World.cell?_setCell_other _ _ _ _ (by simp), World.cell?_setCell_other _ _ _ _ (by simp), c _ _ (by omega)]; exact h.b0
  · rw [World.cell?_setCell_other _ _ _ _ (by simp), World.cell?_setCell_other _ _ _ _ (by simp), c _ _ (by omega)]; exact h.b1
  · rw [List.map_append]
    exact (ho.setCell (by simp; omega) _).setCell (by simp; omega) _
  · rw [h.eq, bits_drop hk]
    show out ++ wloop a' b (bitv k :: _) = _
    rw [wloop, if_neg ht, List.append_assoc]
    rfl
  · have := h.len
    simp; omega

/-- what a function that makes a slice of cubes gives back -/
def RetCubes (l : List Cb) (w : World) (e : Ending) (w' : World) : Prop := ∃ v, e = .returned v ∧ Owns w' w.heap.size 23 2 v (l.map Cb.cells) ∧ Below w.heap.size w w'

set_option maxRecDepth 100000 in
set_option maxHeartbeats 800000 in
theorem without_no (a b : Cb) (w : World) (h : cmet a.m a.b b.m b.b = false) : Calls Tryd.prog 104 #[.agg #[.int .i64 a.m, .int .i64 a.b], .agg #[.int .i64 b.m, .int .i64 b.b]] w (RetCubes (without a b) w) := by
  have HF := Lib.hid (show without a b = [a] by unfold without; rw [h]; rfl)
  have HM := Lib.hid (fun w => cmeet_no _ _ _ _ w h)
  clear h
  go_enter Tryd.func104, Tryd.ntmps104
  go_wp2_with fail
  (go_at_call 26; refine (HM.out _).mono ?_; rintro e w1 ⟨rfl, hbw1⟩; obtain ⟨hcw1, hfw1⟩ := bcell hbw1; have hzw1 := hbw1.size; (try simp at hzw1); have hBw1 := bstep (w := w) (by go_grown) hbw1; (try have : wa.heap.size < w1.heap.size := by omega); (try have : w.heap.size < w1.heap.size := by omega); (try have : w.heap.size + 1 < w1.heap.size := by omega); (try have : w.heap.size + 1 + 1 < w1.heap.size := by omega); (try have : w.heap.size + 1 + 1 + 1 < w1.heap.size := by omega))
  go_wp2_with fail
  go_ret
  refine ⟨_, rfl, ?_, by go_grown⟩
  rw [HF.out]
  go_light
  exact Owns.made (k := 2) (xs := [a.cells]) (cur := #[.int .i64 a.m, .int .i64 a.b]) (by simp) rfl (by go_size) rfl (by simp [Cb.cells]) (by simp [maxLen])

set_option maxRecDepth 100000 in
set_option maxHeartbeats 800000 in
theorem without_yes (a b : Cb) (w : World) (h : cmet a.m a.b b.m b.b = true) : Calls Tryd.prog 104 #[.agg #[.int .i64 a.m, .int .i64 a.b], .agg #[.int .i64 b.m, .int .i64 b.b]] w (RetCubes (without a b) w) := by
  have HF := Lib.hid (show without a b = wloop a b [8, 4, 2, 1] by unfold without; rw [h]; rfl)
  have HM := Lib.hid (fun w => cmeet_yes _ _ _ _ w h)
  clear h
  go_enter Tryd.func104, Tryd.ntmps104
  go_wp2_with fail
  (go_at_call 26; refine (HM.out _).mono ?_; rintro e w1 ⟨rfl, hbw1⟩; obtain ⟨hcw1, hfw1⟩ := bcell hbw1; have hzw1 := hbw1.size; (try simp at hzw1); have hBw1 := bstep (w := w) (by go_grown) hbw1; (try have : wa.heap.size < w1.heap.size := by omega); (try have : w.heap.size < w1.heap.size := by omega); (try have : w.heap.size + 1 < w1.heap.size := by omega); (try have : w.heap.size + 1 + 1 < w1.heap.size := by omega); (try have : w.heap.size + 1 + 1 + 1 < w1.heap.size := by omega))
  go_wp2_with fail
  have HST : Hid (WR w (w1.heap.size + 1) a b a [] 0 (.slice none 0 0) (w1.alloc (.cells #[.int .i64 (bits .or .i64 a.m b.m), .int .i64 (bits .or .i64 a.b b.b)] 23))) := by
    refine ⟨by go_grown, by simp, ?_, ?_, ?_, ?_, ?_, ?_, Owns.nil_ _ _ _ _, rfl, by simp⟩
    all_goals (simp [go_sem, hcw1, hfw1, *])
  generalize hW : w1.alloc (.cells #[.int .i64 (bits .or .i64 a.m b.m), .int .i64 (bits .or .i64 a.b b.b)] 23) = W1 at *
  have hbase : w.heap.size + 1 < w1.heap.size + 1 := by omega
  generalize w1.heap.size + 1 = base at *
  clear hcw1 hfw1 hbw1 hBw1 hzw1 hW
  go_loopw [4, 7] (fun v i wr => ∃ k a' out, k ≤ 4 ∧ i = .int .i64 (bitv k) ∧ WR w base a b a' out k v wr) (fun _ i _ => (intOf i).toNat)
  case atStart => exact ⟨0, a, [], by omega, rfl, HST.out⟩
  case round =>
    obtain ⟨k, a', out, hk, rfl, hr⟩ := hrel
    have HR := Lib.hid hr
    obtain ⟨hbel, hsz, a0, a1, f0, f1, b0, b1, hown, heq, hlen⟩ := hr
    have HO := Lib.hid hown
    have HE := Lib.hid heq
    have hwr := hbel.size
    have hlt0 : w.heap.size < wr.heap.size := by omega
    have hlt1 : w.heap.size + 1 < wr.heap.size := by omega
    clear hown heq HST
    by_cases h4 : k = 4
    · subst h4
      go_wp2_with fail
      go_ret
      refine ⟨_, rfl, ?_, hbel⟩
      rw [HF.out, HE.out]
      simpa [wloop] using HO.out.mono (by omega)
    · obtain rfl | rfl | rfl | rfl : k = 0 ∨ k = 1 ∨ k = 2 ∨ k = 3 := by omega
      all_goals simp only [bitv]
      · by_cases ht : bits .and .i64 (bits .andNot .i64 b.m a'.m) 8 = 0
        · have ht' : (bits .and .i64 (bits .andNot .i64 b.m a'.m) 8 == 0) = true := by simpa using ht
          have HT := Lib.hid ht
          clear ht
          go_wp2_with fail
          go_roundw
          case rel => exact ⟨0 + 1, a', out, by omega, rfl, HR.out.skip (by omega) HT.out⟩
          case measure => simp [intOf]
        · have ht' : (bits .and .i64 (bits .andNot .i64 b.m a'.m) 8 == 0) = false := by simpa using ht
          have HT := Lib.hid ht
          clear ht
          go_wp2_with (at_builtin; refine wpList_push_new el_cube rfl (.tmp 30) (.tmp 43) rfl base _ _ rfl HO.out [.int .i64 (bits .or .i64 a'.m 8), .int .i64 (bits .or .i64 a'.b (bits .andNot .i64 8 b.b))] _ _ rfl rfl rfl rfl (by omega) (by simp; omega) hsz ?_)
          intro v' w' hown' hb'
          have hc0 := fun b o (h : b < base) => hb'.cell (p := ⟨b, o, none⟩) h
          have hf0 := fun b o (h : b < base) => hb'.frozen (p := ⟨b, o, none⟩) h
          have hq1 : w.heap.size < base := by omega
          have HN := Lib.hid hown'
          clear hown'
          go_wp2_with fail
          go_roundw
          case rel => exact ⟨0 + 1, _, _, by omega, rfl, HR.out.step (by omega) hbase HT.out HN.out hb'⟩
          case measure => simp [intOf]
      · by_cases ht : bits .and .i64 (bits .andNot .i64 b.m a'.m) 4 = 0
        · have ht' : (bits .and .i64 (bits .andNot .i64 b.m a'.m) 4 == 0) = true := by simpa using ht
          have HT := Lib.hid ht
          clear ht
          go_wp2_with fail
          go_roundw
          case rel => exact ⟨1 + 1, a', out, by omega, rfl, HR.out.skip (by omega) HT.out⟩
          case measure => simp [intOf]
        · have ht' : (bits .and .i64 (bits .andNot .i64 b.m a'.m) 4 == 0) = false := by simpa using ht
          have HT := Lib.hid ht
          clear ht
          go_wp2_with (at_builtin; refine wpList_push_new el_cube rfl (.tmp 30) (.tmp 43) rfl base _ _ rfl HO.out [.int .i64 (bits .or .i64 a'.m 4), .int .i64 (bits .or .i64 a'.b (bits .andNot .i64 4 b.b))] _ _ rfl rfl rfl rfl (by omega) (by simp; omega) hsz ?_)
          intro v' w' hown' hb'
          have hc0 := fun b o (h : b < base) => hb'.cell (p := ⟨b, o, none⟩) h
          have hf0 := fun b o (h : b < base) => hb'.frozen (p := ⟨b, o, none⟩) h
          have hq1 : w.heap.size < base := by omega
          have HN := Lib.hid hown'
          clear hown'
          go_wp2_with fail
          go_roundw
          case rel => exact ⟨1 + 1, _, _, by omega, rfl, HR.out.step (by omega) hbase HT.out HN.out hb'⟩
          case measure => simp [intOf]
      · by_cases ht : bits .and .i64 (bits .andNot .i64 b.m a'.m) 2 = 0
        · have ht' : (bits .and .i64 (bits .andNot .i64 b.m a'.m) 2 == 0) = true := by simpa using ht
          have HT := Lib.hid ht
          clear ht
          go_wp2_with fail
          go_roundw
          case rel => exact ⟨2 + 1, a', out, by omega, rfl, HR.out.skip (by omega) HT.out⟩
          case measure => simp [intOf]
        · have ht' : (bits .and .i64 (bits .andNot .i64 b.m a'.m) 2 == 0) = false := by simpa using ht
          have HT := Lib.hid ht
          clear ht
          go_wp2_with (at_builtin; refine wpList_push_new el_cube rfl (.tmp 30) (.tmp 43) rfl base _ _ rfl HO.out [.int .i64 (bits .or .i64 a'.m 2), .int .i64 (bits .or .i64 a'.b (bits .andNot .i64 2 b.b))] _ _ rfl rfl rfl rfl (by omega) (by simp; omega) hsz ?_)
          intro v' w' hown' hb'
          have hc0 := fun b o (h : b < base) => hb'.cell (p := ⟨b, o, none⟩) h
          have hf0 := fun b o (h : b < base) => hb'.frozen (p := ⟨b, o, none⟩) h
          have hq1 : w.heap.size < base := by omega
          have HN := Lib.hid hown'
          clear hown'
          go_wp2_with fail
          go_roundw
          case rel => exact ⟨2 + 1, _, _, by omega, rfl, HR.out.step (by omega) hbase HT.out HN.out hb'⟩
          case measure => simp [intOf]
      · by_cases ht : bits .and .i64 (bits .andNot .i64 b.m a'.m) 1 = 0
        · have ht' : (bits .and .i64 (bits .andNot .i64 b.m a'.m) 1 == 0) = true := by simpa using ht
          have HT := Lib.hid ht
          clear ht
          go_wp2_with fail
          go_roundw
          case rel => exact ⟨3 + 1, a', out, by omega, rfl, HR.out.skip (by omega) HT.out⟩
          case measure => simp [intOf]
        · have ht' : (bits .and .i64 (bits .andNot .i64 b.m a'.m) 1 == 0) = false := by simpa using ht
          have HT := Lib.hid ht
          clear ht
          go_wp2_with (at_builtin; refine wpList_push_new el_cube rfl (.tmp 30) (.tmp 43) rfl base _ _ rfl HO.out [.int .i64 (bits .or .i64 a'.m 1), .int .i64 (bits .or .i64 a'.b (bits .andNot .i64 1 b.b))] _ _ rfl rfl rfl rfl (by omega) (by simp; omega) hsz ?_)
          intro v' w' hown' hb'
          have hc0 := fun b o (h : b < base) => hb'.cell (p := ⟨b, o, none⟩) h
          have hf0 := fun b o (h : b < base) => hb'.frozen (p := ⟨b, o, none⟩) h
          have hq1 : w.heap.size < base := by omega
          have HN := Lib.hid hown'
          clear hown'
          go_wp2_with fail
          go_roundw
          case rel => exact ⟨3 + 1, _, _, by omega, rfl, HR.out.step (by omega) hbase HT.out HN.out hb'⟩
          case measure => simp [intOf]
end Go.Proofs.YtpkcdfgjcodidaaDoor
