/- table.Room. -/
import Derived.Test.YtpkcdfgjcodidaaDoorTable3
namespace Go.Proofs.YtpkcdfgjcodidaaDoor
open Go.RowKit
set_option maxRecDepth 100000
set_option linter.unusedSimpArgs false
set_option linter.unusedVariables false

/-- a block of eight cells that holds an op -/
structure OpAt (w : World) (g : Nat) (x : Opx) : Prop where
  c2 : w.cell? ⟨g, 2, none⟩ = some (.int .i64 x.r.p)
  c3 : w.cell? ⟨g, 3, none⟩ = some (.int .i64 x.r.m)
  c4 : w.cell? ⟨g, 4, none⟩ = some (.int .i64 x.r.b)
  c5 : w.cell? ⟨g, 5, none⟩ = some (.int .i64 x.r.o)
  c6 : w.cell? ⟨g, 6, none⟩ = some (.int .i64 x.r.s)
  c7 : w.cell? ⟨g, 7, none⟩ = some (.int .i64 x.r.v)
  lt : g < w.heap.size
theorem OpAt.below {w w' : World} {g : Nat} {x : Opx} (h : OpAt w g x) (hb : Below w.heap.size w w') : OpAt w' g x :=
  have c := fun i => hb.cell (p := ⟨g, i, none⟩) h.lt
  ⟨(c 2).trans h.c2, (c 3).trans h.c3, (c 4).trans h.c4, (c 5).trans h.c5, (c 6).trans h.c6, (c 7).trans h.c7, Nat.lt_of_lt_of_le h.lt hb.size⟩

set_option maxHeartbeats 800000 in
theorem roomc_any (x : Rl) (o : Opx) (g : Nat) (wa : World) (ho : OpAt wa g o) :
    Calls Tryd.prog 93 #[.agg #[.int .i64 x.p, .int .i64 x.m, .int .i64 x.b, .int .i64 x.o, .int .i64 x.s, .int .i64 x.v], .pointer (some ⟨g, 0, none⟩)] wa fun e w' => e = .returned (.bool (x.key o.r)) ∧ Below wa.heap.size wa w' := by
  (obtain ⟨w, hw⟩ : ∃ w : World, w = wa.alloc (.cells #[.int .i64 x.p, .int .i64 x.m, .int .i64 x.b, .int .i64 x.o, .int .i64 x.s, .int .i64 x.v] 25) := ⟨_, rfl⟩); have hb0 : Below wa.heap.size wa w := (hw ▸ (Below.refl _ _).alloc (Nat.le_refl _) _); have hs0 : wa.heap.size < w.heap.size := (by rw [hw]; simp); have HS1 := Lib.hid (show wa.heap.size + 1 = w.heap.size by rw [hw]; simp)
  have HA := Lib.hid (show RlAt w wa.heap.size x from hw ▸ RlAt.new wa x 25)
  obtain ⟨a0, a1, a2, a3, a4, a5, -⟩ := HA.out
  obtain ⟨c2, c3, c4, c5, c6, c7, hg⟩ := ho.below hb0
  have HK := Lib.hid (fun w => key_any x o.r w)
  clear ho
  rw [hw] at c2 c3 c4 c5 c6 c7
  go_enter Tryd.func93, Tryd.ntmps93
  go_wp2_with fail
  rw [← hw]; clear hw
  go_at_call 88
  refine (HK.out _).mono ?_
  rintro e w2 ⟨rfl, hb2⟩
  go_wp2_with fail
  go_ret
  exact ⟨rfl, hb0.trans (hb2.mono (Nat.le_of_lt hs0))⟩

set_option maxHeartbeats 1600000 in
theorem roomi_any (A : Option Addr) (n cp : Nat) (l : List Rl) (w : World) (hn : n = l.length) (h : RowC w 6 A n cp (l.map Rl.cells)) (hl : l.length ≤ 4294967296) (a : Addr) (p : Rl → Bool)
    (hf : ∀ x ∈ l, ∀ W, Below w.heap.size w W → Calls Tryd.prog 93 #[.agg #[.int .i64 x.p, .int .i64 x.m, .int .i64 x.b, .int .i64 x.o, .int .i64 x.s, .int .i64 x.v], .pointer (some a)] W fun e W' => e = .returned (.bool (p x)) ∧ Below W.heap.size W W') :
    Calls Tryd.prog 105 #[.slice A n cp, .func (.func 93) #[] #[.pointer (some a)]] w fun e w' => e = .returned (.int .i64 (fidx p l)) ∧ Below w.heap.size w w' := by
  subst hn
  have H : Hid (Rules w A cp l) := h
  have HF := Lib.hid hf
  clear h hf
  go_enter Tryd.func105, Tryd.ntmps105
  go_wp2_with fail
  go_loopw [8] (fun i wr => ∃ k : Nat, k ≤ l.length ∧ i = .int .i64 k ∧ Below w.heap.size w wr ∧ Hid (∀ j (hj : j < l.length), j < k → p l[j] = false)) (fun i _ => l.length - (intOf i).toNat)
  case atStart => exact ⟨0, by omega, rfl, Below.refl _ _, fun j _ hj => absurd hj (by omega)⟩
  case round =>
    obtain ⟨k, hk, rfl, hbel, hno⟩ := hrel
    have hwr := hbel.size
    by_cases hlt : k < l.length
    · obtain ⟨b, o, rfl, hb, c0, c1, c2, c3, c4, c5⟩ := (H.out.below hbel).at_ hlt
      have HK := Lib.hid (HF.out l[k] (List.getElem_mem hlt) wr hbel)
      cases hp : p l[k] with
      | true =>
        have HX := Lib.hid (fidx_found hlt hp fun j hj => hno.out j (by omega) hj)
        rw [hp] at HK
        clear hp
        go_wp2_with (go_at_call 93; refine HK.out.mono ?_; rintro e w2 ⟨rfl, hb2⟩)
        go_ret
        exact ⟨by rw [HX.out]; rfl, hbel.trans (hb2.mono hwr)⟩
      | false =>
        have HX := Lib.hid (fun j (hj : j < l.length) (hjk : j < k + 1) => show p l[j] = false from if e : j < k then hno.out j hj e else (by obtain rfl : j = k := (by omega); exact hp))
        rw [hp] at HK
        clear hp
        go_wp2_with (go_at_call 93; refine HK.out.mono ?_; rintro e w2 ⟨rfl, hb2⟩)
        go_roundw
        case rel => exact ⟨k + 1, by omega, by go_num, hbel.trans (hb2.mono hwr), HX.out⟩
        case measure => simp [intOf]; omega
    · have HX := Lib.hid (fidx_none fun j hj => hno.out j hj (by omega))
      go_wp2_with fail
      go_ret
      exact ⟨by rw [HX.out]; rfl, hbel⟩
theorem roomk_any (A : Option Addr) (cp : Nat) (l : List Rl) (w : World) (h : Rules w A cp l) (hl : l.length ≤ 65536) (o : Opx) (g : Nat) (ho : OpAt w g o) :
    Calls Tryd.prog 86 #[.slice A l.length cp, .func (.func 93) #[] #[.pointer (some ⟨g, 0, none⟩)]] w fun e w' => e = .returned (.bool (l.any fun x => x.key o.r)) ∧ Below w.heap.size w w' := by
  have H := Lib.hid (roomi_any A l.length cp l w rfl h (by omega) ⟨g, 0, none⟩ (fun x => x.key o.r) fun x _ W hW => roomc_any x o g W (ho.below hW))
  have HX := Lib.hid (fidx_any (fun x : Rl => x.key o.r) l)
  clear h ho
  go_enter Tryd.func86, Tryd.ntmps86
  go_wp2_with (go_at_call 105; refine (H.out).mono ?_; rintro e w2 ⟨rfl, hbw2⟩; obtain ⟨hcw2, hfw2⟩ := bcell hbw2; have hzw2 := hbw2.size; (try simp at hzw2); have hBw2 := bstep (w := w) (by go_grown) hbw2; (try have : wa.heap.size < w2.heap.size := by omega); (try have : w.heap.size < w2.heap.size := by omega); (try have : w.heap.size + 1 < w2.heap.size := by omega); (try have : w.heap.size + 1 + 1 < w2.heap.size := by omega); (try have : w.heap.size + 1 + 1 + 1 < w2.heap.size := by omega))
  go_ret
  exact ⟨ret_bool HX.out, by go_grown⟩

/-- does an op clash with a table? -/
def clash (a : List Rl) (l : List Opx) : Bool := l.any fun o => a.any fun x => x.key o.r
def roomE (a b : List Rl) : Int := if t2chk a b ≠ 0 then t2chk a b else if clash a (lacks b a true) = true then 7 else 0
def roomN (a b : List Rl) : Int := if roomE a b = 0 then (a.length : Int) + ((lacks b a true).length : Int) else 0
theorem clash_take {a : List Rl} {l : List Opx} {k : Nat} (hk : k < l.length) : clash a (l.take (k + 1)) = (clash a (l.take k) || a.any fun x => x.key l[k].r) := by
  unfold clash; rw [List.take_succ_eq_append_getElem hk, List.any_append]; simp
theorem clash_mem {a : List Rl} {l : List Opx} {k : Nat} (hk : k < l.length) (h : (a.any fun x => x.key l[k].r) = true) : clash a l = true :=
  List.any_eq_true.2 ⟨l[k], List.getElem_mem hk, h⟩
set_option maxHeartbeats 1600000 in
theorem room_ok (A A2 : Option Addr) (cp cp2 : Nat) (a b : List Rl) (w : World) (h : Rules w A cp a) (h2 : Rules w A2 cp2 b) (hz : t2chk a b = 0) :
    Calls Tryd.prog 57 #[.slice A a.length cp, .slice A2 b.length cp2] w fun e w' => e = .returned (.tuple #[.int .i64 (roomN a b), errOf (roomE a b)]) ∧ Below w.heap.size w w' := by
  have hmk := hmf
  have H := Lib.hid h
  have H2 := Lib.hid h2
  have HT := Lib.hid (fun A A2 cp cp2 w h h2 => tboth_ok A A2 cp cp2 a b w h h2 hz)
  have ha := tchk_len (t2chk_0 hz).1
  have hb := tchk_len (t2chk_0 hz).2
  have HM := Lib.hid (fun A A2 cp cp2 w h h2 => lacks_any A A2 cp cp2 b a true w h h2 (by omega) (by omega))
  have n2 := lacks_le b a true
  have HE := Lib.hid (show roomE a b = if clash a (lacks b a true) = true then 7 else 0 by unfold roomE; rw [if_neg (by simpa using hz)])
  have HN := Lib.hid (show roomN a b = if roomE a b = 0 then (a.length : Int) + ((lacks b a true).length : Int) else 0 from rfl)
  clear h h2 hz
  generalize lacks b a true = l at *
  go_enter Tryd.func57, Tryd.ntmps57
  go_wp2_with fail
  (go_at_call 91; refine (HT.out _ _ _ _ _ H.out H2.out).mono ?_; rintro e w2 ⟨rfl, hbw2⟩; obtain ⟨hcw2, hfw2⟩ := bcell hbw2; have hzw2 := hbw2.size; (try simp at hzw2); have hBw2 := bstep (w := w) (by go_grown) hbw2; (try have : wa.heap.size < w2.heap.size := by omega); (try have : w.heap.size < w2.heap.size := by omega); (try have : w.heap.size + 1 < w2.heap.size := by omega); (try have : w.heap.size + 1 + 1 < w2.heap.size := by omega); (try have : w.heap.size + 1 + 1 + 1 < w2.heap.size := by omega))
  go_wp2_with fail
  (go_at_call 92; refine (HM.out _ _ _ _ _ (H2.out.below (by go_grown)) (H.out.below (by go_grown))).mono ?_; rintro e w4 ⟨v4, rfl, hOw4, hbw4⟩; have HOw4 := Lib.hid hOw4; clear hOw4; obtain ⟨hcw4, hfw4⟩ := bcell hbw4; have hzw4 := hbw4.size; (try simp at hzw4); have hBw4 := bstep (w := w) (by go_grown) hbw4; (try have : wa.heap.size < w4.heap.size := by omega); (try have : w.heap.size < w4.heap.size := by omega); (try have : w.heap.size + 1 < w4.heap.size := by omega); (try have : w.heap.size + 1 + 1 < w4.heap.size := by omega); (try have : w.heap.size + 1 + 1 + 1 < w4.heap.size := by omega))
  obtain ⟨A4, c4, rfl, h4⟩ := HOw4.out.ops
  have H4 := Lib.hid h4
  clear h4 hcw2 hfw2 hcw4 hfw4
  go_wp2_with fail
  go_loopw [21] (fun i wr => ∃ k : Nat, k ≤ l.length ∧ i = .int .i64 k ∧ Below w4.heap.size w4 wr ∧ Hid (clash a (l.take k) = false)) (fun i _ => l.length - (intOf i).toNat)
  case atStart => exact ⟨0, by omega, rfl, Below.refl _ _, rfl⟩
  case round =>
    obtain ⟨k, hk, rfl, hbel, hno⟩ := hrel
    have hwr := hbel.size
    have hbw : Below w.heap.size w wr := hBw4.trans (hbel.mono hBw4.size)
    by_cases hlt : k < l.length
    · obtain ⟨b0, o0, rfl, hb0, c0, c1, c2, c3, c4', c5, c6, c7⟩ := (H4.out.below hbel).at_ hlt
      have HS := Lib.hid (clash_take (a := a) hlt)
      have HMM := Lib.hid (clash_mem (a := a) hlt)
      have hr := Lib.hid (fun (A : Option Addr) (cp : Nat) (w : World) (h : Rules w A cp a) (g : Nat) (ho : OpAt w g l[k]) => roomk_any A cp a w h (by omega) l[k] g ho)
      cases hp : a.any fun x => x.key l[k].r with
      | true =>
        have HX := Lib.hid (HE.out.trans (if_pos (HMM.out hp)))
        have HY := Lib.hid (HN.out.trans (if_neg (by rw [HX.out]; decide)))
        rw [hp] at hr
        clear hp HMM HS
        go_wp2_with fail
        refine (hr.out _ _ _ (H.out.below (by go_grown)) _ ⟨by simp [go_sem], by simp [go_sem], by simp [go_sem], by simp [go_sem], by simp [go_sem], by simp [go_sem], by simp⟩).mono ?_
        rintro e w5 ⟨rfl, hb5⟩
        have hB5 : Below w.heap.size w w5 := bstep (by go_grown) hb5
        go_wp2_with fail
        go_ret2
        exact ⟨by rw [HX.out, HY.out]; rfl, hB5⟩
      | false =>
        have HX := Lib.hid (show clash a (l.take (k + 1)) = false by rw [HS.out, hno.out, hp]; rfl)
        rw [hp] at hr
        clear hp HMM HS
        go_wp2_with fail
        refine (hr.out _ _ _ (H.out.below (by go_grown)) _ ⟨by simp [go_sem], by simp [go_sem], by simp [go_sem], by simp [go_sem], by simp [go_sem], by simp [go_sem], by simp⟩).mono ?_
        rintro e w5 ⟨rfl, hb5⟩
        have hB5 : Below w4.heap.size w4 w5 := bstep (by go_grown) hb5
        go_wp2_with fail
        go_roundw
        case rel => exact ⟨k + 1, by omega, by go_num, hB5, HX.out⟩
        case measure => simp [intOf]; omega
    · obtain rfl : k = l.length := by omega
      have hc : clash a l = false := by have := hno.out; rwa [List.take_length] at this
      have HX := Lib.hid (HE.out.trans (if_neg (by rw [hc]; exact Bool.false_ne_true)))
      have HY := Lib.hid (HN.out.trans (if_pos HX.out))
      clear hno hc
      go_wp2_with fail
      go_ret2
      exact ⟨by rw [HX.out, HY.out]; rfl, hbw⟩
theorem room_bad (A A2 : Option Addr) (cp cp2 : Nat) (a b : List Rl) (w : World) (h : Rules w A cp a) (h2 : Rules w A2 cp2 b) (hz : t2chk a b ≠ 0) :
    Calls Tryd.prog 57 #[.slice A a.length cp, .slice A2 b.length cp2] w fun e w' => e = .returned (.tuple #[.int .i64 (roomN a b), errOf (roomE a b)]) ∧ Below w.heap.size w w' := by
  have HE := Lib.hid (show roomE a b = t2chk a b by unfold roomE; rw [if_pos hz])
  have HN := Lib.hid (show roomN a b = 0 by unfold roomN; rw [HE.out, if_neg hz])
  have HT := Lib.hid (tboth_bad A A2 cp cp2 a b w h h2 hz)
  have HZ := Lib.hid hz
  clear h h2 hz
  generalize t2chk a b = q at *
  go_enter Tryd.func57, Tryd.ntmps57
  go_wp2_with (go_at_call 91; refine (HT.out).mono ?_; rintro e w2 ⟨rfl, hbw2⟩; obtain ⟨hcw2, hfw2⟩ := bcell hbw2; have hzw2 := hbw2.size; (try simp at hzw2); have hBw2 := bstep (w := w) (by go_grown) hbw2; (try have : wa.heap.size < w2.heap.size := by omega); (try have : w.heap.size < w2.heap.size := by omega); (try have : w.heap.size + 1 < w2.heap.size := by omega); (try have : w.heap.size + 1 + 1 < w2.heap.size := by omega); (try have : w.heap.size + 1 + 1 + 1 < w2.heap.size := by omega))
  go_ret2
  exact ⟨by rw [HE.out, HN.out, errOf_ne HZ.out]; rfl, by go_grown⟩
theorem room_any (A A2 : Option Addr) (cp cp2 : Nat) (a b : List Rl) (w : World) (h : Rules w A cp a) (h2 : Rules w A2 cp2 b) :
    Calls Tryd.prog 57 #[.slice A a.length cp, .slice A2 b.length cp2] w fun e w' => e = .returned (.tuple #[.int .i64 (roomN a b), errOf (roomE a b)]) ∧ Below w.heap.size w w' := by
  by_cases hz : t2chk a b = 0
  · exact room_ok A A2 cp cp2 a b w h h2 hz
  · exact room_bad A A2 cp cp2 a b w h h2 hz
end Go.Proofs.YtpkcdfgjcodidaaDoor
