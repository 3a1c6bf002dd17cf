/- What table.All, Diff, Same come to. -/
import Derived.Test.YtpjadjoekdcjiaaDoorTable2
namespace Go.Proofs.YtpjadjoekdcjiaaDoor
open Go.RowKit
set_option maxRecDepth 100000
set_option linter.unusedSimpArgs false
set_option linter.unusedVariables false

/-- an op, and its cells -/
structure Opx where
  s : Int
  add : Bool
  r : Rl
deriving DecidableEq
instance : Inhabited Opx := ⟨⟨0, false, default⟩⟩
def Opx.cells (x : Opx) : List Value := [.int .i64 x.s, .bool x.add, .int .i64 x.r.p, .int .i64 x.r.m, .int .i64 x.r.b, .int .i64 x.r.o, .int .i64 x.r.s, .int .i64 x.r.v]
def Ops (w : World) (A : Option Addr) (c : Nat) (l : List Opx) : Prop := RowC w 8 A l.length c (l.map Opx.cells)
theorem Ops.below {w w' : World} {A : Option Addr} {c : Nat} {l : List Opx} (h : Ops w A c l) (hb : Below w.heap.size w w') : Ops w' A c l := RowC.below h hb
theorem Ops.le {w : World} {A : Option Addr} {c : Nat} {l : List Opx} (h : Ops w A c l) : l.length ≤ c := h.2.1
theorem Ops.at_ {w : World} {A : Option Addr} {c : Nat} {l : List Opx} (h : Ops w A c l) {i : Nat} (hi : i < l.length) : ∃ b o, A = some ⟨b, o, none⟩ ∧ b < w.heap.size ∧
    w.cell? ⟨b, o + i * 8, none⟩ = some (.int .i64 l[i].s) ∧ w.cell? ⟨b, o + i * 8 + 1, none⟩ = some (.bool l[i].add) ∧ w.cell? ⟨b, o + i * 8 + 2, none⟩ = some (.int .i64 l[i].r.p) ∧
    w.cell? ⟨b, o + i * 8 + 3, none⟩ = some (.int .i64 l[i].r.m) ∧ w.cell? ⟨b, o + i * 8 + 4, none⟩ = some (.int .i64 l[i].r.b) ∧ w.cell? ⟨b, o + i * 8 + 5, none⟩ = some (.int .i64 l[i].r.o) ∧
    w.cell? ⟨b, o + i * 8 + 6, none⟩ = some (.int .i64 l[i].r.s) ∧ w.cell? ⟨b, o + i * 8 + 7, none⟩ = some (.int .i64 l[i].r.v) := by
  obtain ⟨b, o, cs, e, hlt, hx, hc⟩ := RowC.at_ h hi
  rw [List.getElem?_map, List.getElem?_eq_getElem hi] at hx
  simp only [Option.map_some, Option.some.injEq] at hx
  subst hx
  exact ⟨b, o, e, hlt, hc 0 _ rfl, hc 1 _ rfl, hc 2 _ rfl, hc 3 _ rfl, hc 4 _ rfl, hc 5 _ rfl, hc 6 _ rfl, hc 7 _ rfl⟩
theorem el_op : Elem Tryd.prog 76 92 8 64 := elem_of (z := .agg #[.int .i64 0, .bool false, .int .i64 0, .int .i64 0, .int .i64 0, .int .i64 0, .int .i64 0, .int .i64 0]) Tryd.underlying76 (by kernel_rfl) rfl (by omega)
theorem Owns.ops {w : World} {base e : Nat} {v : Value} {l : List Opx} (h : Owns w base e 8 v (l.map Opx.cells)) : ∃ A c, v = .slice A l.length c ∧ Ops w A c l := by
  obtain ⟨A, c, rfl, hr⟩ := h.row
  rw [List.length_map] at hr ⊢
  exact ⟨A, c, rfl, hr⟩
theorem ops_one (l : List Opx) : ∀ cs ∈ l.map Opx.cells, ∀ u ∈ cs, u.oneCell' = true := by
  intro cs hcs
  obtain ⟨x, -, rfl⟩ := List.mem_map.1 hcs
  simp [Opx.cells, Value.oneCell']

theorem tcontains_ok (m : List Rl) (r : Rl) (b : Bool) (hb : (m.any fun x => decide (r = x)) = b) (hm : m.length ≤ 65536) : ∀ A cp w, Rules w A cp m →
    Calls Tryd.prog 189 #[.slice A m.length cp, .agg #[.int .i64 r.p, .int .i64 r.m, .int .i64 r.b, .int .i64 r.o, .int .i64 r.s, .int .i64 r.v]] w fun e w' => e = .returned (.bool b) ∧ Below w.heap.size w w' :=
  fun A cp w h => hb ▸ tcontains_any A cp m r w h (by omega)

/-- rules of one that another one has not -/
def lacks (a b : List Rl) (add : Bool) : List Opx := a.filterMap fun r => if (b.any fun x => decide (r = x)) = true then none else some ⟨0, add, r⟩
theorem lacks_le (a b : List Rl) (add : Bool) : (lacks a b add).length ≤ a.length := List.length_filterMap_le _ _
theorem lacks_take {a b : List Rl} {add : Bool} {k : Nat} (hk : k < a.length) : lacks (a.take (k + 1)) b add = lacks (a.take k) b add ++ if (b.any fun x => decide (a[k] = x)) = true then [] else [⟨0, add, a[k]⟩] := by
  unfold lacks
  rw [List.take_succ_eq_append_getElem hk, List.filterMap_append]
  congr 1
  rw [List.filterMap_cons, List.filterMap_nil]
  by_cases h : (b.any fun x => decide (a[k] = x)) = true
  · rw [if_pos h, if_pos h]
  · rw [if_neg h, if_neg h]
theorem lacks_none {a b : List Rl} {add : Bool} {k : Nat} (hk : k < a.length) (h : (b.any fun x => decide (a[k] = x)) = true) : lacks (a.take (k + 1)) b add = lacks (a.take k) b add := by
  rw [lacks_take hk, if_pos h, List.append_nil]
theorem lacks_one {a b : List Rl} {add : Bool} {k : Nat} (hk : k < a.length) (h : (b.any fun x => decide (a[k] = x)) = false) : lacks (a.take (k + 1)) b add = lacks (a.take k) b add ++ [⟨0, add, a[k]⟩] := by
  rw [lacks_take hk, if_neg (by rw [h]; exact Bool.false_ne_true)]

def RetT0 (l : List Rl) (er : Value) (w : World) (e : Ending) (w' : World) : Prop := ∃ A c, e = .returned (.tuple #[.slice A l.length c, er]) ∧ Rules w' A c l ∧ Below w.heap.size w w'
theorem RetT0.bad {l : List Rl} {w w' : World} {er : Value} (hl : l = []) (hb : Below w.heap.size w w') : RetT0 l er w (.returned (.tuple #[.slice none 0 0, er])) w' := by
  subst hl; exact ⟨none, 0, rfl, RowC.none_ _ _, hb⟩
def RetOps (l : List Opx) (w : World) (e : Ending) (w' : World) : Prop := ∃ v, e = .returned v ∧ Owns w' w.heap.size 92 8 v (l.map Opx.cells) ∧ Below w.heap.size w w'

set_option maxHeartbeats 1600000 in
theorem lacks_any (A A2 : Option Addr) (cp cp2 : Nat) (a b : List Rl) (add : Bool) (w : World) (h : Rules w A cp a) (h2 : Rules w A2 cp2 b) (ha : a.length ≤ 65536) (hb : b.length ≤ 65536) :
    Calls Tryd.prog 178 #[.slice A a.length cp, .slice A2 b.length cp2, .bool add] w (RetOps (lacks a b add) w) := by
  have H := Lib.hid h
  have H2 := Lib.hid h2
  clear h h2
  go_enter Tryd.func178, Tryd.ntmps178
  go_wp2_with fail
  go_loopw [6, 11] (fun v i wr => ∃ k : Nat, k ≤ a.length ∧ i = .int .i64 k ∧ Below w.heap.size w wr ∧ Owns wr w.heap.size 92 8 v ((lacks (a.take k) b add).map Opx.cells)) (fun _ i _ => a.length - (intOf i).toNat)
  case atStart => exact ⟨0, by omega, rfl, Below.refl _ _, Owns.nil_ _ _ _ _⟩
  case round =>
    obtain ⟨k, hk, rfl, hbel, hown⟩ := hrel
    have hwr := hbel.size
    have HO := Lib.hid hown
    clear hown
    by_cases hlt : k < a.length
    · obtain ⟨b0, o, rfl, hb0, c0, c1, c2, c3, c4, c5⟩ := (H.out.below hbel).at_ hlt
      have hle := Nat.le_trans (lacks_le (a.take k) b add) (List.length_take_le k a)
      cases hp : b.any fun x => decide (a[k] = x) with
      | true =>
        have HC := Lib.hid (tcontains_ok b a[k] true hp hb)
        have HS := Lib.hid (lacks_none (add := add) hlt hp)
        clear hp
        go_wp2_with (go_at_call 189; refine (HC.out _ _ _ (H2.out.below (by go_grown))).mono ?_; rintro e w2 ⟨rfl, hbw2⟩; obtain ⟨hcw2, hfw2⟩ := bcell hbw2; have hzw2 := hbw2.size; (try simp at hzw2); have hBw2 := bstep (w := w) (by go_grown) hbw2; (try have : wa.heap.size < w2.heap.size := by omega); (try have : w.heap.size < w2.heap.size := by omega); (try have : w.heap.size + 1 < w2.heap.size := by omega); (try have : w.heap.size + 1 + 1 < w2.heap.size := by omega); (try have : w.heap.size + 1 + 1 + 1 < w2.heap.size := by omega))
        go_roundw
        case rel => exact ⟨k + 1, by omega, by go_num, by go_grown, by rw [HS.out]; exact HO.out.below (Below.trans ((Below.refl _ _).alloc (Nat.le_refl _) _) (hbw2.mono (by simp)))⟩
        case measure => simp [intOf]; omega
      | false =>
        have HC := Lib.hid (tcontains_ok b a[k] false hp hb)
        have HS := Lib.hid (lacks_one (add := add) hlt hp)
        clear hp
        go_wp2_with fail
        (go_at_call 189; refine (HC.out _ _ _ (H2.out.below (by go_grown))).mono ?_; rintro e w2 ⟨rfl, hbw2⟩; obtain ⟨hcw2, hfw2⟩ := bcell hbw2; have hzw2 := hbw2.size; (try simp at hzw2); have hBw2 := bstep (w := w) (by go_grown) hbw2; (try have : wa.heap.size < w2.heap.size := by omega); (try have : w.heap.size < w2.heap.size := by omega); (try have : w.heap.size + 1 < w2.heap.size := by omega); (try have : w.heap.size + 1 + 1 < w2.heap.size := by omega); (try have : w.heap.size + 1 + 1 + 1 < w2.heap.size := by omega); (try have : wr.heap.size < w2.heap.size := by omega))
        have HO2 := Lib.hid (HO.out.below (w' := w2) (Below.trans ((Below.refl _ _).alloc (Nat.le_refl _) _) (hbw2.mono (by simp))))
        go_wp2_with (at_builtin; refine wpList_push_new el_op rfl (.tmp 19) (.tmp 23) rfl w.heap.size _ _ rfl HO2.out (Opx.cells ⟨0, add, a[k]⟩) _ _ rfl rfl rfl rfl (by omega) (by simp; omega) (by omega) ?_)
        intro v3 w3 hO3 hb3
        have HO3 := Lib.hid hO3
        clear hO3
        go_wp2_with fail
        go_roundw
        case rel => exact ⟨k + 1, by omega, by go_num, hBw2.trans hb3, by rw [HS.out, List.map_append]; exact HO3.out⟩
        case measure => simp [intOf]; omega
    · obtain rfl : k = a.length := by omega
      go_wp2_with fail
      go_ret
      exact ⟨_, rfl, by simpa using HO.out, hbel⟩

/-- the fault of two tables -/
def t2chk (a b : List Rl) : Int := if tchk a ≠ 0 then tchk a else tchk b
theorem tboth_any (A A2 : Option Addr) (cp cp2 : Nat) (a b : List Rl) (w : World) (h : Rules w A cp a) (h2 : Rules w A2 cp2 b) :
    Calls Tryd.prog 177 #[.slice A a.length cp, .slice A2 b.length cp2] w fun e w' => e = .returned (errOf (t2chk a b)) ∧ Below w.heap.size w w' := by
  have H := Lib.hid h
  have H2 := Lib.hid h2
  clear h h2
  by_cases hz : tchk a = 0
  · have HT := Lib.hid (fun A cp w h => tcheck_ok A cp a w h hz)
    have HU := Lib.hid (fun A cp w h => tcheck_any A cp b w h)
    have HF := Lib.hid (show t2chk a b = tchk b by unfold t2chk; rw [if_neg (by simpa using hz)])
    clear hz
    go_enter Tryd.func177, Tryd.ntmps177
    go_wp2_with fail
    (go_at_call 70; refine (HT.out _ _ _ H.out).mono ?_; rintro e w2 ⟨rfl, hbw2⟩; obtain ⟨hcw2, hfw2⟩ := bcell hbw2; have hzw2 := hbw2.size; (try simp at hzw2); have hBw2 := bstep (w := w) (by go_grown) hbw2; (try have : wa.heap.size < w2.heap.size := by omega); (try have : w.heap.size < w2.heap.size := by omega); (try have : w.heap.size + 1 < w2.heap.size := by omega); (try have : w.heap.size + 1 + 1 < w2.heap.size := by omega); (try have : w.heap.size + 1 + 1 + 1 < w2.heap.size := by omega))
    go_wp2_with fail
    (go_at_call 70; refine (HU.out _ _ _ (H2.out.below (by go_grown))).mono ?_; rintro e w3 ⟨rfl, hbw3⟩; obtain ⟨hcw3, hfw3⟩ := bcell hbw3; have hzw3 := hbw3.size; (try simp at hzw3); have hBw3 := bstep (w := w) (by go_grown) hbw3; (try have : wa.heap.size < w3.heap.size := by omega); (try have : w.heap.size < w3.heap.size := by omega); (try have : w.heap.size + 1 < w3.heap.size := by omega); (try have : w.heap.size + 1 + 1 < w3.heap.size := by omega); (try have : w.heap.size + 1 + 1 + 1 < w3.heap.size := by omega))
    go_wp2_with fail
    go_ret
    exact ⟨by rw [HF.out]; rfl, by go_grown⟩
  · have HT := Lib.hid (fun A cp w h => tcheck_bad A cp a w h hz)
    have HF := Lib.hid (show t2chk a b = tchk a by unfold t2chk; rw [if_pos hz])
    have HN := Lib.hid hz
    clear hz
    generalize tchk a = q at *
    go_enter Tryd.func177, Tryd.ntmps177
    go_wp2_with (go_at_call 70; refine (HT.out _ _ _ H.out).mono ?_; rintro e w2 ⟨rfl, hbw2⟩; obtain ⟨hcw2, hfw2⟩ := bcell hbw2; have hzw2 := hbw2.size; (try simp at hzw2); have hBw2 := bstep (w := w) (by go_grown) hbw2; (try have : wa.heap.size < w2.heap.size := by omega); (try have : w.heap.size < w2.heap.size := by omega); (try have : w.heap.size + 1 < w2.heap.size := by omega); (try have : w.heap.size + 1 + 1 < w2.heap.size := by omega); (try have : w.heap.size + 1 + 1 + 1 < w2.heap.size := by omega))
    go_ret
    exact ⟨by rw [HF.out, errOf_ne HN.out]; rfl, by go_grown⟩
theorem tboth_ok (A A2 : Option Addr) (cp cp2 : Nat) (a b : List Rl) (w : World) (h : Rules w A cp a) (h2 : Rules w A2 cp2 b) (hz : t2chk a b = 0) :
    Calls Tryd.prog 177 #[.slice A a.length cp, .slice A2 b.length cp2] w fun e w' => e = .returned .nilIface ∧ Below w.heap.size w w' :=
  (tboth_any A A2 cp cp2 a b w h h2).mono fun _ _ ⟨he, hb⟩ => ⟨by rw [he, hz]; rfl, hb⟩
theorem tboth_bad (A A2 : Option Addr) (cp cp2 : Nat) (a b : List Rl) (w : World) (h : Rules w A cp a) (h2 : Rules w A2 cp2 b) (hz : t2chk a b ≠ 0) :
    Calls Tryd.prog 177 #[.slice A a.length cp, .slice A2 b.length cp2] w fun e w' => e = .returned (.iface 143 (.int .i64 (t2chk a b))) ∧ Below w.heap.size w w' :=
  (tboth_any A A2 cp cp2 a b w h h2).mono fun _ _ ⟨he, hb⟩ => ⟨by rw [he, errOf_ne hz], hb⟩
theorem t2chk_0 {a b : List Rl} (h : t2chk a b = 0) : tchk a = 0 ∧ tchk b = 0 := by
  unfold t2chk at h
  by_cases h1 : tchk a = 0
  · rw [if_neg (by simpa using h1)] at h; exact ⟨h1, h⟩
  · rw [if_pos h1] at h; exact absurd h h1

/-- what is between two tables -/
def tdiff (a b : List Rl) : List Opx := lacks a b false ++ lacks b a true
def RetOpsV (l : List Opx) (er : Value) (w : World) (e : Ending) (w' : World) : Prop := ∃ v, e = .returned (.tuple #[v, er]) ∧ Owns w' w.heap.size 92 8 v (l.map Opx.cells) ∧ Below w.heap.size w w'
set_option maxHeartbeats 1600000 in
theorem tdiff_ok (A A2 : Option Addr) (cp cp2 : Nat) (a b : List Rl) (w : World) (h : Rules w A cp a) (h2 : Rules w A2 cp2 b) (hz : t2chk a b = 0) :
    Calls Tryd.prog 151 #[.slice A a.length cp, .slice A2 b.length cp2] w (RetOpsV (tdiff a b) .nilIface w) := by
  have H := Lib.hid h
  have H2 := Lib.hid h2
  have HT := Lib.hid (fun A A2 cp cp2 w h h2 => tboth_ok A A2 cp cp2 a b w h h2 hz)
  have ha := tchk_len (t2chk_0 hz).1
  have hb := tchk_len (t2chk_0 hz).2
  have HL := Lib.hid (fun A A2 cp cp2 w h h2 => lacks_any A A2 cp cp2 a b false w h h2 (by omega) (by omega))
  have HM := Lib.hid (fun A A2 cp cp2 w h h2 => lacks_any A A2 cp cp2 b a true w h h2 (by omega) (by omega))
  have n1 := lacks_le a b false
  have n2 := lacks_le b a true
  clear h h2 hz
  go_enter Tryd.func151, Tryd.ntmps151
  go_wp2_with fail
  (go_at_call 177; refine (HT.out _ _ _ _ _ H.out H2.out).mono ?_; rintro e w2 ⟨rfl, hbw2⟩; obtain ⟨hcw2, hfw2⟩ := bcell hbw2; have hzw2 := hbw2.size; (try simp at hzw2); have hBw2 := bstep (w := w) (by go_grown) hbw2; (try have : wa.heap.size < w2.heap.size := by omega); (try have : w.heap.size < w2.heap.size := by omega); (try have : w.heap.size + 1 < w2.heap.size := by omega); (try have : w.heap.size + 1 + 1 < w2.heap.size := by omega); (try have : w.heap.size + 1 + 1 + 1 < w2.heap.size := by omega))
  go_wp2_with fail
  (go_at_call 178; refine (HL.out _ _ _ _ _ (H.out.below (by go_grown)) (H2.out.below (by go_grown))).mono ?_; rintro e w3 ⟨v3, rfl, hOw3, hbw3⟩; have HOw3 := Lib.hid hOw3; clear hOw3; obtain ⟨hcw3, hfw3⟩ := bcell hbw3; have hzw3 := hbw3.size; (try simp at hzw3); have hBw3 := bstep (w := w) (by go_grown) hbw3; (try have : wa.heap.size < w3.heap.size := by omega); (try have : w.heap.size < w3.heap.size := by omega); (try have : w.heap.size + 1 < w3.heap.size := by omega); (try have : w.heap.size + 1 + 1 < w3.heap.size := by omega); (try have : w.heap.size + 1 + 1 + 1 < w3.heap.size := by omega))
  go_wp2_with fail
  (go_at_call 178; refine (HM.out _ _ _ _ _ (H2.out.below (by go_grown)) (H.out.below (by go_grown))).mono ?_; rintro e w4 ⟨v4, rfl, hOw4, hbw4⟩; have HOw4 := Lib.hid hOw4; clear hOw4; obtain ⟨hcw4, hfw4⟩ := bcell hbw4; have hzw4 := hbw4.size; (try simp at hzw4); have hBw4 := bstep (w := w) (by go_grown) hbw4; (try have : wa.heap.size < w4.heap.size := by omega); (try have : w.heap.size < w4.heap.size := by omega); (try have : w.heap.size + 1 < w4.heap.size := by omega); (try have : w.heap.size + 1 + 1 < w4.heap.size := by omega); (try have : w.heap.size + 1 + 1 + 1 < w4.heap.size := by omega))
  obtain ⟨A4, c4, rfl, h4⟩ := HOw4.out.ops
  have H4 := Lib.hid h4
  clear h4
  go_wp2_with (at_builtin; refine wpList_extend el_op rfl (.tmp 15) (.tmp 18) rfl w.heap.size _ _ rfl ((HOw3.out.below hbw4).mono (by omega)) _ _ _ _ rfl H4.out (ops_one _) (by simp [maxLen]; omega) (by simp; omega) (by omega) ?_)
  intro v5 w5 hO5 hb5
  have HO5 := Lib.hid hO5
  clear hO5
  go_wp2_with fail
  go_ret2
  exact ⟨_, rfl, by unfold tdiff; rw [List.map_append]; exact HO5.out, hBw4.trans hb5⟩
set_option maxHeartbeats 1600000 in
theorem tdiff_bad (A A2 : Option Addr) (cp cp2 : Nat) (a b : List Rl) (w : World) (h : Rules w A cp a) (h2 : Rules w A2 cp2 b) (hz : t2chk a b ≠ 0) :
    Calls Tryd.prog 151 #[.slice A a.length cp, .slice A2 b.length cp2] w (RetOpsV [] (.iface 143 (.int .i64 (t2chk a b))) w) := by
  have H := Lib.hid h
  have H2 := Lib.hid h2
  have HT := Lib.hid (fun A A2 cp cp2 w h h2 => tboth_bad A A2 cp cp2 a b w h h2 hz)
  clear h h2 hz
  generalize t2chk a b = q at *
  go_enter Tryd.func151, Tryd.ntmps151
  go_wp2_with (go_at_call 177; refine (HT.out _ _ _ _ _ H.out H2.out).mono ?_; rintro e w2 ⟨rfl, hbw2⟩; obtain ⟨hcw2, hfw2⟩ := bcell hbw2; have hzw2 := hbw2.size; (try simp at hzw2); have hBw2 := bstep (w := w) (by go_grown) hbw2; (try have : wa.heap.size < w2.heap.size := by omega); (try have : w.heap.size < w2.heap.size := by omega); (try have : w.heap.size + 1 < w2.heap.size := by omega); (try have : w.heap.size + 1 + 1 < w2.heap.size := by omega); (try have : w.heap.size + 1 + 1 + 1 < w2.heap.size := by omega))
  go_ret2
  exact ⟨_, rfl, Owns.nil_ _ _ _ _, by go_grown⟩
/-! ### table.All -/
/-- one op behind another one: the fault, or the table -/
def tallF (t : List Rl) : List Opx → Int
  | [] => 0
  | o :: r => if tdoF t o.add o.r ≠ 0 then tdoF t o.add o.r else tallF (tdoR t o.add o.r) r
def tallR (t : List Rl) : List Opx → List Rl
  | [] => t
  | o :: r => tallR (tdoR t o.add o.r) r
/-- the table behind all ops: none, if one can't be done -/
def tallV (t : List Rl) (l : List Opx) : List Rl := if tchk t = 0 ∧ tallF t l = 0 then tallR t l else []
def tallE (t : List Rl) (l : List Opx) : Int := if tchk t ≠ 0 then tchk t else tallF t l
end Go.Proofs.YtpjadjoekdcjiaaDoor
