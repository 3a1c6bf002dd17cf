/- What table.All, Diff, Same come to. -/
import Derived.Test.YtedgcbcphlonpaaTable2
namespace Go.Proofs.Ytedgcbcphlonpaa
open Go.RowKit
set_option maxRecDepth 100000
set_option linter.unusedSimpArgs false
set_option linter.unusedVariables false

/-- an op, and its cells -/
structure Opx where
  s : Int
  add : Bool
  r : Rl
deriving DecidableEq
instance : Inhabited Opx := ⟨⟨0, false, default⟩⟩
def Opx.cells (x : Opx) : List Value := [.int .i64 x.s, .bool x.add, .int .i64 x.r.p, .int .i64 x.r.m, .int .i64 x.r.b, .int .i64 x.r.o, .int .i64 x.r.s, .int .i64 x.r.v]
def Ops (w : World) (A : Option Addr) (c : Nat) (l : List Opx) : Prop := RowC w 8 A l.length c (l.map Opx.cells)
theorem Ops.below {w w' : World} {A : Option Addr} {c : Nat} {l : List Opx} (h : Ops w A c l) (hb : Below w.heap.size w w') : Ops w' A c l := RowC.below h hb
theorem Ops.le {w : World} {A : Option Addr} {c : Nat} {l : List Opx} (h : Ops w A c l) : l.length ≤ c := h.2.1
theorem Ops.at_ {w : World} {A : Option Addr} {c : Nat} {l : List Opx} (h : Ops w A c l) {i : Nat} (hi : i < l.length) : ∃ b o, A = some ⟨b, o, none⟩ ∧ b < w.heap.size ∧
    w.cell? ⟨b, o + i * 8, none⟩ = some (.int .i64 l[i].s) ∧ w.cell? ⟨b, o + i * 8 + 1, none⟩ = some (.bool l[i].add) ∧ w.cell? ⟨b, o + i * 8 + 2, none⟩ = some (.int .i64 l[i].r.p) ∧
    w.cell? ⟨b, o + i * 8 + 3, none⟩ = some (.int .i64 l[i].r.m) ∧ w.cell? ⟨b, o + i * 8 + 4, none⟩ = some (.int .i64 l[i].r.b) ∧ w.cell? ⟨b, o + i * 8 + 5, none⟩ = some (.int .i64 l[i].r.o) ∧
    w.cell? ⟨b, o + i * 8 + 6, none⟩ = some (.int .i64 l[i].r.s) ∧ w.cell? ⟨b, o + i * 8 + 7, none⟩ = some (.int .i64 l[i].r.v) := by
  obtain ⟨b, o, cs, e, hlt, hx, hc⟩ := RowC.at_ h hi
  rw [List.getElem?_map, List.getElem?_eq_getElem hi] at hx
  simp only [Option.map_some, Option.some.injEq] at hx
  subst hx
  exact ⟨b, o, e, hlt, hc 0 _ rfl, hc 1 _ rfl, hc 2 _ rfl, hc 3 _ rfl, hc 4 _ rfl, hc 5 _ rfl, hc 6 _ rfl, hc 7 _ rfl⟩
theorem el_op : Elem Try.prog 75 49 8 64 := elem_of (z := .agg #[.int .i64 0, .bool false, .int .i64 0, .int .i64 0, .int .i64 0, .int .i64 0, .int .i64 0, .int .i64 0]) Try.underlying75 (by kernel_rfl) rfl (by omega)
theorem Owns.ops {w : World} {base e : Nat} {v : Value} {l : List Opx} (h : Owns w base e 8 v (l.map Opx.cells)) : ∃ A c, v = .slice A l.length c ∧ Ops w A c l := by
  obtain ⟨A, c, rfl, hr⟩ := h.row
  rw [List.length_map] at hr ⊢
  exact ⟨A, c, rfl, hr⟩
theorem ops_one (l : List Opx) : ∀ cs ∈ l.map Opx.cells, ∀ u ∈ cs, u.oneCell' = true := by
  intro cs hcs
  obtain ⟨x, -, rfl⟩ := List.mem_map.1 hcs
  simp [Opx.cells, Value.oneCell']

theorem tcontains_ok (m : List Rl) (r : Rl) (b : Bool) (hb : (m.any fun x => decide (r = x)) = b) (hm : m.length ≤ 65536) : ∀ A cp w, Rules w A cp m →
    Calls Try.prog 82 #[.slice A m.length cp, .agg #[.int .i64 r.p, .int .i64 r.m, .int .i64 r.b, .int .i64 r.o, .int .i64 r.s, .int .i64 r.v]] w fun e w' => e = .returned (.bool b) ∧ Below w.heap.size w w' :=
  fun A cp w h => hb ▸ tcontains_any A cp m r w h (by omega)

/-- rules of one that another one has not -/
def lacks (a b : List Rl) (add : Bool) : List Opx := a.filterMap fun r => if (b.any fun x => decide (r = x)) = true then none else some ⟨0, add, r⟩
theorem lacks_le (a b : List Rl) (add : Bool) : (lacks a b add).length ≤ a.length := List.length_filterMap_le _ _
theorem lacks_take {a b : List Rl} {add : Bool} {k : Nat} (hk : k < a.length) : lacks (a.take (k + 1)) b add = lacks (a.take k) b add ++ if (b.any fun x => decide (a[k] = x)) = true then [] else [⟨0, add, a[k]⟩] := by
  unfold lacks
  rw [List.take_succ_eq_append_getElem hk, List.filterMap_append]
  congr 1
  rw [List.filterMap_cons, List.filterMap_nil]
  by_cases h : (b.any fun x => decide (a[k] = x)) = true
  · rw [if_pos h, if_pos h]
  · rw [if_neg h, if_neg h]
theorem lacks_none {a b : List Rl} {add : Bool} {k : Nat} (hk : k < a.length) (h : (b.any fun x => decide (a[k] = x)) = true) : lacks (a.take (k + 1)) b add = lacks (a.take k) b add := by
  rw [lacks_take hk, if_pos h, List.append_nil]
theorem lacks_one {a b : List Rl} {add : Bool} {k : Nat} (hk : k < a.length) (h : (b.any fun x => decide (a[k] = x)) = false) : lacks (a.take (k + 1)) b add = lacks (a.take k) b add ++ [⟨0, add, a[k]⟩] := by
  rw [lacks_take hk, if_neg (by rw [h]; exact Bool.false_ne_true)]

def RetT0 (l : List Rl) (er : Value) (w : World) (e : Ending) (w' : World) : Prop := ∃ A c, e = .returned (.tuple #[.slice A l.length c, er]) ∧ Rules w' A c l ∧ Below w.heap.size w w'
theorem RetT0.bad {l : List Rl} {w w' : World} {er : Value} (hl : l = []) (hb : Below w.heap.size w w') : RetT0 l er w (.returned (.tuple #[.slice none 0 0, er])) w' := by
  subst hl; exact ⟨none, 0, rfl, RowC.none_ _ _, hb⟩
def RetOps (l : List Opx) (w : World) (e : Ending) (w' : World) : Prop := ∃ v, e = .returned v ∧ Owns w' w.heap.size 49 8 v (l.map Opx.cells) ∧ Below w.heap.size w w'

set_option maxHeartbeats 1600000 in
theorem lacks_any (A A2 : Option Addr) (cp cp2 : Nat) (a b : List Rl) (add : Bool) (w : World) (h : Rules w A cp a) (h2 : Rules w A2 cp2 b) (ha : a.length ≤ 65536) (hb : b.length ≤ 65536) :
    Calls Try.prog 65 #[.slice A a.length cp, .slice A2 b.length cp2, .bool add] w (RetOps (lacks a b add) w) := by
  have H := Lib.hid h
  have H2 := Lib.hid h2
  clear h h2
  go_enter Try.func65, Try.ntmps65
  go_wp2_with fail
  go_loopw [6, 11] (fun v i wr => ∃ k : Nat, k ≤ a.length ∧ i = .int .i64 k ∧ Below w.heap.size w wr ∧ Owns wr w.heap.size 49 8 v ((lacks (a.take k) b add).map Opx.cells)) (fun _ i _ => a.length - (intOf i).toNat)
  case atStart => exact ⟨0, by omega, rfl, Below.refl _ _, Owns.nil_ _ _ _ _⟩
  case round =>
    obtain ⟨k, hk, rfl, hbel, hown⟩ := hrel
    have hwr := hbel.size
    have HO := Lib.hid hown
    clear hown
    by_cases hlt : k < a.length
    · obtain ⟨b0, o, rfl, hb0, c0, c1, c2, c3, c4, c5⟩ := (H.out.below hbel).at_ hlt
      have hle := Nat.le_trans (lacks_le (a.take k) b add) (List.length_take_le k a)
      cases hp : b.any fun x => decide (a[k] = x) with
      | true =>
        have HC := Lib.hid (tcontains_ok b a[k] true hp hb)
        have HS := Lib.hid (lacks_none (add := add) hlt hp)
        clear hp
        go_wp2_with (go_at_call 82; refine (HC.out _ _ _ (H2.out.below (by go_grown))).mono ?_; rintro e w2 ⟨rfl, hbw2⟩; obtain ⟨hcw2, hfw2⟩ := bcell hbw2; have hzw2 := hbw2.size; (try simp at hzw2); have hBw2 := bstep (w := w) (by go_grown) hbw2; (try have : wa.heap.size < w2.heap.size := by omega); (try have : w.heap.size < w2.heap.size := by omega); (try have : w.heap.size + 1 < w2.heap.size := by omega); (try have : w.heap.size + 1 + 1 < w2.heap.size := by omega); (try have : w.heap.size + 1 + 1 + 1 < w2.heap.size := by omega))
        go_roundw
        case rel => exact ⟨k + 1, by omega, by go_num, by go_grown, by rw [HS.out]; exact HO.out.below (Below.trans ((Below.refl _ _).alloc (Nat.le_refl _) _) (hbw2.mono (by simp)))⟩
        case measure => simp [intOf]; omega
      | false =>
        have HC := Lib.hid (tcontains_ok b a[k] false hp hb)
        have HS := Lib.hid (lacks_one (add := add) hlt hp)
        clear hp
        go_wp2_with fail
        (go_at_call 82; refine (HC.out _ _ _ (H2.out.below (by go_grown))).mono ?_; rintro e w2 ⟨rfl, hbw2⟩; obtain ⟨hcw2, hfw2⟩ := bcell hbw2; have hzw2 := hbw2.size; (try simp at hzw2); have hBw2 := bstep (w := w) (by go_grown) hbw2; (try have : wa.heap.size < w2.heap.size := by omega); (try have : w.heap.size < w2.heap.size := by omega); (try have : w.heap.size + 1 < w2.heap.size := by omega); (try have : w.heap.size + 1 + 1 < w2.heap.size := by omega); (try have : w.heap.size + 1 + 1 + 1 < w2.heap.size := by omega); (try have : wr.heap.size < w2.heap.size := by omega))
        have HO2 := Lib.hid (HO.out.below (w' := w2) (Below.trans ((Below.refl _ _).alloc (Nat.le_refl _) _) (hbw2.mono (by simp))))
        go_wp2_with (at_builtin; refine wpList_push_new el_op rfl (.tmp 19) (.tmp 23) rfl w.heap.size _ _ rfl HO2.out (Opx.cells ⟨0, add, a[k]⟩) _ _ rfl rfl rfl rfl (by omega) (by simp; omega) (by omega) ?_)
        intro v3 w3 hO3 hb3
        have HO3 := Lib.hid hO3
        clear hO3
        go_wp2_with fail
        go_roundw
        case rel => exact ⟨k + 1, by omega, by go_num, hBw2.trans hb3, by rw [HS.out, List.map_append]; exact HO3.out⟩
        case measure => simp [intOf]; omega
    · obtain rfl : k = a.length := by omega
      go_wp2_with fail
      go_ret
      exact ⟨_, rfl, by simpa using HO.out, hbel⟩

/-- the fault of two tables -/
def t2chk (a b : List Rl) : Int := if tchk a ≠ 0 then tchk a else tchk b
theorem tboth_any (A A2 : Option Addr) (cp cp2 : Nat) (a b : List Rl) (w : World) (h : Rules w A cp a) (h2 : Rules w A2 cp2 b) :
    Calls Try.prog 64 #[.slice A a.length cp, .slice A2 b.length cp2] w fun e w' => e = .returned (errOf (t2chk a b)) ∧ Below w.heap.size w w' := by
  have H := Lib.hid h
  have H2 := Lib.hid h2
  clear h h2
  by_cases hz : tchk a = 0
  · have HT := Lib.hid (fun A cp w h => tcheck_ok A cp a w h hz)
    have HU := Lib.hid (fun A cp w h => tcheck_any A cp b w h)
    have HF := Lib.hid (show t2chk a b = tchk b by unfold t2chk; rw [if_neg (by simpa using hz)])
    clear hz
    go_enter Try.func64, Try.ntmps64
    go_wp2_with fail
    (go_at_call 56; refine (HT.out _ _ _ H.out).mono ?_; rintro e w2 ⟨rfl, hbw2⟩; obtain ⟨hcw2, hfw2⟩ := bcell hbw2; have hzw2 := hbw2.size; (try simp at hzw2); have hBw2 := bstep (w := w) (by go_grown) hbw2; (try have : wa.heap.size < w2.heap.size := by omega); (try have : w.heap.size < w2.heap.size := by omega); (try have : w.heap.size + 1 < w2.heap.size := by omega); (try have : w.heap.size + 1 + 1 < w2.heap.size := by omega); (try have : w.heap.size + 1 + 1 + 1 < w2.heap.size := by omega))
    go_wp2_with fail
    (go_at_call 56; refine (HU.out _ _ _ (H2.out.below (by go_grown))).mono ?_; rintro e w3 ⟨rfl, hbw3⟩; obtain ⟨hcw3, hfw3⟩ := bcell hbw3; have hzw3 := hbw3.size; (try simp at hzw3); have hBw3 := bstep (w := w) (by go_grown) hbw3; (try have : wa.heap.size < w3.heap.size := by omega); (try have : w.heap.size < w3.heap.size := by omega); (try have : w.heap.size + 1 < w3.heap.size := by omega); (try have : w.heap.size + 1 + 1 < w3.heap.size := by omega); (try have : w.heap.size + 1 + 1 + 1 < w3.heap.size := by omega))
    go_wp2_with fail
    go_ret
    exact ⟨by rw [HF.out]; rfl, by go_grown⟩
  · have HT := Lib.hid (fun A cp w h => tcheck_bad A cp a w h hz)
    have HF := Lib.hid (show t2chk a b = tchk a by unfold t2chk; rw [if_pos hz])
    have HN := Lib.hid hz
    clear hz
    generalize tchk a = q at *
    go_enter Try.func64, Try.ntmps64
    go_wp2_with (go_at_call 56; refine (HT.out _ _ _ H.out).mono ?_; rintro e w2 ⟨rfl, hbw2⟩; obtain ⟨hcw2, hfw2⟩ := bcell hbw2; have hzw2 := hbw2.size; (try simp at hzw2); have hBw2 := bstep (w := w) (by go_grown) hbw2; (try have : wa.heap.size < w2.heap.size := by omega); (try have : w.heap.size < w2.heap.size := by omega); (try have : w.heap.size + 1 < w2.heap.size := by omega); (try have : w.heap.size + 1 + 1 < w2.heap.size := by omega); (try have : w.heap.size + 1 + 1 + 1 < w2.heap.size := by omega))
    go_ret
    exact ⟨by rw [HF.out, errOf_ne HN.out]; rfl, by go_grown⟩
theorem tboth_ok (A A2 : Option Addr) (cp cp2 : Nat) (a b : List Rl) (w : World) (h : Rules w A cp a) (h2 : Rules w A2 cp2 b) (hz : t2chk a b = 0) :
    Calls Try.prog 64 #[.slice A a.length cp, .slice A2 b.length cp2] w fun e w' => e = .returned .nilIface ∧ Below w.heap.size w w' :=
  (tboth_any A A2 cp cp2 a b w h h2).mono fun _ _ ⟨he, hb⟩ => ⟨by rw [he, hz]; rfl, hb⟩
theorem tboth_bad (A A2 : Option Addr) (cp cp2 : Nat) (a b : List Rl) (w : World) (h : Rules w A cp a) (h2 : Rules w A2 cp2 b) (hz : t2chk a b ≠ 0) :
    Calls Try.prog 64 #[.slice A a.length cp, .slice A2 b.length cp2] w fun e w' => e = .returned (.iface 23 (.int .i64 (t2chk a b))) ∧ Below w.heap.size w w' :=
  (tboth_any A A2 cp cp2 a b w h h2).mono fun _ _ ⟨he, hb⟩ => ⟨by rw [he, errOf_ne hz], hb⟩
theorem t2chk_0 {a b : List Rl} (h : t2chk a b = 0) : tchk a = 0 ∧ tchk b = 0 := by
  unfold t2chk at h
  by_cases h1 : tchk a = 0
  · rw [if_neg (by simpa using h1)] at h; exact ⟨h1, h⟩
  · rw [if_pos h1] at h; exact absurd h h1

/-- what is between two tables -/
def tdiff (a b : List Rl) : List Opx := lacks a b false ++ lacks b a true
def RetOpsV (l : List Opx) (er : Value) (w : World) (e : Ending) (w' : World) : Prop := ∃ v, e = .returned (.tuple #[v, er]) ∧ Owns w' w.heap.size 49 8 v (l.map Opx.cells) ∧ Below w.heap.size w w'
set_option maxHeartbeats 1600000 in
theorem tdiff_ok (A A2 : Option Addr) (cp cp2 : Nat) (a b : List Rl) (w : World) (h : Rules w A cp a) (h2 : Rules w A2 cp2 b) (hz : t2chk a b = 0) :
    Calls Try.prog 32 #[.slice A a.length cp, .slice A2 b.length cp2] w (RetOpsV (tdiff a b) .nilIface w) := by
  have H := Lib.hid h
  have H2 := Lib.hid h2
  have HT := Lib.hid (fun A A2 cp cp2 w h h2 => tboth_ok A A2 cp cp2 a b w h h2 hz)
  have ha := tchk_len (t2chk_0 hz).1
  have hb := tchk_len (t2chk_0 hz).2
  have HL := Lib.hid (fun A A2 cp cp2 w h h2 => lacks_any A A2 cp cp2 a b false w h h2 (by omega) (by omega))
  have HM := Lib.hid (fun A A2 cp cp2 w h h2 => lacks_any A A2 cp cp2 b a true w h h2 (by omega) (by omega))
  have n1 := lacks_le a b false
  have n2 := lacks_le b a true
  clear h h2 hz
  go_enter Try.func32, Try.ntmps32
  go_wp2_with fail
  (go_at_call 64; refine (HT.out _ _ _ _ _ H.out H2.out).mono ?_; rintro e w2 ⟨rfl, hbw2⟩; obtain ⟨hcw2, hfw2⟩ := bcell hbw2; have hzw2 := hbw2.size; (try simp at hzw2); have hBw2 := bstep (w := w) (by go_grown) hbw2; (try have : wa.heap.size < w2.heap.size := by omega); (try have : w.heap.size < w2.heap.size := by omega); (try have : w.heap.size + 1 < w2.heap.size := by omega); (try have : w.heap.size + 1 + 1 < w2.heap.size := by omega); (try have : w.heap.size + 1 + 1 + 1 < w2.heap.size := by omega))
  go_wp2_with fail
  (go_at_call 65; refine (HL.out _ _ _ _ _ (H.out.below (by go_grown)) (H2.out.below (by go_grown))).mono ?_; rintro e w3 ⟨v3, rfl, hOw3, hbw3⟩; have HOw3 := Lib.hid hOw3; clear hOw3; obtain ⟨hcw3, hfw3⟩ := bcell hbw3; have hzw3 := hbw3.size; (try simp at hzw3); have hBw3 := bstep (w := w) (by go_grown) hbw3; (try have : wa.heap.size < w3.heap.size := by omega); (try have : w.heap.size < w3.heap.size := by omega); (try have : w.heap.size + 1 < w3.heap.size := by omega); (try have : w.heap.size + 1 + 1 < w3.heap.size := by omega); (try have : w.heap.size + 1 + 1 + 1 < w3.heap.size := by omega))
  go_wp2_with fail
  (go_at_call 65; refine (HM.out _ _ _ _ _ (H2.out.below (by go_grown)) (H.out.below (by go_grown))).mono ?_; rintro e w4 ⟨v4, rfl, hOw4, hbw4⟩; have HOw4 := Lib.hid hOw4; clear hOw4; obtain ⟨hcw4, hfw4⟩ := bcell hbw4; have hzw4 := hbw4.size; (try simp at hzw4); have hBw4 := bstep (w := w) (by go_grown) hbw4; (try have : wa.heap.size < w4.heap.size := by omega); (try have : w.heap.size < w4.heap.size := by omega); (try have : w.heap.size + 1 < w4.heap.size := by omega); (try have : w.heap.size + 1 + 1 < w4.heap.size := by omega); (try have : w.heap.size + 1 + 1 + 1 < w4.heap.size := by omega))
  obtain ⟨A4, c4, rfl, h4⟩ := HOw4.out.ops
  have H4 := Lib.hid h4
  clear h4
  go_wp2_with (at_builtin; refine wpList_extend el_op rfl (.tmp 15) (.tmp 18) rfl w.heap.size _ _ rfl ((HOw3.out.below hbw4).mono (by omega)) _ _ _ _ rfl H4.out (ops_one _) (by simp [maxLen]; omega) (by simp; omega) (by omega) ?_)
  intro v5 w5 hO5 hb5
  have HO5 := Lib.hid hO5
  clear hO5
  go_wp2_with fail
  go_ret2
  exact ⟨_, rfl, by unfold tdiff; rw [List.map_append]; exact HO5.out, hBw4.trans hb5⟩
set_option maxHeartbeats 1600000 in
theorem tdiff_bad (A A2 : Option Addr) (cp cp2 : Nat) (a b : List Rl) (w : World) (h : Rules w A cp a) (h2 : Rules w A2 cp2 b) (hz : t2chk a b ≠ 0) :
    Calls Try.prog 32 #[.slice A a.length cp, .slice A2 b.length cp2] w (RetOpsV [] (.iface 23 (.int .i64 (t2chk a b))) w) := by
  have H := Lib.hid h
  have H2 := Lib.hid h2
  have HT := Lib.hid (fun A A2 cp cp2 w h h2 => tboth_bad A A2 cp cp2 a b w h h2 hz)
  clear h h2 hz
  generalize t2chk a b = q at *
  go_enter Try.func32, Try.ntmps32
  go_wp2_with (go_at_call 64; refine (HT.out _ _ _ _ _ H.out H2.out).mono ?_; rintro e w2 ⟨rfl, hbw2⟩; obtain ⟨hcw2, hfw2⟩ := bcell hbw2; have hzw2 := hbw2.size; (try simp at hzw2); have hBw2 := bstep (w := w) (by go_grown) hbw2; (try have : wa.heap.size < w2.heap.size := by omega); (try have : w.heap.size < w2.heap.size := by omega); (try have : w.heap.size + 1 < w2.heap.size := by omega); (try have : w.heap.size + 1 + 1 < w2.heap.size := by omega); (try have : w.heap.size + 1 + 1 + 1 < w2.heap.size := by omega))
  go_ret2
  exact ⟨_, rfl, Owns.nil_ _ _ _ _, by go_grown⟩
theorem nil_len (l : List Opx) : decide ((l.length : Int) = 0) = l.isEmpty := by cases l <;> simp; omega
set_option maxHeartbeats 1600000 in
theorem tsame_ok (A A2 : Option Addr) (cp cp2 : Nat) (a b : List Rl) (w : World) (h : Rules w A cp a) (h2 : Rules w A2 cp2 b) (hz : t2chk a b = 0) :
    Calls Try.prog 34 #[.slice A a.length cp, .slice A2 b.length cp2] w fun e w' => e = .returned (.tuple #[.bool (tdiff a b).isEmpty, .nilIface]) ∧ Below w.heap.size w w' := by
  have HT := Lib.hid (tdiff_ok A A2 cp cp2 a b w h h2 hz)
  have HN := Lib.hid (nil_len (tdiff a b))
  clear h h2 hz
  go_enter Try.func34, Try.ntmps34
  go_wp2_with fail
  go_at_call 32
  refine HT.out.mono ?_
  rintro e w2 ⟨v2, rfl, hO, hb2⟩
  obtain ⟨A2, c2, rfl, -⟩ := hO.ops
  clear hO
  go_wp2_with fail
  go_ret2
  exact ⟨by rw [← HN.out]; rfl, hb2⟩
theorem tsame_bad (A A2 : Option Addr) (cp cp2 : Nat) (a b : List Rl) (w : World) (h : Rules w A cp a) (h2 : Rules w A2 cp2 b) (hz : t2chk a b ≠ 0) :
    Calls Try.prog 34 #[.slice A a.length cp, .slice A2 b.length cp2] w fun e w' => e = .returned (.tuple #[.bool false, .iface 23 (.int .i64 (t2chk a b))]) ∧ Below w.heap.size w w' := by
  have HT := Lib.hid (tdiff_bad A A2 cp cp2 a b w h h2 hz)
  clear h h2 hz
  generalize t2chk a b = q at *
  go_enter Try.func34, Try.ntmps34
  go_wp2_with fail
  go_at_call 32
  refine HT.out.mono ?_
  rintro e w2 ⟨v2, rfl, hO, hb2⟩
  obtain ⟨A2, c2, rfl, -⟩ := hO.ops
  clear hO
  go_wp2_with fail
  go_ret2
  exact ⟨rfl, hb2⟩

/-! ### table.All -/
/-- one op behind another one: the fault, or the table -/
def tallF (t : List Rl) : List Opx → Int
  | [] => 0
  | o :: r => if tdoF t o.add o.r ≠ 0 then tdoF t o.add o.r else tallF (tdoR t o.add o.r) r
def tallR (t : List Rl) : List Opx → List Rl
  | [] => t
  | o :: r => tallR (tdoR t o.add o.r) r
/-- the table behind all ops: none, if one can't be done -/
def tallV (t : List Rl) (l : List Opx) : List Rl := if tchk t = 0 ∧ tallF t l = 0 then tallR t l else []
def tallE (t : List Rl) (l : List Opx) : Int := if tchk t ≠ 0 then tchk t else tallF t l
theorem tallF_step {t : List Rl} {l : List Opx} {k : Nat} (h : k < l.length) : tallF t (l.drop k) = if tdoF t l[k].add l[k].r ≠ 0 then tdoF t l[k].add l[k].r else tallF (tdoR t l[k].add l[k].r) (l.drop (k + 1)) := by
  rw [List.drop_eq_getElem_cons h]; rfl
theorem tallR_step {t : List Rl} {l : List Opx} {k : Nat} (h : k < l.length) : tallR t (l.drop k) = tallR (tdoR t l[k].add l[k].r) (l.drop (k + 1)) := by
  rw [List.drop_eq_getElem_cons h]; rfl

set_option maxHeartbeats 1600000 in
theorem tall_go (A A2 : Option Addr) (cp cp2 : Nat) (t : List Rl) (l : List Opx) (w : World) (h : Rules w A cp t) (h2 : Ops w A2 cp2 l) (hz : tchk t = 0) (hl : l.length ≤ 9223372036854775807) :
    Calls Try.prog 33 #[.slice A t.length cp, .slice A2 l.length cp2] w (RetT0 (tallV t l) (errOf (tallE t l)) w) := by
  have H := Lib.hid h
  have H2 := Lib.hid h2
  have HT := Lib.hid (fun A cp w h => tcheck_ok A cp t w h hz)
  have ht := tchk_len hz
  have HN := Lib.hid (fun A cp w h => tclone_any A cp t w h (by omega))
  have HE := Lib.hid (show tallE t l = tallF t l by unfold tallE; rw [if_neg (by simpa using hz)])
  have HV := Lib.hid (show tallV t l = if tallF t l = 0 then tallR t l else [] by unfold tallV; simp only [hz, true_and])
  clear h h2 hz
  go_enter Try.func33, Try.ntmps33
  go_wp2_with fail
  (go_at_call 56; refine (HT.out _ _ _ H.out).mono ?_; rintro e w2 ⟨rfl, hbw2⟩; obtain ⟨hcw2, hfw2⟩ := bcell hbw2; have hzw2 := hbw2.size; (try simp at hzw2); have hBw2 := bstep (w := w) (by go_grown) hbw2; (try have : wa.heap.size < w2.heap.size := by omega); (try have : w.heap.size < w2.heap.size := by omega); (try have : w.heap.size + 1 < w2.heap.size := by omega); (try have : w.heap.size + 1 + 1 < w2.heap.size := by omega); (try have : w.heap.size + 1 + 1 + 1 < w2.heap.size := by omega))
  go_wp2_with fail
  (go_at_call 62; refine (HN.out _ _ _ (H.out.below (by go_grown))).mono ?_; rintro e w3 ⟨v3, rfl, hOw3, hbw3⟩; have HOw3 := Lib.hid hOw3; clear hOw3; obtain ⟨hcw3, hfw3⟩ := bcell hbw3; have hzw3 := hbw3.size; (try simp at hzw3); have hBw3 := bstep (w := w) (by go_grown) hbw3; (try have : wa.heap.size < w3.heap.size := by omega); (try have : w.heap.size < w3.heap.size := by omega); (try have : w.heap.size + 1 < w3.heap.size := by omega); (try have : w.heap.size + 1 + 1 < w3.heap.size := by omega); (try have : w.heap.size + 1 + 1 + 1 < w3.heap.size := by omega))
  obtain ⟨A3, c3, rfl, h3⟩ := HOw3.out.rules
  have H3 := Lib.hid h3
  clear h3
  go_wp2_with fail
  go_loopw [0, 20] (fun v i wr => ∃ (k : Nat) (A4 : Option Addr) (c4 : Nat) (tc : List Rl), k ≤ l.length ∧ i = .int .i64 k ∧ v = .slice A4 tc.length c4 ∧ Below w.heap.size w wr ∧ Rules wr A4 c4 tc ∧ Hid (tallF t l = tallF tc (l.drop k) ∧ tallR t l = tallR tc (l.drop k))) (fun _ i _ => l.length - (intOf i).toNat)
  case atStart => exact ⟨0, A3, c3, t, by omega, rfl, rfl, hBw3, H3.out, rfl, rfl⟩
  case round =>
    obtain ⟨k, A4, c4, tc, hk, rfl, rfl, hbel, hR, hI⟩ := hrel
    have hwr := hbel.size
    have HR := Lib.hid hR
    clear hR
    by_cases hlt : k < l.length
    · obtain ⟨b0, o, rfl, hb0, c0, c1, c2, c3, c4', c5, c6, c7⟩ := (H2.out.below hbel).at_ hlt
      have HS := Lib.hid (hI.out.1.trans (tallF_step hlt))
      have HS2 := Lib.hid (hI.out.2.trans (tallR_step hlt))
      by_cases hn : tdoF tc l[k].add l[k].r = 0
      · have HD := Lib.hid (tdo_good tc l[k].add l[k].r hn)
        have HX := Lib.hid (HS.out.trans (if_neg (by simpa using hn)))
        clear hn hI
        go_wp2_with fail
        go_at_call 31
        refine (HD.out _ _ _ (HR.out.below (by go_grown))).mono ?_
        rintro e w5 ⟨A5, c5', rfl, hR5, hb5, -⟩
        have HR5 := Lib.hid hR5
        clear hR5
        have hB5 := bstep (w := w) (by go_grown) hb5
        go_wp2_with fail
        go_roundw
        case rel => exact ⟨k + 1, _, _, _, by omega, by go_num, rfl, hB5, HR5.out, HX.out, HS2.out⟩
        case measure => simp [intOf]; omega
      · have HD := Lib.hid (tdo_err tc l[k].add l[k].r hn)
        have HX := Lib.hid (HE.out.trans (HS.out.trans (if_pos hn)))
        have HF := Lib.hid (show tallF t l ≠ 0 by rw [HS.out, if_pos hn]; exact hn)
        have HN2 := Lib.hid hn
        clear hn hI
        generalize tdoF tc l[k].add l[k].r = q at *
        go_wp2_with fail
        go_at_call 31
        refine (HD.out _ _ _ (HR.out.below (by go_grown))).mono ?_
        rintro e w5 ⟨A5, c5', rfl, hR5, hb5, -⟩
        clear hR5
        have hB5 := bstep (w := w) (by go_grown) hb5
        go_wp2_with fail
        go_ret2
        have := RetT0.bad (er := errOf (tallE t l)) (HV.out.trans (if_neg HF.out)) hB5
        rw [HX.out, errOf_ne HN2.out] at this ⊢
        exact this
    · obtain rfl : k = l.length := by omega
      have hI2 := hI.out
      rw [List.drop_length] at hI2
      have HX := Lib.hid (show tallE t l = 0 from HE.out.trans hI2.1)
      have HY := Lib.hid (show tallV t l = tc from HV.out.trans ((if_pos hI2.1).trans hI2.2))
      clear hI2 hI
      go_wp2_with fail
      go_ret2
      rw [HX.out, HY.out]
      exact ⟨_, _, rfl, HR.out, hbel⟩
theorem tall_no (A A2 : Option Addr) (cp cp2 : Nat) (t : List Rl) (l : List Opx) (w : World) (h : Rules w A cp t) (hz : tchk t ≠ 0) :
    Calls Try.prog 33 #[.slice A t.length cp, .slice A2 l.length cp2] w (RetT0 (tallV t l) (errOf (tallE t l)) w) := by
  have H := Lib.hid h
  have HT := Lib.hid (fun A cp w h => tcheck_bad A cp t w h hz)
  have HE := Lib.hid (show tallE t l = tchk t by unfold tallE; rw [if_pos hz])
  have HV := Lib.hid (show tallV t l = [] by unfold tallV; rw [if_neg (fun h => hz h.1)])
  have HZ := Lib.hid hz
  clear h hz
  generalize tchk t = q at *
  go_enter Try.func33, Try.ntmps33
  go_wp2_with (go_at_call 56; refine (HT.out _ _ _ H.out).mono ?_; rintro e w2 ⟨rfl, hbw2⟩; obtain ⟨hcw2, hfw2⟩ := bcell hbw2; have hzw2 := hbw2.size; (try simp at hzw2); have hBw2 := bstep (w := w) (by go_grown) hbw2; (try have : wa.heap.size < w2.heap.size := by omega); (try have : w.heap.size < w2.heap.size := by omega); (try have : w.heap.size + 1 < w2.heap.size := by omega); (try have : w.heap.size + 1 + 1 < w2.heap.size := by omega); (try have : w.heap.size + 1 + 1 + 1 < w2.heap.size := by omega))
  go_ret2
  have := RetT0.bad (er := errOf (tallE t l)) HV.out hBw2
  rw [HE.out, errOf_ne HZ.out] at this ⊢
  exact this
theorem tall_any (A A2 : Option Addr) (cp cp2 : Nat) (t : List Rl) (l : List Opx) (w : World) (h : Rules w A cp t) (h2 : Ops w A2 cp2 l) (hl : l.length ≤ 9223372036854775807) :
    Calls Try.prog 33 #[.slice A t.length cp, .slice A2 l.length cp2] w (RetT0 (tallV t l) (errOf (tallE t l)) w) := by
  by_cases hz : tchk t = 0
  · exact tall_go A A2 cp cp2 t l w h h2 hz hl
  · exact tall_no A A2 cp cp2 t l w h hz

set_option maxHeartbeats 1600000 in
theorem ssame_table (A A2 : Option Addr) (cp cp2 : Nat) (a b : List Rl) (w : World) (h : Rules w A cp a) (h2 : Rules w A2 cp2 b) (ha : a.length ≤ 9223372036854775807) :
    Calls Try.prog 35 #[.slice A a.length cp, .slice A2 b.length cp2] w fun e w' => e = .returned (.bool (decide (a = b))) ∧ Below w.heap.size w w' := by
  have H := Lib.hid h
  have H2 := Lib.hid h2
  clear h h2
  by_cases hl : a.length = b.length
  · have HL := Lib.hid hl
    have hl' : ((a.length : Int) != (b.length : Int)) = false := by rw [hl]; simp
    have hle : b.length ≤ 9223372036854775807 := by omega
    clear hl
    go_enter Try.func35, Try.ntmps35
    go_wp2_with fail
    go_loopw [5] (fun i wr => ∃ k : Nat, k ≤ a.length ∧ i = .int .i64 k ∧ Below w.heap.size w wr ∧ Hid (∀ j (h1 : j < a.length) (h2 : j < b.length), j < k → a[j] = b[j])) (fun i _ => a.length - (intOf i).toNat)
    case atStart => exact ⟨0, by omega, rfl, Below.refl _ _, fun j _ _ hj => absurd hj (by omega)⟩
    case round =>
      obtain ⟨k, hk, rfl, hbel, hno⟩ := hrel
      have hwr := hbel.size
      by_cases hlt : k < a.length
      · have hltb : k < b.length := by have := HL.out; omega
        obtain ⟨b1, o1, rfl, hb1, c0, c1, c2, c3, c4, c5⟩ := (H.out.below hbel).at_ hlt
        obtain ⟨b2, o2, rfl, hb2, d0, d1, d2, d3, d4, d5⟩ := (H2.out.below hbel).at_ hltb
        have i0 : (0 : Int) ≤ (k : Int) := by omega
        have i1 : (k : Int) < (a.length : Int) := by omega
        have i2 : (k : Int) < (b.length : Int) := by omega
        have hrun := run_neq_rule a[k] b[k]
        by_cases he : a[k] = b[k]
        · have HX := Lib.hid (fun j (h1 : j < a.length) (h2 : j < b.length) (hjk : j < k + 1) => show a[j] = b[j] from if e : j < k then hno.out j h1 h2 e else (by obtain rfl : j = k := (by omega); exact he))
          rw [decide_eq_true he] at hrun
          clear he
          go_wp2_with fail
          refine wp_region_below (by kernel_rfl) (by kernel_rfl) ?_
          repeat (go_big_quiet_step (fail))
          refine wpQuiet_nil ?_
          intro w2 hb2
          go_wp2_with fail
          go_roundw
          case rel => exact ⟨k + 1, by omega, by go_num, hbel.trans (hb2.mono hwr), HX.out⟩
          case measure => simp [intOf]; omega
        · have HX := Lib.hid (show ¬ a = b from fun e => he (by subst e; rfl))
          rw [decide_eq_false he] at hrun
          clear he
          go_wp2_with fail
          refine wp_region_below (by kernel_rfl) (by kernel_rfl) ?_
          repeat (go_big_quiet_step (fail))
          refine wpQuiet_nil ?_
          intro w2 hb2
          go_wp2_with fail
          go_ret
          exact ⟨by rw [decide_eq_false HX.out]; rfl, hbel.trans (hb2.mono hwr)⟩
      · have HX := Lib.hid (show a = b from List.ext_getElem HL.out fun j h1 h2 => hno.out j h1 h2 (by omega))
        go_wp2_with fail
        go_ret
        exact ⟨by rw [decide_eq_true HX.out]; rfl, hbel⟩
  · have hl' : ((a.length : Int) != (b.length : Int)) = true := by rw [bne_iff_ne]; omega
    have HX := Lib.hid (show ¬ a = b from fun e => hl (by rw [e]))
    clear hl
    go_enter Try.func35, Try.ntmps35
    go_wp2_with fail
    go_ret
    exact ⟨by rw [decide_eq_false HX.out]; rfl, Below.refl _ _⟩
end Go.Proofs.Ytedgcbcphlonpaa
