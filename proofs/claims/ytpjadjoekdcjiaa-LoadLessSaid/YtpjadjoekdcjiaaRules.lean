/- What rule.Key, rule.Table and the searches over rules come to. -/
import Derived.Test.YtpjadjoekdcjiaaRule1
import Derived.Test.YtpjadjoekdcjiaaQuiet
import Derived.Test.YtpjadjoekdcjiaaRow
namespace Go.Proofs.Ytpjadjoekdcjiaa
open Go.RowKit
set_option linter.unusedSimpArgs false
set_option linter.unusedVariables false

/-- a rule, and its cells -/
structure Rl where
  p : Int
  m : Int
  b : Int
  o : Int
  s : Int
  v : Int
deriving DecidableEq
instance : Inhabited Rl := ⟨⟨0, 0, 0, 0, 0, 0⟩⟩
def Rl.cells (x : Rl) : List Value := [.int .i64 x.p, .int .i64 x.m, .int .i64 x.b, .int .i64 x.o, .int .i64 x.s, .int .i64 x.v]
def Rl.chk (x : Rl) : Int := rchk x.p x.m x.b x.o x.s x.v
def Rules (w : World) (A : Option Addr) (c : Nat) (l : List Rl) : Prop := RowC w 6 A l.length c (l.map Rl.cells)
theorem Rules.below {w w' : World} {A : Option Addr} {c : Nat} {l : List Rl} (h : Rules w A c l) (hb : Below w.heap.size w w') : Rules w' A c l := RowC.below h hb
theorem Rules.le {w : World} {A : Option Addr} {c : Nat} {l : List Rl} (h : Rules w A c l) : l.length ≤ c := h.2.1
theorem Rules.at_ {w : World} {A : Option Addr} {c : Nat} {l : List Rl} (h : Rules w A c l) {i : Nat} (hi : i < l.length) : ∃ b o, A = some ⟨b, o, none⟩ ∧ b < w.heap.size ∧
    w.cell? ⟨b, o + i * 6, none⟩ = some (.int .i64 l[i].p) ∧ w.cell? ⟨b, o + i * 6 + 1, none⟩ = some (.int .i64 l[i].m) ∧ w.cell? ⟨b, o + i * 6 + 2, none⟩ = some (.int .i64 l[i].b) ∧
    w.cell? ⟨b, o + i * 6 + 3, none⟩ = some (.int .i64 l[i].o) ∧ w.cell? ⟨b, o + i * 6 + 4, none⟩ = some (.int .i64 l[i].s) ∧ w.cell? ⟨b, o + i * 6 + 5, none⟩ = some (.int .i64 l[i].v) := by
  obtain ⟨b, o, cs, e, hlt, hx, hc⟩ := RowC.at_ h hi
  rw [List.getElem?_map, List.getElem?_eq_getElem hi] at hx
  simp only [Option.map_some, Option.some.injEq] at hx
  subst hx
  exact ⟨b, o, e, hlt, hc 0 _ rfl, hc 1 _ rfl, hc 2 _ rfl, hc 3 _ rfl, hc 4 _ rfl, hc 5 _ rfl⟩
/-- the beginning of a table -/
theorem Rules.take {w : World} {A : Option Addr} {c : Nat} {l : List Rl} (h : Rules w A c l) (k : Nat) (hk : k ≤ l.length) : RowC w 6 A k c ((l.take k).map Rl.cells) := by
  obtain ⟨h1, h2, h3, h4⟩ := h
  refine ⟨by simp; omega, by omega, fun cs hcs => ?_, fun hk0 => ?_⟩
  · obtain ⟨x, hx, rfl⟩ := List.mem_map.1 hcs
    exact h3 _ (List.mem_map.2 ⟨x, List.mem_of_mem_take hx, rfl⟩)
  · obtain ⟨b, o, e, hlt, hc⟩ := h4 (by omega)
    refine ⟨b, o, e, hlt, fun i cs hi j u hu => hc i cs ?_ j u hu⟩
    rw [List.getElem?_map] at hi ⊢
    have : i < k := by
      rcases Nat.lt_or_ge i k with h | h
      · exact h
      · rw [List.getElem?_take, if_neg (by omega)] at hi
        cases hi
    rw [List.getElem?_take, if_pos this] at hi
    exact hi

/-- of one key -/
def Rl.key (x y : Rl) : Bool := decide (x.p = y.p ∧ x.m = y.m ∧ x.b = y.b)
set_option maxHeartbeats 400000 in
theorem key_any (x y : Rl) (w : World) : Calls Try.prog 32 #[.agg #[.int .i64 x.p, .int .i64 x.m, .int .i64 x.b, .int .i64 x.o, .int .i64 x.s, .int .i64 x.v], .agg #[.int .i64 y.p, .int .i64 y.m, .int .i64 y.b, .int .i64 y.o, .int .i64 y.s, .int .i64 y.v]] w fun e w' => e = .returned (.bool (x.key y)) ∧ Below w.heap.size w w' := by
  go_enter Try.func32, Try.ntmps32
  go_wp2
  all_goals go_ret
  all_goals refine ⟨?_, by go_grown⟩
  all_goals (refine ret_bool ?_; go_light; unfold Rl.key; rw [Bool.eq_iff_iff]; (try simp only [Bool.not_eq_true', Bool.not_eq_false', decide_eq_false_iff_not, decide_eq_true_eq, bne_iff_ne, ne_eq, bne_eq_false_iff_eq, beq_iff_eq, beq_eq_false_iff_ne, Bool.and_eq_true, Bool.or_eq_true, Bool.not_true, Bool.not_false, Bool.not_eq_true, Bool.false_eq_true, hdr_iff, hdr_not, false_iff, true_iff, iff_false, iff_true] at *); omega)

theorem hmf (fn : Fn) (first cap : Array Value) (w : World) : (Instr.makeFunc fn first cap).run Try.prog w = .ok (.func fn first cap) w := rfl
/-! ### the search by the closure 41 -/
theorem clos41_any (x y : Rl) (b : Nat) (w : World) (hb : b < w.heap.size)
    (h0 : w.cell? ⟨b, 0, none⟩ = some (.int .i64 y.p)) (h1 : w.cell? ⟨b, 1, none⟩ = some (.int .i64 y.m)) (h2 : w.cell? ⟨b, 2, none⟩ = some (.int .i64 y.b))
    (h3 : w.cell? ⟨b, 3, none⟩ = some (.int .i64 y.o)) (h4 : w.cell? ⟨b, 4, none⟩ = some (.int .i64 y.s)) (h5 : w.cell? ⟨b, 5, none⟩ = some (.int .i64 y.v)) :
    Calls Try.prog 41 #[.agg #[.int .i64 x.p, .int .i64 x.m, .int .i64 x.b, .int .i64 x.o, .int .i64 x.s, .int .i64 x.v], .pointer (some ⟨b, 0, none⟩)] w fun e w' => e = .returned (.bool (x.key y)) ∧ Below w.heap.size w w' := by
  go_enter Try.func41, Try.ntmps41
  go_wp2_with (go_at_call 32; refine (key_any _ _ _).mono ?_; rintro e w2 ⟨rfl, hbw2⟩; obtain ⟨hcw2, hfw2⟩ := bcell hbw2; have hzw2 := hbw2.size; (try simp at hzw2); have hBw2 := bstep (w := w) (by go_grown) hbw2; (try have : wa.heap.size < w2.heap.size := by omega); (try have : w.heap.size < w2.heap.size := by omega); (try have : w.heap.size + 1 < w2.heap.size := by omega); (try have : w.heap.size + 1 + 1 < w2.heap.size := by omega); (try have : w.heap.size + 1 + 1 + 1 < w2.heap.size := by omega))
  go_ret
  exact ⟨rfl, by go_grown⟩
set_option maxRecDepth 100000 in
set_option maxHeartbeats 800000 in
theorem rindex41_any (A : Option Addr) (n cp : Nat) (l : List Rl) (w : World) (hn : n = l.length) (h : RowC w 6 A n cp (l.map Rl.cells)) (hl : l.length ≤ 4294967296) (a : Addr) (p : Rl → Bool)
    (hf : ∀ x ∈ l, ∀ W, Below w.heap.size w W → Calls Try.prog 41 #[.agg #[.int .i64 x.p, .int .i64 x.m, .int .i64 x.b, .int .i64 x.o, .int .i64 x.s, .int .i64 x.v], .pointer (some a)] W fun e W' => e = .returned (.bool (p x)) ∧ Below W.heap.size W W') :
    Calls Try.prog 44 #[.slice A n cp, .func (.func 41) #[] #[.pointer (some a)]] w fun e w' => e = .returned (.int .i64 (fidx p l)) ∧ Below w.heap.size w w' := by
  subst hn
  have H : Hid (Rules w A cp l) := h
  have HF := Lib.hid hf
  clear h hf
  go_enter Try.func44, Try.ntmps44
  go_wp2_with fail
  go_loopw [8] (fun i wr => ∃ k : Nat, k ≤ l.length ∧ i = .int .i64 k ∧ Below w.heap.size w wr ∧ Hid (∀ j (hj : j < l.length), j < k → p l[j] = false)) (fun i _ => l.length - (intOf i).toNat)
  case atStart => exact ⟨0, by omega, rfl, Below.refl _ _, fun j _ hj => absurd hj (by omega)⟩
  case round =>
    obtain ⟨k, hk, rfl, hbel, hno⟩ := hrel
    have hwr := hbel.size
    by_cases hlt : k < l.length
    · obtain ⟨b, o, rfl, hb, c0, c1, c2, c3, c4, c5⟩ := (H.out.below hbel).at_ hlt
      have HK := Lib.hid (HF.out l[k] (List.getElem_mem hlt) wr hbel)
      cases hp : p l[k] with
      | true =>
        have HX := Lib.hid (fidx_found hlt hp fun j hj => hno.out j (by omega) hj)
        rw [hp] at HK
        clear hp
        go_wp2_with (go_at_call 41; refine HK.out.mono ?_; rintro e w2 ⟨rfl, hb2⟩)
        go_ret
        exact ⟨by rw [HX.out]; rfl, hbel.trans (hb2.mono hwr)⟩
      | false =>
        have HX := Lib.hid (fun j (hj : j < l.length) (hjk : j < k + 1) => show p l[j] = false from if e : j < k then hno.out j hj e else (by obtain rfl : j = k := (by omega); exact hp))
        rw [hp] at HK
        clear hp
        go_wp2_with (go_at_call 41; refine HK.out.mono ?_; rintro e w2 ⟨rfl, hb2⟩)
        go_roundw
        case rel => exact ⟨k + 1, by omega, by go_num, hbel.trans (hb2.mono hwr), HX.out⟩
        case measure => simp [intOf]; omega
    · have HX := Lib.hid (fidx_none fun j hj => hno.out j hj (by omega))
      go_wp2_with fail
      go_ret
      exact ⟨by rw [HX.out]; rfl, hbel⟩
theorem rcontains41_any (A : Option Addr) (n cp : Nat) (l : List Rl) (w : World) (hn : n = l.length) (h : RowC w 6 A n cp (l.map Rl.cells)) (hl : l.length ≤ 4294967296) (y : Rl) (b : Nat) (hb : b < w.heap.size)
    (h0 : w.cell? ⟨b, 0, none⟩ = some (.int .i64 y.p)) (h1 : w.cell? ⟨b, 1, none⟩ = some (.int .i64 y.m)) (h2 : w.cell? ⟨b, 2, none⟩ = some (.int .i64 y.b))
    (h3 : w.cell? ⟨b, 3, none⟩ = some (.int .i64 y.o)) (h4 : w.cell? ⟨b, 4, none⟩ = some (.int .i64 y.s)) (h5 : w.cell? ⟨b, 5, none⟩ = some (.int .i64 y.v)) :
    Calls Try.prog 30 #[.slice A n cp, .func (.func 41) #[] #[.pointer (some ⟨b, 0, none⟩)]] w fun e w' => e = .returned (.bool (l.any fun x => x.key y)) ∧ Below w.heap.size w w' := by
  have H := Lib.hid (rindex41_any A n cp l w hn h hl ⟨b, 0, none⟩ (fun x => x.key y) fun x _ W hW =>
    have c := fun i => hW.cell (p := ⟨b, i, none⟩) hb
    clos41_any x y b W (Nat.lt_of_lt_of_le hb hW.size) ((c 0).trans h0) ((c 1).trans h1) ((c 2).trans h2) ((c 3).trans h3) ((c 4).trans h4) ((c 5).trans h5))
  have HX := Lib.hid (fidx_any (fun x : Rl => x.key y) l)
  clear h hn h0 h1 h2 h3 h4 h5
  go_enter Try.func30, Try.ntmps30
  go_wp2_with (go_at_call 44; refine (H.out).mono ?_; rintro e w2 ⟨rfl, hbw2⟩; obtain ⟨hcw2, hfw2⟩ := bcell hbw2; have hzw2 := hbw2.size; (try simp at hzw2); have hBw2 := bstep (w := w) (by go_grown) hbw2; (try have : wa.heap.size < w2.heap.size := by omega); (try have : w.heap.size < w2.heap.size := by omega); (try have : w.heap.size + 1 < w2.heap.size := by omega); (try have : w.heap.size + 1 + 1 < w2.heap.size := by omega); (try have : w.heap.size + 1 + 1 + 1 < w2.heap.size := by omega))
  go_ret
  exact ⟨ret_bool HX.out, by go_grown⟩
/-! ### the search by the closure 31 -/
theorem clos31_any (x y : Rl) (b : Nat) (w : World) (hb : b < w.heap.size)
    (h0 : w.cell? ⟨b, 0, none⟩ = some (.int .i64 y.p)) (h1 : w.cell? ⟨b, 1, none⟩ = some (.int .i64 y.m)) (h2 : w.cell? ⟨b, 2, none⟩ = some (.int .i64 y.b))
    (h3 : w.cell? ⟨b, 3, none⟩ = some (.int .i64 y.o)) (h4 : w.cell? ⟨b, 4, none⟩ = some (.int .i64 y.s)) (h5 : w.cell? ⟨b, 5, none⟩ = some (.int .i64 y.v)) :
    Calls Try.prog 31 #[.agg #[.int .i64 x.p, .int .i64 x.m, .int .i64 x.b, .int .i64 x.o, .int .i64 x.s, .int .i64 x.v], .pointer (some ⟨b, 0, none⟩)] w fun e w' => e = .returned (.bool (x.key y)) ∧ Below w.heap.size w w' := by
  go_enter Try.func31, Try.ntmps31
  go_wp2_with (go_at_call 32; refine (key_any _ _ _).mono ?_; rintro e w2 ⟨rfl, hbw2⟩; obtain ⟨hcw2, hfw2⟩ := bcell hbw2; have hzw2 := hbw2.size; (try simp at hzw2); have hBw2 := bstep (w := w) (by go_grown) hbw2; (try have : wa.heap.size < w2.heap.size := by omega); (try have : w.heap.size < w2.heap.size := by omega); (try have : w.heap.size + 1 < w2.heap.size := by omega); (try have : w.heap.size + 1 + 1 < w2.heap.size := by omega); (try have : w.heap.size + 1 + 1 + 1 < w2.heap.size := by omega))
  go_ret
  exact ⟨rfl, by go_grown⟩
set_option maxRecDepth 100000 in
set_option maxHeartbeats 800000 in
theorem rindex31_any (A : Option Addr) (n cp : Nat) (l : List Rl) (w : World) (hn : n = l.length) (h : RowC w 6 A n cp (l.map Rl.cells)) (hl : l.length ≤ 4294967296) (a : Addr) (p : Rl → Bool)
    (hf : ∀ x ∈ l, ∀ W, Below w.heap.size w W → Calls Try.prog 31 #[.agg #[.int .i64 x.p, .int .i64 x.m, .int .i64 x.b, .int .i64 x.o, .int .i64 x.s, .int .i64 x.v], .pointer (some a)] W fun e W' => e = .returned (.bool (p x)) ∧ Below W.heap.size W W') :
    Calls Try.prog 44 #[.slice A n cp, .func (.func 31) #[] #[.pointer (some a)]] w fun e w' => e = .returned (.int .i64 (fidx p l)) ∧ Below w.heap.size w w' := by
  subst hn
  have H : Hid (Rules w A cp l) := h
  have HF := Lib.hid hf
  clear h hf
  go_enter Try.func44, Try.ntmps44
  go_wp2_with fail
  go_loopw [8] (fun i wr => ∃ k : Nat, k ≤ l.length ∧ i = .int .i64 k ∧ Below w.heap.size w wr ∧ Hid (∀ j (hj : j < l.length), j < k → p l[j] = false)) (fun i _ => l.length - (intOf i).toNat)
  case atStart => exact ⟨0, by omega, rfl, Below.refl _ _, fun j _ hj => absurd hj (by omega)⟩
  case round =>
    obtain ⟨k, hk, rfl, hbel, hno⟩ := hrel
    have hwr := hbel.size
    by_cases hlt : k < l.length
    · obtain ⟨b, o, rfl, hb, c0, c1, c2, c3, c4, c5⟩ := (H.out.below hbel).at_ hlt
      have HK := Lib.hid (HF.out l[k] (List.getElem_mem hlt) wr hbel)
      cases hp : p l[k] with
      | true =>
        have HX := Lib.hid (fidx_found hlt hp fun j hj => hno.out j (by omega) hj)
        rw [hp] at HK
        clear hp
        go_wp2_with (go_at_call 31; refine HK.out.mono ?_; rintro e w2 ⟨rfl, hb2⟩)
        go_ret
        exact ⟨by rw [HX.out]; rfl, hbel.trans (hb2.mono hwr)⟩
      | false =>
        have HX := Lib.hid (fun j (hj : j < l.length) (hjk : j < k + 1) => show p l[j] = false from if e : j < k then hno.out j hj e else (by obtain rfl : j = k := (by omega); exact hp))
        rw [hp] at HK
        clear hp
        go_wp2_with (go_at_call 31; refine HK.out.mono ?_; rintro e w2 ⟨rfl, hb2⟩)
        go_roundw
        case rel => exact ⟨k + 1, by omega, by go_num, hbel.trans (hb2.mono hwr), HX.out⟩
        case measure => simp [intOf]; omega
    · have HX := Lib.hid (fidx_none fun j hj => hno.out j hj (by omega))
      go_wp2_with fail
      go_ret
      exact ⟨by rw [HX.out]; rfl, hbel⟩
theorem rcontains31_any (A : Option Addr) (n cp : Nat) (l : List Rl) (w : World) (hn : n = l.length) (h : RowC w 6 A n cp (l.map Rl.cells)) (hl : l.length ≤ 4294967296) (y : Rl) (b : Nat) (hb : b < w.heap.size)
    (h0 : w.cell? ⟨b, 0, none⟩ = some (.int .i64 y.p)) (h1 : w.cell? ⟨b, 1, none⟩ = some (.int .i64 y.m)) (h2 : w.cell? ⟨b, 2, none⟩ = some (.int .i64 y.b))
    (h3 : w.cell? ⟨b, 3, none⟩ = some (.int .i64 y.o)) (h4 : w.cell? ⟨b, 4, none⟩ = some (.int .i64 y.s)) (h5 : w.cell? ⟨b, 5, none⟩ = some (.int .i64 y.v)) :
    Calls Try.prog 30 #[.slice A n cp, .func (.func 31) #[] #[.pointer (some ⟨b, 0, none⟩)]] w fun e w' => e = .returned (.bool (l.any fun x => x.key y)) ∧ Below w.heap.size w w' := by
  have H := Lib.hid (rindex31_any A n cp l w hn h hl ⟨b, 0, none⟩ (fun x => x.key y) fun x _ W hW =>
    have c := fun i => hW.cell (p := ⟨b, i, none⟩) hb
    clos31_any x y b W (Nat.lt_of_lt_of_le hb hW.size) ((c 0).trans h0) ((c 1).trans h1) ((c 2).trans h2) ((c 3).trans h3) ((c 4).trans h4) ((c 5).trans h5))
  have HX := Lib.hid (fidx_any (fun x : Rl => x.key y) l)
  clear h hn h0 h1 h2 h3 h4 h5
  go_enter Try.func30, Try.ntmps30
  go_wp2_with (go_at_call 44; refine (H.out).mono ?_; rintro e w2 ⟨rfl, hbw2⟩; obtain ⟨hcw2, hfw2⟩ := bcell hbw2; have hzw2 := hbw2.size; (try simp at hzw2); have hBw2 := bstep (w := w) (by go_grown) hbw2; (try have : wa.heap.size < w2.heap.size := by omega); (try have : w.heap.size < w2.heap.size := by omega); (try have : w.heap.size + 1 < w2.heap.size := by omega); (try have : w.heap.size + 1 + 1 < w2.heap.size := by omega); (try have : w.heap.size + 1 + 1 + 1 < w2.heap.size := by omega))
  go_ret
  exact ⟨ret_bool HX.out, by go_grown⟩

/-! ### rule.Table -/
theorem Rl.chk_vals (x : Rl) : x.chk = 0 ∨ x.chk = 1 ∨ x.chk = 3 := by
  unfold Rl.chk rchk
  have := cchk_vals x.m x.b
  (repeat' split) <;> first | omega | simp
def tfaultFrom (seen : List Rl) : List Rl → Int
  | [] => 0
  | x :: r => if x.chk ≠ 0 then x.chk else if (seen.any fun y => y.key x) = true then 7 else tfaultFrom (seen ++ [x]) r
/-- the fault of a table -/
def tchk (l : List Rl) : Int := if l.length > 12 then 4 else tfaultFrom [] l
theorem tfault_step {l : List Rl} {k : Nat} (h : k < l.length) : tfaultFrom (l.take k) (l.drop k) = if l[k].chk ≠ 0 then l[k].chk else if ((l.take k).any fun y => y.key l[k]) = true then 7 else tfaultFrom (l.take (k + 1)) (l.drop (k + 1)) := by
  rw [List.drop_eq_getElem_cons h, tfaultFrom, List.take_succ_eq_append_getElem h]
theorem rchk_ok (x : Rl) (w : World) (h : x.chk = 0) : Calls Try.prog 28 #[.agg #[.int .i64 x.p, .int .i64 x.m, .int .i64 x.b, .int .i64 x.o, .int .i64 x.s, .int .i64 x.v]] w fun e w' => e = .returned .nilIface ∧ Below w.heap.size w w' := rcheck_ok _ _ _ _ _ _ w h
theorem rchk_bad (x : Rl) (w : World) (h : x.chk ≠ 0) : Calls Try.prog 28 #[.agg #[.int .i64 x.p, .int .i64 x.m, .int .i64 x.b, .int .i64 x.o, .int .i64 x.s, .int .i64 x.v]] w fun e w' => e = .returned (.iface 66 (.int .i64 x.chk)) ∧ Below w.heap.size w w' := rcheck_bad _ _ _ _ _ _ w h

set_option maxRecDepth 100000 in
set_option maxHeartbeats 800000 in
theorem tcheck_any (A : Option Addr) (cp : Nat) (l : List Rl) (w : World) (h : Rules w A cp l) : Calls Try.prog 23 #[.slice A l.length cp] w fun e w' => e = .returned (errOf (tchk l)) ∧ Below w.heap.size w w' := by
  have hmk := hmf
  have H := Lib.hid h
  have hcp := h.le
  clear h
  by_cases hl : l.length ≤ 12
  · have HT := Lib.hid (show tchk l = tfaultFrom [] l by unfold tchk; rw [if_neg (by omega)])
    go_enter Try.func23, Try.ntmps23
    go_wp2_with fail
    go_loopw [12] (fun i wr => ∃ k : Nat, k ≤ l.length ∧ i = .int .i64 k ∧ Below w.heap.size w wr ∧ Hid (tfaultFrom [] l = tfaultFrom (l.take k) (l.drop k))) (fun i _ => l.length - (intOf i).toNat)
    case atStart => exact ⟨0, by omega, rfl, Below.refl _ _, rfl⟩
    case round =>
      obtain ⟨k, hk, rfl, hbel, hno⟩ := hrel
      have hwr := hbel.size
      by_cases hlt : k < l.length
      · obtain ⟨b, o, rfl, hb, c0, c1, c2, c3, c4, c5⟩ := (H.out.below hbel).at_ hlt
        have HS := Lib.hid (tfault_step hlt)
        by_cases hz : l[k].chk = 0
        · have HC := Lib.hid (fun w => rchk_ok l[k] w hz)
          go_wp2_with fail
          (go_at_call 28; refine (HC.out _).mono ?_; rintro e w2 ⟨rfl, hbw2⟩; obtain ⟨hcw2, hfw2⟩ := bcell hbw2; have hzw2 := hbw2.size; (try simp at hzw2); have hBw2 := bstep (w := w) (by go_grown) hbw2; (try have : wa.heap.size < w2.heap.size := by omega); (try have : w.heap.size < w2.heap.size := by omega); (try have : w.heap.size + 1 < w2.heap.size := by omega); (try have : w.heap.size + 1 + 1 < w2.heap.size := by omega); (try have : w.heap.size + 1 + 1 + 1 < w2.heap.size := by omega))
          go_wp2_with fail
          have q := fun i => hbw2.cell (p := ⟨wr.heap.size, i, none⟩) (by simp)
          have hq : wr.heap.size < w2.heap.size := by omega
          have HR := Lib.hid (rcontains41_any (some ⟨b, o, none⟩) k cp (l.take k) w2 (by simp; omega) ((H.out.below hBw2).take k hk) (by simp; omega) l[k] wr.heap.size hq
            ((q 0).trans (by simp [go_sem])) ((q 1).trans (by simp [go_sem])) ((q 2).trans (by simp [go_sem])) ((q 3).trans (by simp [go_sem])) ((q 4).trans (by simp [go_sem])) ((q 5).trans (by simp [go_sem])))
          cases hany : (l.take k).any fun y => y.key l[k] with
          | true =>
            have HX := Lib.hid (HT.out.trans (hno.out.trans (by rw [HS.out, if_neg (by simpa using hz), if_pos hany])))
            rw [hany] at HR
            clear hany hz q
            refine HR.out.mono ?_
            rintro e w3 ⟨rfl, hb3⟩
            go_wp2_with fail
            go_ret
            exact ⟨by rw [HX.out]; rfl, hBw2.trans (hb3.mono hBw2.size)⟩
          | false =>
            have HX := Lib.hid (hno.out.trans (by rw [HS.out, if_neg (by simpa using hz), if_neg (by rw [hany]; exact Bool.false_ne_true)]))
            rw [hany] at HR
            clear hany hz q
            refine HR.out.mono ?_
            rintro e w3 ⟨rfl, hb3⟩
            go_wp2_with fail
            go_roundw
            case rel => exact ⟨k + 1, by omega, by go_num, hBw2.trans (hb3.mono hBw2.size), HX.out⟩
            case measure => simp [intOf]; omega
        · have HC := Lib.hid (fun w => rchk_bad l[k] w hz)
          have HX := Lib.hid (HT.out.trans (hno.out.trans (by rw [HS.out, if_pos hz])))
          have HZ := Lib.hid hz
          clear hz
          generalize l[k].chk = q at *
          go_wp2_with (go_at_call 28; refine (HC.out _).mono ?_; rintro e w2 ⟨rfl, hbw2⟩; obtain ⟨hcw2, hfw2⟩ := bcell hbw2; have hzw2 := hbw2.size; (try simp at hzw2); have hBw2 := bstep (w := w) (by go_grown) hbw2; (try have : wa.heap.size < w2.heap.size := by omega); (try have : w.heap.size < w2.heap.size := by omega); (try have : w.heap.size + 1 < w2.heap.size := by omega); (try have : w.heap.size + 1 + 1 < w2.heap.size := by omega); (try have : w.heap.size + 1 + 1 + 1 < w2.heap.size := by omega))
          go_ret
          exact ⟨by rw [HX.out, errOf_ne HZ.out]; rfl, by go_grown⟩
      · have HX := Lib.hid (HT.out.trans (hno.out.trans (by rw [List.drop_of_length_le (by omega)]; try rfl)))
        go_wp2_with fail
        go_ret
        exact ⟨by rw [HX.out]; rfl, hbel⟩
  · have HT := Lib.hid (show tchk l = 4 by unfold tchk; rw [if_pos (by omega)])
    go_enter Try.func23, Try.ntmps23
    go_wp2_with fail
    go_ret
    exact ⟨by rw [HT.out]; rfl, Below.refl _ _⟩
theorem tcheck_ok (A : Option Addr) (cp : Nat) (l : List Rl) (w : World) (h : Rules w A cp l) (hz : tchk l = 0) : Calls Try.prog 23 #[.slice A l.length cp] w fun e w' => e = .returned .nilIface ∧ Below w.heap.size w w' :=
  (tcheck_any A cp l w h).mono fun _ _ ⟨he, hb⟩ => ⟨by rw [he, hz]; rfl, hb⟩
theorem tcheck_bad (A : Option Addr) (cp : Nat) (l : List Rl) (w : World) (h : Rules w A cp l) (hz : tchk l ≠ 0) : Calls Try.prog 23 #[.slice A l.length cp] w fun e w' => e = .returned (.iface 66 (.int .i64 (tchk l))) ∧ Below w.heap.size w w' :=
  (tcheck_any A cp l w h).mono fun _ _ ⟨he, hb⟩ => ⟨by rw [he, errOf_ne hz], hb⟩
end Go.Proofs.Ytpjadjoekdcjiaa
