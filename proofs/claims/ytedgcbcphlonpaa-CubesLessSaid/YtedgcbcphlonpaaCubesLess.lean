/- raillaw3.CubesLess returns true for every cube and every list of cubes: less itself nothing is left; what is left and what was taken are the cube again. Conditions: none. -/
import Derived.Test.YtedgcbcphlonpaaOpen
import Derived.Test.YtedgcbcphlonpaaCubes2
import Derived.Test.YtedgcbcphlonpaaOpenRow
import Derived.JoinedCond
namespace Go.Proofs.Ytedgcbcphlonpaa.lawCubesLess
open Go.ChangeShapes Go.WideShapes Go.ChangeAt Go.RowKit
open Go.ChangeMaps (open_string shut_string)
set_option linter.unusedSimpArgs false
set_option linter.unusedVariables false

/-! ### what meets -/
def mN (x y : Nc) : Nc := (x.1 ||| y.1, x.2 ||| y.2)
def meetOk (x y : Nc) : Bool := if metN x y then okN (mN x y) && (List.range 16).all (fun h => hasN (mN x y) h == (hasN x h && hasN y h)) else (List.range 16).all fun h => !(hasN x h && hasN y h)
theorem meet_all : ((List.range 256).all fun i => !okN (i / 16, i % 16) || (List.range 256).all fun j => !okN (j / 16, j % 16) || meetOk (i / 16, i % 16) (j / 16, j % 16)) = true := by decide +kernel
theorem meet_ok {a b : Nc} (ha : okN a = true) (hb : okN b = true) : meetOk a b = true := by
  obtain ⟨a1, a2⟩ := okN_lt ha
  obtain ⟨b1, b2⟩ := okN_lt hb
  have e1 := List.all_eq_true.1 meet_all (a.1 * 16 + a.2) (List.mem_range.2 (by omega))
  rw [show ((a.1 * 16 + a.2) / 16, (a.1 * 16 + a.2) % 16) = a from Prod.ext (by simp; omega) (by simp; omega), ha, Bool.not_true, Bool.false_or] at e1
  have e2 := List.all_eq_true.1 e1 (b.1 * 16 + b.2) (List.mem_range.2 (by omega))
  rw [show ((b.1 * 16 + b.2) / 16, (b.1 * 16 + b.2) % 16) = b from Prod.ext (by simp; omega) (by simp; omega), hb, Bool.not_true, Bool.false_or] at e2
  exact e2
/-- of each cube that meets c, what both have -/
def meets (c : Cb) (l : List Cb) : List Cb := l.filterMap fun x => if cmet c.m c.b x.m x.b = true then some ⟨bits .or .i64 c.m x.m, bits .or .i64 c.b x.b⟩ else none
def meetsN (c : Nc) (l : List Nc) : List Nc := l.filterMap fun x => if metN c x = true then some (mN c x) else none
theorem meets_le (c : Cb) (l : List Cb) : (meets c l).length ≤ l.length := List.length_filterMap_le _ _
theorem meets_take {c : Cb} {l : List Cb} {k : Nat} (hk : k < l.length) : meets c (l.take (k + 1)) = meets c (l.take k) ++ if cmet c.m c.b l[k].m l[k].b = true then [⟨bits .or .i64 c.m l[k].m, bits .or .i64 c.b l[k].b⟩] else [] := by
  unfold meets
  rw [List.take_succ_eq_append_getElem hk, List.filterMap_append]
  congr 1
  by_cases h : cmet c.m c.b l[k].m l[k].b = true <;> simp [h]
theorem meets_cb {c : Nc} (hc : okN c = true) : ∀ {l : List Nc}, (∀ x ∈ l, okN x = true) → meets c.cb (l.map Nc.cb) = (meetsN c l).map Nc.cb
  | [], _ => rfl
  | x :: l, h => by
    have hx := h x (by simp)
    have ih := meets_cb hc (l := l) (fun y hy => h y (by simp [hy]))
    unfold meets meetsN at *
    rw [List.map_cons, List.filterMap_cons, List.filterMap_cons, cmet_cb hc hx, ih]
    by_cases hm : metN c x = true
    · have e : (⟨bits .or .i64 c.cb.m x.cb.m, bits .or .i64 c.cb.b x.cb.b⟩ : Cb) = (mN c x).cb := by
        show (⟨bits .or .i64 (c.1 : Int) (x.1 : Int), bits .or .i64 (c.2 : Int) (x.2 : Int)⟩ : Cb) = ⟨((c.1 ||| x.1 : Nat) : Int), ((c.2 ||| x.2 : Nat) : Int)⟩
        rw [nor_ (okN_lt hc).1 (okN_lt hx).1, nor_ (okN_lt hc).2 (okN_lt hx).2]
      simp [hm, e]
    · simp [hm]
theorem meetsN_ok {c : Nc} (hc : okN c = true) {l : List Nc} (hl : ∀ x ∈ l, okN x = true) : ∀ y ∈ meetsN c l, okN y = true := by
  intro y hy
  obtain ⟨x, hx, h⟩ := List.mem_filterMap.1 hy
  split at h
  · rename_i hm
    obtain rfl : mN c x = y := by simpa using h
    have := meet_ok hc (hl x hx)
    unfold meetOk at this
    rw [if_pos hm, Bool.and_eq_true] at this
    exact this.1
  · cases h
theorem meetsN_any {c : Nc} (hc : okN c = true) {h : Nat} (hh : h < 16) : ∀ {l : List Nc}, (∀ x ∈ l, okN x = true) → ((meetsN c l).any fun x => hasN x h) = (hasN c h && l.any fun x => hasN x h)
  | [], _ => by simp [meetsN]
  | x :: l, hl => by
    have hx := meet_ok hc (hl x (by simp))
    have ih := meetsN_any hc hh (l := l) (fun y hy => hl y (by simp [hy]))
    unfold meetOk at hx
    unfold meetsN at *
    rw [List.filterMap_cons]
    by_cases hm : metN c x = true
    · rw [if_pos hm, Bool.and_eq_true] at hx
      have h2 := List.all_eq_true.1 hx.2 h (List.mem_range.2 hh)
      rw [beq_iff_eq] at h2
      simp only [hm, if_true, List.any_cons, h2, ih]
      cases hasN c h <;> simp
    · rw [if_neg hm] at hx
      have h2 := List.all_eq_true.1 hx h (List.mem_range.2 hh)
      simp only [hm, Bool.false_eq_true, if_false, List.any_cons, ih]
      cases e1 : hasN c h <;> cases e2 : hasN x h <;> simp_all
theorem cfault_all : ∀ {l : List Cb}, (∀ x ∈ l, cchk x.m x.b = 0) → cfault l = 0
  | [], _ => rfl
  | x :: l, h => by
    unfold cfault
    rw [if_neg (by simpa using h x (by simp))]
    exact cfault_all fun y hy => h y (by simp [hy])
theorem csany_cb {h : Nat} (hh : h < 16) : ∀ {l : List Nc}, (∀ x ∈ l, okN x = true) → csany (l.map Nc.cb) (h : Int) = l.any fun x => hasN x h
  | [], _ => rfl
  | x :: l, hl => by
    have ih := csany_cb hh (l := l) (fun y hy => hl y (by simp [hy]))
    unfold csany at *
    rw [List.map_cons, List.any_cons, List.any_cons, ih, chas_cb (hl x (by simp)) hh]
theorem any_count {l : List Nc} {h : Nat} : (l.any fun x => hasN x h) = decide (0 < l.countP fun x => hasN x h) := by
  rw [Bool.eq_iff_iff, List.any_eq_true, decide_eq_true_eq, List.countP_pos_iff]
theorem cshdrs_eq {a b : List Cb} (ha : cschk a = 0) (hb : cschk b = 0) (h : ∀ n : Nat, n < 16 → csany a (n : Int) = csany b (n : Int)) : cshdrs a = cshdrs b := by
  unfold cshdrs
  rw [if_pos ha, if_pos hb]
  unfold hdrsTo
  congr 1
  apply List.filter_congr
  intro n hn
  exact h n (List.mem_range.1 hn)
theorem cschk_of {l : List Cb} (hl : l.length ≤ 40) (h : ∀ x ∈ l, cchk x.m x.b = 0) : cschk l = 0 := by
  unfold cschk
  rw [if_neg (by omega)]
  exact cfault_all h
/-- what is left of a cube, and what was taken of it, are it again -/
theorem less_again {c : Cb} {l : List Cb} (hc : cchk c.m c.b = 0) (hl : cschk l = 0) (hlen : (lessAll l [c]).length + l.length ≤ 40) :
    cschk (lessAll l [c] ++ meets c l) = 0 ∧ cschk [c] = 0 ∧ cshdrs (lessAll l [c] ++ meets c l) = cshdrs [c] := by
  have h1 : cschk [c] = 0 := cschk_of (by simp) (by simpa using hc)
  have hle := meets_le c l
  have hall := cschk_all hl
  have h40 : (lessAll l [c] ++ meets c l).length ≤ 40 := by rw [List.length_append]; omega
  obtain ⟨n, rfl, hn⟩ := cb_ok hc
  obtain ⟨m, rfl, hm⟩ := cbs_ok hall
  have e1 := lessAll_cb (l := m) (os := [n]) hm (by simpa using hn)
  simp only [List.map_cons, List.map_nil] at e1
  have e2 := meets_cb hn hm
  have hA := (Apart.single hn).all hm
  rw [e1, e2, ← List.map_append] at h40 ⊢
  have hok : ∀ x ∈ lessAllN m [n] ++ meetsN n m, okN x = true := fun x hx => (List.mem_append.1 hx).elim (hA.ok x) (meetsN_ok hn hm x)
  have h2 : cschk ((lessAllN m [n] ++ meetsN n m).map Nc.cb) = 0 := cschk_of h40 (fun x hx => by
    obtain ⟨y, hy, rfl⟩ := List.mem_map.1 hx
    exact cchk_cb (hok y hy))
  refine ⟨h2, h1, cshdrs_eq h2 h1 fun k hk => ?_⟩
  rw [csany_cb hk hok, show [n.cb] = [n].map Nc.cb from rfl, csany_cb hk (by simpa using hn), List.any_append, meetsN_any hn hk hm, any_count, hA.one k hk]
  simp only [List.any_cons, List.any_nil, Bool.or_false]
  cases hasN n k <;> cases (m.any fun b => hasN b k) <;> simp
theorem less_self {c : Cb} (hc : cchk c.m c.b = 0) : lessAll [c] [c] = [] := by
  obtain ⟨n, rfl, hn⟩ := cb_ok hc
  have e1 := lessAll_cb (l := [n]) (os := [n]) (by simpa using hn) (by simpa using hn)
  simp only [List.map_cons, List.map_nil] at e1
  have hA := (Apart.single hn).all (l := [n]) (by simpa using hn)
  have h1 := sum_count 16 _ (fun x hx => ⟨(okN_lt (hA.ok x hx)).2, has_own (hA.ok x hx)⟩)
  have h2 : tot (fun h => (lessAllN [n] [n]).countP fun x => hasN x h) 16 = tot (fun _ => 0) 16 := tot_congr 16 (fun i hi => by
    rw [hA.one i hi]
    by_cases h : hasN n i = true <;> simp [h])
  rw [h2, show tot (fun _ => 0) 16 = 0 from rfl] at h1
  have h3 : lessAllN [n] [n] = [] := List.eq_nil_of_length_eq_zero (by omega)
  rw [e1, h3]
  rfl
theorem full_16 : cschk [⟨0, 0⟩] = 0 ∧ (cshdrs [⟨0, 0⟩]).length = 16 := by decide +kernel

theorem Cubes.one {w : World} {e g : Nat} (x : Cb) (hg : g = w.heap.size) : Cubes (w.alloc (.cells #[.int .i64 x.m, .int .i64 x.b] e)) (some ⟨g, 0, none⟩) 1 [x] := by
  subst hg
  exact ⟨rfl, Nat.le_refl _, by simp [Cb.cells], fun _ => ⟨w.heap.size, 0, rfl, by simp, fun i cs hi j u hu => by
    match i, hi with
    | 0, hi =>
      simp only [List.map_cons, List.map_nil, List.getElem?_cons_zero, Option.some.injEq] at hi
      subst hi
      match j, hu with
      | 0, hu => simp [Cb.cells] at hu; subst hu; simp [go_sem]
      | 1, hu => simp [Cb.cells] at hu; subst hu; simp [go_sem]⟩⟩
theorem fact_minus (w : World) : Calls Try.prog 26 #[.agg #[.int .i64 0, .int .i64 0], .slice none 0 0] w (RetCubesV [⟨0, 0⟩] .nilIface w) :=
  cminus_ok none 0 ⟨0, 0⟩ [] w (RowC.none_ w 2) (by decide +kernel) rfl
theorem fact_count (A : Option Addr) (cp : Nat) (w : World) (h : Cubes w A cp [⟨0, 0⟩]) : Calls Try.prog 27 #[.slice A 1 cp] w fun e w' => e = .returned (.tuple #[.int .i64 16, .nilIface]) ∧ Below w.heap.size w w' := by
  have := cscount_ok A cp [⟨0, 0⟩] w h full_16.1
  rw [full_16.2] at this
  exact this

set_option maxRecDepth 100000 in
set_option maxHeartbeats 800000 in
theorem walk_c (A : Option Addr) (cp : Nat) (c : Cb) (l : List Cb) (w : World) (hc : cchk c.m c.b ≠ 0) : Calls Try.prog 8 #[.agg #[.int .i64 c.m, .int .i64 c.b], .slice A l.length cp] w fun e w' => e = .returned (.bool true) ∧ Below w.heap.size w w' := by
  have e0 : mchk c [c] = cchk c.m c.b := by unfold mchk; rw [if_pos hc]
  have H1 := Lib.hid (fun A cp w h => cminus_bad A cp c [c] w h (by rw [e0]; exact hc))
  have H2 := Lib.hid (fun w => ccheck_bad c.m c.b w hc)
  rw [e0] at H1
  clear hc e0
  generalize cchk c.m c.b = q at *
  go_enter Try.func8, Try.ntmps8
  go_wp2_with fail
  refine (fact_minus _).mono ?_
  rintro e w1 ⟨v1, rfl, hown1, hbw1⟩
  obtain ⟨hcw1, hfw1⟩ := bcell hbw1
  have hzw1 := hbw1.size
  simp at hzw1
  have y1 : w.heap.size < w1.heap.size := by omega
  have hB1 := bstep (w := w) (by go_grown) hbw1
  obtain ⟨A1, c1, rfl, hr1⟩ := hown1.cubes
  have HR1 := Lib.hid hr1
  clear hown1 hr1
  go_wp2_with fail
  (go_at_call 27; refine (fact_count _ _ _ HR1.out).mono ?_; rintro e w2 ⟨rfl, hbw2⟩; obtain ⟨hcw2, hfw2⟩ := bcell hbw2; have hzw2 := hbw2.size; (try simp at hzw2); have hBw2 := bstep (w := w) (by go_grown) hbw2; (try have : w.heap.size < w2.heap.size := by omega); (try have : w.heap.size + 1 < w2.heap.size := by omega); (try have : w.heap.size + 1 + 1 < w2.heap.size := by omega); (try have : w.heap.size + 1 + 1 + 1 < w2.heap.size := by omega))
  go_wp2_with fail
  (go_at_call 26; refine (H1.out _ _ _ (Cubes.one c rfl)).mono ?_; rintro e w3 ⟨rfl, hbw3⟩; obtain ⟨hcw3, hfw3⟩ := bcell hbw3; have hzw3 := hbw3.size; (try simp at hzw3); have hBw3 := bstep (w := w) (by go_grown) hbw3; (try have : w.heap.size < w3.heap.size := by omega); (try have : w.heap.size + 1 < w3.heap.size := by omega); (try have : w.heap.size + 1 + 1 < w3.heap.size := by omega); (try have : w.heap.size + 1 + 1 + 1 < w3.heap.size := by omega))
  go_wp2_with fail
  (go_at_call 16; refine (H2.out _).mono ?_; rintro e w4 ⟨rfl, hbw4⟩; obtain ⟨hcw4, hfw4⟩ := bcell hbw4; have hzw4 := hbw4.size; (try simp at hzw4); have hBw4 := bstep (w := w) (by go_grown) hbw4; (try have : w.heap.size < w4.heap.size := by omega); (try have : w.heap.size + 1 < w4.heap.size := by omega); (try have : w.heap.size + 1 + 1 < w4.heap.size := by omega); (try have : w.heap.size + 1 + 1 + 1 < w4.heap.size := by omega))
  go_wp2_with fail
  go_ret
  exact ⟨ret_bool rfl, by go_grown⟩

set_option maxRecDepth 100000 in
set_option maxHeartbeats 800000 in
theorem walk_l (A : Option Addr) (cp : Nat) (c : Cb) (l : List Cb) (w : World) (h : Cubes w A cp l) (hc : cchk c.m c.b = 0) (hl : cschk l ≠ 0) : Calls Try.prog 8 #[.agg #[.int .i64 c.m, .int .i64 c.b], .slice A l.length cp] w fun e w' => e = .returned (.bool true) ∧ Below w.heap.size w w' := by
  have e0 : mchk c l = cschk l := by unfold mchk; rw [if_neg (by simpa using hc)]
  have H1 := Lib.hid (fun A cp w h => cminus_ok A cp c [c] w h hc (cschk_of (by simp) (by simpa using hc)))
  rw [less_self hc] at H1
  have H2 := Lib.hid (fun W (hW : Below w.heap.size w W) => cminus_bad A cp c l W (h.below hW) (by rw [e0]; exact hl))
  rw [e0] at H2
  clear hc e0 hl h
  generalize cschk l = q at *
  go_enter Try.func8, Try.ntmps8
  go_wp2_with fail
  refine (fact_minus _).mono ?_
  rintro e w1 ⟨v1, rfl, hown1, hbw1⟩
  obtain ⟨hcw1, hfw1⟩ := bcell hbw1
  have hzw1 := hbw1.size
  simp at hzw1
  have y1 : w.heap.size < w1.heap.size := by omega
  have hB1 := bstep (w := w) (by go_grown) hbw1
  obtain ⟨A1, c1, rfl, hr1⟩ := hown1.cubes
  have HR1 := Lib.hid hr1
  clear hown1 hr1
  go_wp2_with fail
  (go_at_call 27; refine (fact_count _ _ _ HR1.out).mono ?_; rintro e w2 ⟨rfl, hbw2⟩; obtain ⟨hcw2, hfw2⟩ := bcell hbw2; have hzw2 := hbw2.size; (try simp at hzw2); have hBw2 := bstep (w := w) (by go_grown) hbw2; (try have : w.heap.size < w2.heap.size := by omega); (try have : w.heap.size + 1 < w2.heap.size := by omega); (try have : w.heap.size + 1 + 1 < w2.heap.size := by omega); (try have : w.heap.size + 1 + 1 + 1 < w2.heap.size := by omega))
  go_wp2_with fail
  refine (H1.out _ _ _ (Cubes.one c rfl)).mono ?_
  rintro e w3 ⟨v3, rfl, hown3, hbw3⟩
  obtain ⟨hcw3, hfw3⟩ := bcell hbw3
  have hzw3 := hbw3.size
  simp at hzw3
  have y3 : w.heap.size < w3.heap.size := by omega
  have hB3 := bstep (w := w) (by go_grown) hbw3
  obtain ⟨A3, c3, rfl, hr3⟩ := hown3.cubes
  have k0 : w3.cell? ⟨w.heap.size, 0, none⟩ = some (.int .i64 c.m) := by simp [go_sem, *]
  have k1 : w3.cell? ⟨w.heap.size, 1, none⟩ = some (.int .i64 c.b) := by simp [go_sem, *]
  clear hown3 hr3 HR1 hcw1 hfw1 hcw2 hfw2 hcw3 hfw3
  go_wp2_with fail
  (go_at_call 26; refine (H2.out _ hB3).mono ?_; rintro e w4 ⟨rfl, hbw4⟩; obtain ⟨hcw4, hfw4⟩ := bcell hbw4; have hzw4 := hbw4.size; (try simp at hzw4); have hBw4 := bstep (w := w) (by go_grown) hbw4; (try have : w.heap.size < w4.heap.size := by omega); (try have : w.heap.size + 1 < w4.heap.size := by omega); (try have : w.heap.size + 1 + 1 < w4.heap.size := by omega); (try have : w.heap.size + 1 + 1 + 1 < w4.heap.size := by omega))
  go_wp2_with fail
  go_ret
  exact ⟨ret_bool rfl, by go_grown⟩

/-- at each round's head of the law's loop -/
structure LR (w : World) (base : Nat) (c : Cb) (y l : List Cb) (k : Nat) (bs : List Cb) (A : Option Addr) (cp : Nat) (wr : World) : Prop where
  below : Below w.heap.size w wr
  size : base ≤ wr.heap.size
  c0 : wr.cell? ⟨w.heap.size, 0, none⟩ = some (.int .i64 c.m)
  c1 : wr.cell? ⟨w.heap.size, 1, none⟩ = some (.int .i64 c.b)
  own : Owns wr base 27 2 (.slice A bs.length cp) (bs.map Cb.cells)
  row : Cubes wr A cp bs
  eq : bs = y ++ meets c (l.take k)
theorem LR.more_ {w wr w' : World} {base k cp : Nat} {c : Cb} {y l bs : List Cb} {A : Option Addr} (h : LR w base c y l k bs A cp wr) (hlt : w.heap.size < wr.heap.size) (hb : Below wr.heap.size wr w') (hk : k < l.length) (hm : cmet c.m c.b l[k].m l[k].b = false) : LR w base c y l (k + 1) bs A cp w' where
  below := h.below.trans (hb.mono h.below.size)
  size := Nat.le_trans h.size hb.size
  c0 := (hb.cell (p := ⟨w.heap.size, 0, none⟩) hlt).trans h.c0
  c1 := (hb.cell (p := ⟨w.heap.size, 1, none⟩) hlt).trans h.c1
  own := h.own.below hb
  row := h.row.below hb
  eq := by rw [meets_take hk, hm, h.eq]; simp
theorem LR.push {w wr W w' : World} {base k cp : Nat} {c : Cb} {y l bs : List Cb} {A : Option Addr} {v : Value} (h : LR w base c y l k bs A cp wr) (hlt : w.heap.size < base) (hW : Below wr.heap.size wr W) (hb : Below base W w') (hk : k < l.length) (hm : cmet c.m c.b l[k].m l[k].b = true)
    (ho : Owns w' base 27 2 v (bs.map Cb.cells ++ [[.int .i64 (bits .or .i64 c.m l[k].m), .int .i64 (bits .or .i64 c.b l[k].b)]])) :
    ∃ A2 cp2 bs2, v = .slice A2 bs2.length cp2 ∧ LR w base c y l (k + 1) bs2 A2 cp2 w' := by
  have ho' : Owns w' base 27 2 v ((bs ++ [(⟨bits .or .i64 c.m l[k].m, bits .or .i64 c.b l[k].b⟩ : Cb)]).map Cb.cells) := by rw [List.map_append]; exact ho
  obtain ⟨A2, cp2, rfl, hr⟩ := ho'.cubes
  have hB : Below base wr w' := (hW.mono h.size).trans hb
  exact ⟨A2, cp2, _, rfl, h.below.trans (hB.mono (Nat.le_of_lt hlt)), Nat.le_trans h.size hB.size, (hB.cell (p := ⟨w.heap.size, 0, none⟩) hlt).trans h.c0, (hB.cell (p := ⟨w.heap.size, 1, none⟩) hlt).trans h.c1, ho', hr, by rw [meets_take hk, hm, h.eq]; simp⟩
set_option maxRecDepth 100000 in
set_option maxHeartbeats 1600000 in
theorem walk_ok (A : Option Addr) (cp : Nat) (c : Cb) (l : List Cb) (w : World) (h : Cubes w A cp l) (hc : cchk c.m c.b = 0) (hl : cschk l = 0) : Calls Try.prog 8 #[.agg #[.int .i64 c.m, .int .i64 c.b], .slice A l.length cp] w fun e w' => e = .returned (.bool true) ∧ Below w.heap.size w w' := by
  have H1 := Lib.hid (fun A cp w h => cminus_ok A cp c [c] w h hc (cschk_of (by simp) (by simpa using hc)))
  rw [less_self hc] at H1
  have H2 := Lib.hid (fun W (hW : Below w.heap.size w W) => cminus_ok A cp c l W (h.below hW) hc hl)
  have HG := Lib.hid (less_again hc hl)
  have HC := Lib.hid h
  have l40 := cschk_len hl
  have l16 := lessAll_le hc (cschk_all hl)
  clear hc hl h
  generalize lessAll l [c] = y at *
  go_enter Try.func8, Try.ntmps8
  go_wp2_with fail
  refine (fact_minus _).mono ?_
  rintro e w1 ⟨v1, rfl, hown1, hbw1⟩
  obtain ⟨hcw1, hfw1⟩ := bcell hbw1
  have hzw1 := hbw1.size
  simp at hzw1
  have y1 : w.heap.size < w1.heap.size := by omega
  have hB1 := bstep (w := w) (by go_grown) hbw1
  obtain ⟨A1, c1, rfl, hr1⟩ := hown1.cubes
  have HR1 := Lib.hid hr1
  clear hown1 hr1
  go_wp2_with fail
  (go_at_call 27; refine (fact_count _ _ _ HR1.out).mono ?_; rintro e w2 ⟨rfl, hbw2⟩; obtain ⟨hcw2, hfw2⟩ := bcell hbw2; have hzw2 := hbw2.size; (try simp at hzw2); have hBw2 := bstep (w := w) (by go_grown) hbw2; (try have : w.heap.size < w2.heap.size := by omega); (try have : w.heap.size + 1 < w2.heap.size := by omega); (try have : w.heap.size + 1 + 1 < w2.heap.size := by omega); (try have : w.heap.size + 1 + 1 + 1 < w2.heap.size := by omega))
  go_wp2_with fail
  refine (H1.out _ _ _ (Cubes.one c rfl)).mono ?_
  rintro e w3 ⟨v3, rfl, hown3, hbw3⟩
  obtain ⟨hcw3, hfw3⟩ := bcell hbw3
  have hzw3 := hbw3.size
  simp at hzw3
  have y3 : w.heap.size < w3.heap.size := by omega
  have hB3 := bstep (w := w) (by go_grown) hbw3
  obtain ⟨A3, c3, rfl, hr3⟩ := hown3.cubes
  have k0 : w3.cell? ⟨w.heap.size, 0, none⟩ = some (.int .i64 c.m) := by simp [go_sem, *]
  have k1 : w3.cell? ⟨w.heap.size, 1, none⟩ = some (.int .i64 c.b) := by simp [go_sem, *]
  clear hown3 hr3 HR1 hcw1 hfw1 hcw2 hfw2 hcw3 hfw3
  go_wp2_with fail
  refine (H2.out _ hB3).mono ?_
  rintro e w4 ⟨v4, rfl, hown4, hbw4⟩
  obtain ⟨hcw4, hfw4⟩ := bcell hbw4
  have hzw4 := hbw4.size
  have y4 : w.heap.size < w4.heap.size := by omega
  have hB4 := bstep (w := w) (by go_grown) hbw4
  obtain ⟨A4, c4, rfl, hr4⟩ := hown4.cubes
  clear hown4
  have hc0 : w4.cell? ⟨w.heap.size, 0, none⟩ = some (.int .i64 c.m) := by simp [go_sem, *]
  have hc1 : w4.cell? ⟨w.heap.size, 1, none⟩ = some (.int .i64 c.b) := by simp [go_sem, *]
  clear hcw4 hfw4 k0 k1 hbw1 hbw2 hbw3 hbw4 hzw1 hzw2 hzw3 hzw4 hB1 hBw2 hB3 y1 y3
  have HR4 := Lib.hid hr4
  clear hr4
  go_wp2_with (at_builtin; refine wpList_extend el_cube rfl (.tmp 62) (.tmp 63) rfl w4.heap.size (.slice none 0 0) [] rfl (Owns.nil_ _ _ _ _) A4 _ c4 (y.map Cb.cells) rfl HR4.out (cubes_one _) ?c1 ?c2 ?c3 ?_)
  case c1 => simp only [List.length_nil, maxLen]; omega
  case c2 => simp only [List.length_nil]; omega
  case c3 => omega
  intro v5 w5 hown5 hb5
  obtain ⟨A5, c5, rfl, hr5⟩ := Owns.cubes (l := y) (by simpa using hown5)
  have hST : Hid (LR w w4.heap.size c y l 0 y A5 c5 w5) := ⟨hB4.trans (hb5.mono hB4.size), hb5.size, (hb5.cell (p := ⟨w.heap.size, 0, none⟩) y4).trans hc0, (hb5.cell (p := ⟨w.heap.size, 1, none⟩) y4).trans hc1, by simpa using hown5, hr5, by simp [meets]⟩
  have hB5 : Below w.heap.size w w5 := hST.out.below
  clear hown5 hr5 hc0 hc1 HR4 hb5
  generalize w4.heap.size = base at *
  go_wp2_with fail
  go_loopw [13, 14] (fun v i wr => ∃ k A' c' bs, k ≤ l.length ∧ i = .int .i64 (k : Nat) ∧ v = .slice A' bs.length c' ∧ LR w base c y l k bs A' c' wr) (fun _ i _ => l.length - (intOf i).toNat)
  case atStart => exact ⟨0, A5, c5, y, by omega, rfl, rfl, hST.out⟩
  case round =>
    obtain ⟨k, A', c', bs, hk, rfl, rfl, hr⟩ := hrel
    have HR := Lib.hid hr
    obtain ⟨hbel, hsz, b0, b1, hown, hrow, heq⟩ := hr
    have HO := Lib.hid hown
    have HW := Lib.hid hrow
    have HE := Lib.hid heq
    have hml : bs.length ≤ y.length + k := by
      have h1 := meets_le c (l.take k)
      rw [List.length_take] at h1
      rw [heq, List.length_append]; omega
    have hwr := hbel.size
    have hlw : w.heap.size < wr.heap.size := by omega
    clear hown hrow heq hST
    by_cases hlt : k < l.length
    · by_cases h40 : bs.length < 40
      · obtain ⟨bb, o, rfl, hb, d0, d1⟩ := (HC.out.below hbel).at_ hlt
        have i0 : (0 : Int) ≤ (k : Int) := by omega
        have i1 : (k : Int) < (l.length : Int) := by omega
        cases hm : cmet c.m c.b l[k].m l[k].b with
        | false =>
          have HM := Lib.hid (fun w => cmeet_no _ _ _ _ w hm)
          have HS := Lib.hid (fun w' (hb : Below wr.heap.size wr w') => HR.out.more_ hlw hb hlt hm)
          clear hm
          go_wp2_with fail
          have hkeep : ∀ W : World, Below wr.heap.size wr W → (Below wr.heap.size wr W ∧ W.cell? ⟨w.heap.size, 0, none⟩ = some (.int .i64 c.m) ∧ W.cell? ⟨w.heap.size, 1, none⟩ = some (.int .i64 c.b) ∧ W.cell? ⟨bb, o + k * 2, none⟩ = some (.int .i64 l[k].m) ∧ W.cell? ⟨bb, o + k * 2 + 1, none⟩ = some (.int .i64 l[k].b)) :=
            fun W hW => ⟨hW, (hW.cell (p := ⟨w.heap.size, 0, none⟩) hlw).trans b0, (hW.cell (p := ⟨w.heap.size, 1, none⟩) hlw).trans b1, (hW.cell (p := ⟨bb, o + k * 2, none⟩) hb).trans d0, (hW.cell (p := ⟨bb, o + k * 2 + 1, none⟩) hb).trans d1⟩
          go_region_held3 (fun W => Below wr.heap.size wr W ∧ W.cell? ⟨w.heap.size, 0, none⟩ = some (.int .i64 c.m) ∧ W.cell? ⟨w.heap.size, 1, none⟩ = some (.int .i64 c.b) ∧ W.cell? ⟨bb, o + k * 2, none⟩ = some (.int .i64 l[k].m) ∧ W.cell? ⟨bb, o + k * 2 + 1, none⟩ = some (.int .i64 l[k].b)) (exact hkeep _ (by go_grown)) (first | (go_at_call 17; refine (HM.out _).mono ?_; rintro e w6 ⟨rfl, hb6⟩; have hB6 := bstep (w := wr) (by go_grown) hb6; have hz6 := hB6.size; obtain ⟨hc6, hf6⟩ := bcell hb6))
          all_goals go_wp2_with fail
          all_goals
            go_roundw
            case rel => exact ⟨k + 1, A', c', bs, by omega, by go_num, rfl, HS.out _ (by go_grown)⟩
            case measure => simp [intOf]; omega
        | true =>
          have HM := Lib.hid (fun w => cmeet_yes _ _ _ _ w hm)
          have HS := Lib.hid (fun W w' v (hW : Below wr.heap.size wr W) (hb : Below base W w') ho => HR.out.push (v := v) y4 hW hb hlt hm ho)
          clear hm
          go_wp2_with fail
          have hkeep : ∀ W : World, Below wr.heap.size wr W → (Below wr.heap.size wr W ∧ W.cell? ⟨w.heap.size, 0, none⟩ = some (.int .i64 c.m) ∧ W.cell? ⟨w.heap.size, 1, none⟩ = some (.int .i64 c.b) ∧ W.cell? ⟨bb, o + k * 2, none⟩ = some (.int .i64 l[k].m) ∧ W.cell? ⟨bb, o + k * 2 + 1, none⟩ = some (.int .i64 l[k].b)) :=
            fun W hW => ⟨hW, (hW.cell (p := ⟨w.heap.size, 0, none⟩) hlw).trans b0, (hW.cell (p := ⟨w.heap.size, 1, none⟩) hlw).trans b1, (hW.cell (p := ⟨bb, o + k * 2, none⟩) hb).trans d0, (hW.cell (p := ⟨bb, o + k * 2 + 1, none⟩) hb).trans d1⟩
          go_region_held3 (fun W => Below wr.heap.size wr W ∧ W.cell? ⟨w.heap.size, 0, none⟩ = some (.int .i64 c.m) ∧ W.cell? ⟨w.heap.size, 1, none⟩ = some (.int .i64 c.b) ∧ W.cell? ⟨bb, o + k * 2, none⟩ = some (.int .i64 l[k].m) ∧ W.cell? ⟨bb, o + k * 2 + 1, none⟩ = some (.int .i64 l[k].b)) (exact hkeep _ (by go_grown)) (first | (go_at_call 17; refine (HM.out _).mono ?_; rintro e w6 ⟨rfl, hb6⟩; have hB6 := bstep (w := wr) (by go_grown) hb6; have hz6 := hB6.size; obtain ⟨hc6, hf6⟩ := bcell hb6))
          all_goals
            go_wp2_with (at_builtin; refine wpList_push_new el_cube rfl (.tmp 86) (.tmp 88) rfl base _ _ rfl (HO.out.below (by go_grown)) [.int .i64 (bits .or .i64 c.m l[k].m), .int .i64 (bits .or .i64 c.b l[k].b)] _ _ rfl (by simp) rfl rfl (by omega) (by simp; omega) (by simp; omega) ?_)
            intro v7 w7 hown7 hb7
            obtain ⟨A7, c7, bs7, rfl, h7⟩ := HS.out _ _ _ (by go_grown) hb7 hown7
            have H7 := Lib.hid h7
            clear hown7 h7
            go_wp2_with fail
            go_roundw
            case rel => exact ⟨k + 1, A7, c7, bs7, by omega, by go_num, rfl, H7.out⟩
            case measure => simp [intOf]; omega
      · have hgt : 40 < y.length + l.length := by omega
        go_wp2_with fail
        go_ret
        exact ⟨ret_bool rfl, hbel⟩
    · by_cases hgt : 40 < y.length + l.length
      · go_wp2_with fail
        go_ret
        exact ⟨ret_bool rfl, hbel⟩
      · obtain ⟨g1, g2, g3⟩ := HG.out (by omega)
        have hbs : bs = y ++ meets c l := by rw [HE.out, List.take_of_length_le (by omega)]
        rw [← hbs] at g1 g3
        have HS := Lib.hid (fun W (hW : Below wr.heap.size wr W) B cb (h : Cubes W B cb [c]) => cssame_ok A' B c' cb bs [c] W (HW.out.below hW) h g1 g2)
        rw [g3, decide_eq_true rfl] at HS
        clear g1 g2 g3 hbs
        go_wp2_with fail
        refine (HS.out _ (by go_grown) _ _ (Cubes.one c rfl)).mono ?_
        rintro e w8 ⟨rfl, hb8⟩
        have hB8 := bstep (w := w) (by go_grown) hb8
        go_wp2_with fail
        go_ret
        exact ⟨ret_bool rfl, hB8⟩
theorem walk (A : Option Addr) (cp : Nat) (c : Cb) (l : List Cb) (w : World) (h : Cubes w A cp l) : Calls Try.prog 8 #[.agg #[.int .i64 c.m, .int .i64 c.b], .slice A l.length cp] w fun e w' => e = .returned (.bool true) ∧ Below w.heap.size w w' := by
  by_cases hc : cchk c.m c.b = 0
  · by_cases hl : cschk l = 0
    · exact walk_ok A cp c l w h hc hl
    · exact walk_l A cp c l w h hc hl
  · exact walk_c A cp c l w hc

set_option maxRecDepth 100000 in
theorem contract (H : Type) (enc : TypeId × Value → H) (W : World) (base : Nat) (args : Array Value) (ds gs : List (DataW H)) (before : List MemPlace)
    (hval : ∀ (j : Nat) t v, Try.f8.params[j]? = some t → args[j]? = some v → Value.okWide Try.prog W .any base t v)
    (hW : DataW.Whole enc Try.prog Try.f8.params.toList Rows.cubesLessSpec.vars false W args.toList ds gs before) :
    Calls Try.prog 8 args W fun e W' => ∃ v, e = .returned v ∧ Rows.cubesLessSpec.post enc Try.prog Try.f8 false true false false W args v W' := by
  have hW' := hW
  obtain ⟨p, q, hA0, hV, rfl, hfz, hnd⟩ := hW
  have hA : DataW.TrodAll enc Try.prog W 0 (fun _ => true) true Try.f8.params.toList args.toList ds p := hA0
  rw [Try.params8] at hA hval
  obtain ⟨v0, vs0, d0, ds0, p0, q0, hargs, rfl, rfl, h0, r0⟩ := trodAll_cons hA
  obtain ⟨v1, vs1, d1, ds1, p1, q1, rfl, rfl, rfl, h1, r1⟩ := trodAll_cons r0
  obtain ⟨rfl, rfl, rfl⟩ := trodAll_nil r1
  obtain rfl : args = #[v0, v1] := by cases args; simp_all
  obtain ⟨rfl, rfl⟩ := trodVars_none hV
  have k0 := h0
  have lt0 : ∀ x ∈ p0, x.block < W.heap.size := by obtain ⟨m, hm⟩ := k0; exact DataW.trod_lt m _ _ _ hm
  have k1 := h1
  have lt1 : ∀ x ∈ p1, x.block < W.heap.size := by obtain ⟨m, hm⟩ := k1; exact DataW.trod_lt m _ _ _ hm
  obtain ⟨m, b, rfl, im, ib⟩ := open_cube (hval 0 27 v0 rfl rfl) h0
  obtain ⟨A, cp, l, rfl, hcu1⟩ := open_cubes (hval 1 60 v1 rfl rfl) h1
  clear hA0
  refine (walk A cp ⟨m, b⟩ l W hcu1).mono fun e W' ⟨he, bel⟩ => ?_
  subst he
  exact ⟨_, rfl, _, _, _, [], _, [], hW', trodAll_mk1 (shut_bool Try.underlying4 _), (trodAll_cons_mk (Below.trod laidOut (by kernel_rfl) (of_decide_eq_true (by kernel_rfl)) k0 bel lt0) (trodAll_cons_mk (Below.trod laidOut (by kernel_rfl) (of_decide_eq_true (by kernel_rfl)) k1 bel lt1) trodAll_mk0)), rfl, bel.frame _, fun h => by cases h⟩

set_option maxRecDepth 100000 in
theorem lifted (os : Os) (started : os.Started) (H : Type) (enc : TypeId × Value → H) :
    ReturnsInHanded {} Try.checked os 8 .any (Rows.cubesLessSpec.pre6 enc Try.prog Try.f8 Rows.cubesLessRow.domain false) (Rows.cubesLessSpec.post enc Try.prog Try.f8 false true false false) := by
  refine returnsInHanded_of_change (C := Try.checked) own started (by kernel_rfl) Try.func8
    (ChangeSpec.witness6 (enc := enc) (C := Try.checked) false ⟨#[], #[.agg #[.int .i64 0, .int .i64 0], .slice none 0 0], []⟩ 8 (by kernel_rfl) (by kernel_rfl) (by kernel_rfl) (by kernel_rfl)) ?_
  intro W base args ds gs before hval0 hW hcnd _
  exact contract H enc W base args ds gs before hval0 hW

theorem over : Rows.cubesLessRow.holds Try.pinned (OpenSpec.ofChange Rows.cubesLessSpec) :=
  OpenClaim.holds_of_wide 8 Try.f8 rfl rfl rfl rfl rfl rfl rfl ⟨rfl, rfl, rfl, rfl, rfl⟩ rfl rfl rfl rfl rfl (by kernel_rfl) Try.func8 (by kernel_rfl)
    (of_decide_eq_true (by kernel_rfl)) (by unfold Func.isWrapper; first | (rw [if_pos (by decide +kernel)]; kernel_rfl) | (rw [if_neg (by decide +kernel)]; exact ⟨rfl, rfl⟩))
    (fun os started H enc _ => lifted os started H enc)

theorem proved : Rows.CubesLessSaid := over
end Go.Proofs.Ytedgcbcphlonpaa.lawCubesLess
