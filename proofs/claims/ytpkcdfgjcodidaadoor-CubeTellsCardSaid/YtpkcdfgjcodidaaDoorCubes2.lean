/- What cubes.minus and what calls it come to. -/
import Derived.Test.YtpkcdfgjcodidaaDoorCubesPlain
namespace Go.Proofs.YtpkcdfgjcodidaaDoor
open Go.RowKit
set_option linter.unusedSimpArgs false
set_option linter.unusedVariables false

theorem lessAll_take {c : Cb} {l : List Cb} {k : Nat} (hk : k < l.length) : lessAll (l.take (k + 1)) [c] = (lessAll (l.take k) [c]).flatMap fun a => without a l[k] := by
  rw [List.take_succ_eq_append_getElem hk]
  unfold lessAll
  rw [List.foldl_append]
  rfl
theorem flat_take {b : Cb} {os : List Cb} {j : Nat} (hj : j < os.length) : (os.take (j + 1)).flatMap (fun a => without a b) = (os.take j).flatMap (fun a => without a b) ++ without os[j] b := by
  rw [List.take_succ_eq_append_getElem hj, List.flatMap_append]
  simp
theorem flat_le (b : Cb) : ∀ os : List Cb, (os.flatMap fun a => without a b).length ≤ 4 * os.length
  | [] => by simp
  | a :: os => by
    have := without_le a b
    have := flat_le b os
    rw [List.flatMap_cons, List.length_append, List.length_cons]
    omega
theorem without_any (a b : Cb) (w : World) : Calls Tryd.prog 104 #[.agg #[.int .i64 a.m, .int .i64 a.b], .agg #[.int .i64 b.m, .int .i64 b.b]] w (RetCubes (without a b) w) := by
  cases h : cmet a.m a.b b.m b.b with
  | true => exact without_yes a b w h
  | false => exact without_no a b w h

set_option maxRecDepth 100000 in
set_option maxHeartbeats 800000 in
theorem minus_any (A : Option Addr) (cp : Nat) (c : Cb) (l : List Cb) (w : World) (h : Cubes w A cp l) (h40 : l.length ≤ 40) (hc : cchk c.m c.b = 0) (hl : ∀ x ∈ l, cchk x.m x.b = 0) : Calls Tryd.prog 82 #[.agg #[.int .i64 c.m, .int .i64 c.b], .slice A l.length cp] w (RetCubes (lessAll l [c]) w) := by
  have H := Lib.hid h
  have HB := Lib.hid (fun k => lessAll_le (l := l.take k) hc (fun x hx => hl x (List.mem_of_mem_take hx)))
  clear h hc hl
  go_enter Tryd.func82, Tryd.ntmps82
  go_wp2_with fail
  go_loopw [5, 15] (fun v i wr => ∃ k A' c' os, k ≤ l.length ∧ i = .int .i64 (k : Nat) ∧ v = .slice A' os.length c' ∧ Cubes wr A' c' os ∧ Owns wr w.heap.size 23 2 (.slice A' os.length c') (os.map Cb.cells) ∧ Below w.heap.size w wr ∧ os.length ≤ 16 ∧ Hid (os = lessAll (l.take k) [c])) (fun _ i _ => l.length - (intOf i).toNat)
  case atStart =>
    have ho : Owns ((w.alloc (.cells #[.int .i64 c.m, .int .i64 c.b] 23)).alloc (.cells #[.int .i64 c.m, .int .i64 c.b] 23)) w.heap.size 23 2 (.slice (some ⟨w.heap.size + 1, 0, none⟩) 1 1) ([c].map Cb.cells) :=
      Owns.made (k := 2) (xs := [c.cells]) (cur := #[.int .i64 c.m, .int .i64 c.b]) (by simp) rfl (by simp <;> omega) rfl (by simp [Cb.cells]) (by simp [maxLen])
    obtain ⟨A', c', hv, hcu⟩ := ho.cubes
    simp only [List.length_cons, List.length_nil, Value.slice.injEq] at hv
    obtain ⟨rfl, -, rfl⟩ := hv
    exact ⟨0, _, _, [c], by omega, rfl, rfl, hcu, ho, by go_grown, by simp, rfl⟩
  case round =>
    obtain ⟨k, A', c', os, hk, rfl, rfl, hcu, how, hbel, hle, hos⟩ := hrel
    have hwr := hbel.size
    have HC := Lib.hid hcu
    have HW := Lib.hid how
    clear hcu how
    by_cases hlt : k < l.length
    · obtain ⟨b, o, rfl, hb, c0, c1⟩ := (H.out.below hbel).at_ hlt
      have HS := Lib.hid (show (os.flatMap fun a => without a l[k]) = lessAll (l.take (k + 1)) [c] by rw [lessAll_take hlt, ← hos.out])
      have HN := HB.out (k + 1)
      rw [← HS.out] at HN
      clear hos
      generalize l[k] = y at *
      obtain ⟨wo, rfl⟩ : ∃ wo : World, wo = wr := ⟨_, rfl⟩
      go_wp2_with fail
      go_loopw [8, 21] (fun v i wi => ∃ (j : Nat) (nx : List Cb), j ≤ os.length ∧ i = .int .i64 (j : Nat) ∧ Owns wi (wo.heap.size + 1) 23 2 v (nx.map Cb.cells) ∧ Below (wo.heap.size + 1) (wo.alloc (.cells #[.int .i64 y.m, .int .i64 y.b] 23)) wi ∧ Hid (nx = (os.take j).flatMap fun a => without a y)) (fun _ i _ => os.length - (intOf i).toNat)
      case atStart => exact ⟨0, [], by omega, rfl, Owns.nil_ _ _ _ _, Below.refl _ _, rfl⟩
      case round =>
        obtain ⟨j, nx, hj, rfl, hown, hbi, hnx⟩ := hrel
        have HO := Lib.hid hown
        have hbo : Below wo.heap.size wo wr := ((Below.refl _ _).alloc (Nat.le_refl _) _).trans (hbi.mono (by omega))
        have hzi := hbi.size
        simp at hzi
        have y0 : wr.cell? ⟨wo.heap.size, 0, none⟩ = some (.int .i64 y.m) := (hbi.cell (p := ⟨wo.heap.size, 0, none⟩) (by simp)).trans (by simp [go_sem])
        have y1 : wr.cell? ⟨wo.heap.size, 1, none⟩ = some (.int .i64 y.b) := (hbi.cell (p := ⟨wo.heap.size, 1, none⟩) (by simp)).trans (by simp [go_sem])
        have hlo : wo.heap.size < wr.heap.size := by omega
        clear hown
        by_cases hjl : j < os.length
        · obtain ⟨b2, o2, rfl, hb2, d0, d1⟩ := (HC.out.below hbo).at_ hjl
          have HT := Lib.hid (flat_take (b := y) hjl)
          have hlen : nx.length ≤ 64 := by
            have h1 := flat_le y (os.take j)
            rw [← hnx.out] at h1
            have := List.length_take_le j os
            have : (os.take j).length ≤ 16 := by rw [List.length_take]; omega
            omega
          have hwl := without_le os[j] y
          generalize os[j] = x at *
          go_wp2_with fail
          refine (without_any x y _).mono ?_
          rintro e w3 ⟨v3, rfl, hown3, hb3⟩
          obtain ⟨A3, c3, rfl, hr3⟩ := hown3.cubes
          have hz3 := hb3.size
          simp at hz3
          have hb3' : Below wr.heap.size wr w3 := ((Below.refl _ _).alloc (Nat.le_refl _) _).trans (hb3.mono (by simp))
          clear hown3 hb3
          go_wp2_with (at_builtin; refine wpList_extend el_cube rfl (.tmp 25) (.tmp 28) rfl (wo.heap.size + 1) _ _ rfl (HO.out.below hb3') A3 _ c3 ((without x y).map Cb.cells) rfl hr3 (cubes_one _) ?c1 ?c2 ?c3 ?_)
          case c1 => simp only [List.length_map, maxLen]; omega
          case c2 => simp only [List.length_map]; omega
          case c3 => omega
          intro v4 w4 hown4 hb4
          have HO4 := Lib.hid hown4
          clear hown4
          go_wp2_with fail
          go_roundw
          case rel => exact ⟨j + 1, nx ++ without x y, by omega, by go_num, by rw [List.map_append]; exact HO4.out, (hbi.trans (hb3'.mono (by omega))).trans hb4, (by rw [HT.out, ← hnx.out] : nx ++ without x y = _)⟩
          case measure => simp [intOf]; omega
        · have hjo : j = os.length := by omega
          subst hjo
          have HX := Lib.hid (show nx = lessAll (l.take (k + 1)) [c] by rw [hnx.out, List.take_length]; exact HS.out)
          have hn16 : nx.length ≤ 16 := by rw [HX.out, ← HS.out]; exact HN
          clear hnx
          go_wp2_with fail
          obtain ⟨A5, c5, rfl, hr5⟩ := HO.out.cubes
          go_roundw
          case rel => exact ⟨k + 1, A5, c5, nx, by omega, by go_num, rfl, hr5, HO.out.mono (by omega), hbel.trans (hbo.mono hwr), hn16, HX.out⟩
          case measure => simp [intOf]; omega
    · have hkl : k = l.length := by omega
      subst hkl
      go_wp2_with fail
      go_ret
      refine ⟨_, rfl, ?_, hbel⟩
      have := hos.out
      rw [List.take_length] at this
      rw [← this]
      exact HW.out

set_option maxRecDepth 100000 in
set_option maxHeartbeats 800000 in
theorem csindex_any (A : Option Addr) (cp : Nat) (l : List Cb) (w : World) (h : Cubes w A cp l) (hl : l.length ≤ 4294967296) (a : Addr) (p : Cb → Bool)
    (hf : ∀ x ∈ l, ∀ W, Below w.heap.size w W → Calls Tryd.prog 81 #[.agg #[.int .i64 x.m, .int .i64 x.b], .pointer (some a)] W fun e W' => e = .returned (.bool (p x)) ∧ Below W.heap.size W W') :
    Calls Tryd.prog 103 #[.slice A l.length cp, .func (.func 81) #[] #[.pointer (some a)]] w fun e w' => e = .returned (.int .i64 (fidx p l)) ∧ Below w.heap.size w w' := by
  have H := Lib.hid h
  have HF := Lib.hid hf
  clear h hf
  go_enter Tryd.func103, Tryd.ntmps103
  go_wp2_with fail
  go_loopw [8] (fun i wr => ∃ k : Nat, k ≤ l.length ∧ i = .int .i64 k ∧ Below w.heap.size w wr ∧ Hid (∀ j (hj : j < l.length), j < k → p l[j] = false)) (fun i _ => l.length - (intOf i).toNat)
  case atStart => exact ⟨0, by omega, rfl, Below.refl _ _, fun j _ hj => absurd hj (by omega)⟩
  case round =>
    obtain ⟨k, hk, rfl, hbel, hno⟩ := hrel
    have hwr := hbel.size
    by_cases hlt : k < l.length
    · obtain ⟨b, o, rfl, hb, c0, c1⟩ := (H.out.below hbel).at_ hlt
      have HK := Lib.hid (HF.out l[k] (List.getElem_mem hlt) wr hbel)
      cases hp : p l[k] with
      | true =>
        have HX := Lib.hid (fidx_found hlt hp fun j hj => hno.out j (by omega) hj)
        rw [hp] at HK
        clear hp
        go_wp2_with (go_at_call 81; refine HK.out.mono ?_; rintro e w2 ⟨rfl, hb2⟩)
        go_ret
        exact ⟨by rw [HX.out]; rfl, hbel.trans (hb2.mono hwr)⟩
      | false =>
        have HX := Lib.hid (fun j (hj : j < l.length) (hjk : j < k + 1) => show p l[j] = false from if e : j < k then hno.out j hj e else (by obtain rfl : j = k := (by omega); exact hp))
        rw [hp] at HK
        clear hp
        go_wp2_with (go_at_call 81; refine HK.out.mono ?_; rintro e w2 ⟨rfl, hb2⟩)
        go_roundw
        case rel => exact ⟨k + 1, by omega, by go_num, hbel.trans (hb2.mono hwr), HX.out⟩
        case measure => simp [intOf]; omega
    · have HX := Lib.hid (fidx_none fun j hj => hno.out j hj (by omega))
      go_wp2_with fail
      go_ret
      exact ⟨by rw [HX.out]; rfl, hbel⟩

theorem cshasone_any (x : Cb) (h : Int) (a : Addr) (w : World) (ha : w.cell? a = some (.int .i64 h)) (hs : a.spot = none) (hb : a.block < w.heap.size) : Calls Tryd.prog 81 #[.agg #[.int .i64 x.m, .int .i64 x.b], .pointer (some a)] w fun e w' => e = .returned (.bool (chas x.m x.b h)) ∧ Below w.heap.size w w' := by
  obtain ⟨b, o, sp⟩ := a
  simp only at hs hb
  subst hs
  go_enter Tryd.func81, Tryd.ntmps81
  go_wp2_with (go_at_call 27; refine (chas_any _ _ _ _).mono ?_; rintro e w2 ⟨rfl, hbw2⟩; obtain ⟨hcw2, hfw2⟩ := bcell hbw2; have hzw2 := hbw2.size; (try simp at hzw2); have hBw2 := bstep (w := w) (by go_grown) hbw2; (try have : wa.heap.size < w2.heap.size := by omega); (try have : w.heap.size < w2.heap.size := by omega); (try have : w.heap.size + 1 < w2.heap.size := by omega); (try have : w.heap.size + 1 + 1 < w2.heap.size := by omega); (try have : w.heap.size + 1 + 1 + 1 < w2.heap.size := by omega))
  go_ret
  exact ⟨rfl, by go_grown⟩

theorem cscontains_any (A : Option Addr) (cp : Nat) (l : List Cb) (w : World) (h : Cubes w A cp l) (hl : l.length ≤ 4294967296) (a : Addr) (p : Cb → Bool)
    (hf : ∀ x ∈ l, ∀ W, Below w.heap.size w W → Calls Tryd.prog 81 #[.agg #[.int .i64 x.m, .int .i64 x.b], .pointer (some a)] W fun e W' => e = .returned (.bool (p x)) ∧ Below W.heap.size W W') :
    Calls Tryd.prog 80 #[.slice A l.length cp, .func (.func 81) #[] #[.pointer (some a)]] w fun e w' => e = .returned (.bool (l.any p)) ∧ Below w.heap.size w w' := by
  have H := Lib.hid (csindex_any A cp l w h hl a p hf)
  have HX := Lib.hid (fidx_any p l)
  clear h hf
  go_enter Tryd.func80, Tryd.ntmps80
  go_wp2_with (go_at_call 103; refine (H.out).mono ?_; rintro e w2 ⟨rfl, hbw2⟩; obtain ⟨hcw2, hfw2⟩ := bcell hbw2; have hzw2 := hbw2.size; (try simp at hzw2); have hBw2 := bstep (w := w) (by go_grown) hbw2; (try have : wa.heap.size < w2.heap.size := by omega); (try have : w.heap.size < w2.heap.size := by omega); (try have : w.heap.size + 1 < w2.heap.size := by omega); (try have : w.heap.size + 1 + 1 < w2.heap.size := by omega); (try have : w.heap.size + 1 + 1 + 1 < w2.heap.size := by omega))
  go_ret
  exact ⟨ret_bool HX.out, by go_grown⟩

/-- has one of them a header? -/
def csany (l : List Cb) (h : Int) : Bool := l.any fun x => chas x.m x.b h
set_option maxRecDepth 100000 in
set_option maxHeartbeats 800000 in
theorem cshas_any (A : Option Addr) (cp : Nat) (l : List Cb) (h : Int) (w : World) (hc : Cubes w A cp l) (hl : l.length ≤ 4294967296) : Calls Tryd.prog 43 #[.slice A l.length cp, .int .i64 h] w fun e w' => e = .returned (.bool (csany l h)) ∧ Below w.heap.size w w' := by
  have hmf : ∀ (fn : Fn) (first cap : Array Value) (w : World), (Instr.makeFunc fn first cap).run Tryd.prog w = .ok (.func fn first cap) w := fun _ _ _ _ => rfl
  have HI := Lib.hid (cscontains_any A cp l (w.alloc (.cells #[.int .i64 h] 3)) (hc.below ((Below.refl _ _).alloc (Nat.le_refl _) _)) hl ⟨w.heap.size, 0, none⟩ (fun x => chas x.m x.b h)
      (fun x _ W2 hW2 => cshasone_any x h ⟨w.heap.size, 0, none⟩ W2 ((hW2.cell (p := ⟨w.heap.size, 0, none⟩) (by simp)).trans (by simp [go_sem])) rfl (Nat.lt_of_lt_of_le (by simp) hW2.size)))
  clear hc
  go_enter Tryd.func43, Tryd.ntmps43
  go_wp2_with (go_at_call 80; refine (HI.out).mono ?_; rintro e w2 ⟨rfl, hbw2⟩; obtain ⟨hcw2, hfw2⟩ := bcell hbw2; have hzw2 := hbw2.size; (try simp at hzw2); have hBw2 := bstep (w := w) (by go_grown) hbw2; (try have : wa.heap.size < w2.heap.size := by omega); (try have : w.heap.size < w2.heap.size := by omega); (try have : w.heap.size + 1 < w2.heap.size := by omega); (try have : w.heap.size + 1 + 1 < w2.heap.size := by omega); (try have : w.heap.size + 1 + 1 + 1 < w2.heap.size := by omega))
  go_ret
  exact ⟨rfl, by go_grown⟩

theorem el_int : Elem Tryd.prog 57 3 1 8 := elem_of (z := .int .i64 0) Tryd.underlying57 (by kernel_rfl) rfl (by omega)
/-- what a function that makes a slice of ints, and an error, gives back -/
def RetIntsE (l : List Int) (er : Int) (w : World) (e : Ending) (w' : World) : Prop := ∃ v, e = .returned (.tuple #[v, errOf er]) ∧ Owns w' w.heap.size 3 1 v (l.map icell) ∧ Below w.heap.size w w'
/-- the same with the error shown -/
def RetIntsV (l : List Int) (er : Value) (w : World) (e : Ending) (w' : World) : Prop := ∃ v, e = .returned (.tuple #[v, er]) ∧ Owns w' w.heap.size 3 1 v (l.map icell) ∧ Below w.heap.size w w'
theorem errOf_ne_ret {l : List Int} {q : Int} {w : World} (h : q ≠ 0) : RetIntsE l q w = RetIntsV l (.iface 119 (.int .i64 q)) w := by
  unfold RetIntsE RetIntsV; rw [errOf_ne h]
theorem errOf_0_ret {l : List Int} {w : World} : RetIntsE l 0 w = RetIntsV l .nilIface w := rfl
/-- the headers below k of some cubes -/
def hdrsTo (l : List Cb) (k : Nat) : List Int := ((List.range k).filter fun h => csany l (h : Nat)).map fun (n : Nat) => (n : Int)
theorem hdrsTo_succ (l : List Cb) (k : Nat) : hdrsTo l (k + 1) = hdrsTo l k ++ if csany l (k : Nat) then [(k : Int)] else [] := by
  unfold hdrsTo
  rw [List.range_succ, List.filter_append, List.map_append]
  by_cases h : csany l (k : Nat) = true
  · simp [h]
  · simp [h]
theorem hdrsTo_le (l : List Cb) (k : Nat) : (hdrsTo l k).length ≤ k := by
  unfold hdrsTo
  rw [List.length_map]
  exact Nat.le_trans (List.length_filter_le _ _) (by simp)
theorem cschk_len {l : List Cb} (h : cschk l = 0) : l.length ≤ 40 := by
  unfold cschk at h
  split at h
  · cases h
  · omega
theorem cfault_0 : ∀ {l : List Cb}, cfault l = 0 → ∀ x ∈ l, cchk x.m x.b = 0
  | [], _ => by simp
  | y :: l, h => by
    unfold cfault at h
    split at h
    · rename_i h2; exact absurd h h2
    · rename_i h2
      have := cfault_0 h
      intro x hx
      rcases List.mem_cons.1 hx with rfl | hx
      · simpa using h2
      · exact this x hx
theorem cschk_all {l : List Cb} (h : cschk l = 0) : ∀ x ∈ l, cchk x.m x.b = 0 := by
  have h40 := cschk_len h
  unfold cschk at h
  rw [if_neg (by omega)] at h
  exact cfault_0 h

set_option maxRecDepth 100000 in
set_option maxHeartbeats 800000 in
theorem csheaders_any (A : Option Addr) (cp : Nat) (l : List Cb) (w : World) (h : Cubes w A cp l) : Calls Tryd.prog 40 #[.slice A l.length cp] w (RetIntsE (if cschk l = 0 then hdrsTo l 16 else []) (cschk l) w) := by
  by_cases hk : cschk l = 0
  · have hl := cschk_len hk
    have HK := Lib.hid hk
    have HCK := Lib.hid (fun w h => cscheck_ok A cp l w h hk)
    rw [if_pos hk, hk]
    have H := Lib.hid h
    clear h hk
    go_enter Tryd.func40, Tryd.ntmps40
    go_wp2_with (go_at_call 38; refine (HCK.out _ H.out).mono ?_; rintro e w1 ⟨rfl, hbw1⟩; obtain ⟨hcw1, hfw1⟩ := bcell hbw1; have hzw1 := hbw1.size; (try simp at hzw1); have hBw1 := bstep (w := w) (by go_grown) hbw1; (try have : wa.heap.size < w1.heap.size := by omega); (try have : w.heap.size < w1.heap.size := by omega); (try have : w.heap.size + 1 < w1.heap.size := by omega); (try have : w.heap.size + 1 + 1 < w1.heap.size := by omega); (try have : w.heap.size + 1 + 1 + 1 < w1.heap.size := by omega))
    go_loopw [5, 12] (fun v i wr => ∃ k : Nat, k ≤ 16 ∧ i = .int .i64 k ∧ Below w.heap.size w wr ∧ Owns wr w.heap.size 3 1 v ((hdrsTo l k).map icell)) (fun _ i _ => 16 - (intOf i).toNat)
    case atStart => exact ⟨0, by omega, rfl, hBw1, Owns.nil_ _ _ _ _⟩
    case round =>
      obtain ⟨k, hk, rfl, hbel, hown⟩ := hrel
      have hwr := hbel.size
      have HO := Lib.hid hown
      clear hown
      by_cases hlt : k < 16
      · have HC := Lib.hid (cshas_any A cp l (k : Int) wr (H.out.below hbel) (by omega))
        have HS := Lib.hid (hdrsTo_succ l k)
        have hle := hdrsTo_le l k
        cases hp : csany l (k : Nat) with
        | true =>
          rw [hp] at HC HS
          clear hp
          go_wp2_with fail
          refine HC.out.mono ?_
          rintro e w2 ⟨rfl, hb2⟩
          go_wp2_with (at_builtin; refine wpList_push_new el_int rfl (.tmp 18) (.tmp 20) rfl w.heap.size _ _ rfl (HO.out.below hb2) [.int .i64 (k : Int)] _ _ rfl rfl rfl rfl (by omega) (by simp; omega) (Nat.le_trans hwr hb2.size) ?_)
          intro v3 w3 hown3 hb3
          have HO3 := Lib.hid hown3
          clear hown3
          go_wp2_with fail
          go_roundw
          case rel => exact ⟨k + 1, by omega, by go_num, (hbel.trans (hb2.mono hwr)).trans hb3, by rw [HS.out, List.map_append]; exact HO3.out⟩
          case measure => simp [intOf]; omega
        | false =>
          rw [hp] at HC HS
          clear hp
          go_wp2_with (go_at_call 43; refine HC.out.mono ?_; rintro e w2 ⟨rfl, hb2⟩)
          go_roundw
          case rel => exact ⟨k + 1, by omega, by go_num, hbel.trans (hb2.mono hwr), by rw [HS.out]; simpa using HO.out.below hb2⟩
          case measure => simp [intOf]; omega
      · obtain rfl : k = 16 := by omega
        go_wp2_with fail
        go_ret2
        exact ⟨_, rfl, HO.out, hbel⟩
  · have HCK := Lib.hid (fun w h => cscheck_bad A cp l w h hk)
    rw [if_neg hk, errOf_ne_ret hk]
    have H := Lib.hid h
    clear h hk
    generalize cschk l = q at *
    go_enter Tryd.func40, Tryd.ntmps40
    go_wp2_with (go_at_call 38; refine (HCK.out _ H.out).mono ?_; rintro e w1 ⟨rfl, hbw1⟩; obtain ⟨hcw1, hfw1⟩ := bcell hbw1; have hzw1 := hbw1.size; (try simp at hzw1); have hBw1 := bstep (w := w) (by go_grown) hbw1; (try have : wa.heap.size < w1.heap.size := by omega); (try have : w.heap.size < w1.heap.size := by omega); (try have : w.heap.size + 1 < w1.heap.size := by omega); (try have : w.heap.size + 1 + 1 < w1.heap.size := by omega); (try have : w.heap.size + 1 + 1 + 1 < w1.heap.size := by omega))
    go_ret2
    exact ⟨_, rfl, Owns.nil_ _ _ _ _, hBw1⟩

theorem drop_eq_step {a b : List Int} {k : Nat} (ha : k < a.length) (hb : k < b.length) : a.drop k = b.drop k ↔ a[k] = b[k] ∧ a.drop (k + 1) = b.drop (k + 1) := by
  rw [List.drop_eq_getElem_cons ha, List.drop_eq_getElem_cons hb, List.cons.injEq]
set_option maxRecDepth 100000 in
set_option maxHeartbeats 800000 in
theorem intsequal_any (A B : Option Addr) (ca cb : Nat) (a b : List Int) (w : World) (ha : Ints w A ca a) (hb : Ints w B cb b) (hl : a.length ≤ 4294967296) (hl2 : b.length ≤ 4294967296) : Calls Tryd.prog 83 #[.slice A a.length ca, .slice B b.length cb] w fun e w' => e = .returned (.bool (decide (a = b))) ∧ Below w.heap.size w w' := by
  by_cases hlen : a.length = b.length
  · have HA := Lib.hid ha
    have HB := Lib.hid hb
    have hne : ((a.length : Int) != (b.length : Int)) = false := by simp [hlen]
    have HL := Lib.hid hlen
    clear ha hb hlen
    go_enter Tryd.func83, Tryd.ntmps83
    go_wp2_with fail
    go_loopw [13] (fun i wr => ∃ k : Nat, k ≤ a.length ∧ i = .int .i64 k ∧ Below w.heap.size w wr ∧ Hid (a = b ↔ a.drop k = b.drop k)) (fun i _ => a.length - (intOf i).toNat)
    case atStart => exact ⟨0, by omega, rfl, Below.refl _ _, Iff.rfl⟩
    case round =>
      obtain ⟨k, hk, rfl, hbel, hno⟩ := hrel
      have hwr := hbel.size
      by_cases hlt : k < a.length
      · have hltb : k < b.length := by rw [← HL.out]; exact hlt
        obtain ⟨b1, o1, rfl, hb1, c1⟩ := (HA.out.below hbel).at_ hlt
        obtain ⟨b2, o2, rfl, hb2, c2⟩ := (HB.out.below hbel).at_ hltb
        have HE := Lib.hid (drop_eq_step hlt hltb)
        have i0 : (0 : Int) ≤ (k : Int) := by omega
        have i1 : (k : Int) < (a.length : Int) := by omega
        have i2 : (k : Int) < (b.length : Int) := by omega
        by_cases he : a[k] = b[k]
        · have HQ := Lib.hid he
          have ht : (a[k] != b[k]) = false := by simpa using he
          clear he
          go_wp2_with fail
          refine wp_region_below (by kernel_rfl) (by kernel_rfl) ?_
          repeat (go_big_quiet_step (fail))
          (refine wpQuiet_nil ?_; intro w2 hbw2; obtain ⟨hcw2, hfw2⟩ := bcell hbw2; have hzw2 := hbw2.size; (try simp at hzw2); have hBw2 := bstep (w := w) (by go_grown) hbw2; (try have : wa.heap.size < w2.heap.size := by omega); (try have : w.heap.size < w2.heap.size := by omega); (try have : w.heap.size + 1 < w2.heap.size := by omega); (try have : w.heap.size + 1 + 1 < w2.heap.size := by omega); (try have : w.heap.size + 1 + 1 + 1 < w2.heap.size := by omega))
          go_wp2_with fail
          go_roundw
          case rel => exact ⟨k + 1, by omega, by go_num, by go_grown, (hno.out.trans HE.out).trans ⟨fun h => h.2, fun h => ⟨HQ.out, h⟩⟩⟩
          case measure => simp [intOf]; omega
        · have HQ := Lib.hid (show ¬ a = b from fun h => he ((HE.out.1 (hno.out.1 h)).1))
          have ht : (a[k] != b[k]) = true := by simpa using he
          clear he
          go_wp2_with fail
          refine wp_region_below (by kernel_rfl) (by kernel_rfl) ?_
          repeat (go_big_quiet_step (fail))
          (refine wpQuiet_nil ?_; intro w2 hbw2; obtain ⟨hcw2, hfw2⟩ := bcell hbw2; have hzw2 := hbw2.size; (try simp at hzw2); have hBw2 := bstep (w := w) (by go_grown) hbw2; (try have : wa.heap.size < w2.heap.size := by omega); (try have : w.heap.size < w2.heap.size := by omega); (try have : w.heap.size + 1 < w2.heap.size := by omega); (try have : w.heap.size + 1 + 1 < w2.heap.size := by omega); (try have : w.heap.size + 1 + 1 + 1 < w2.heap.size := by omega))
          go_wp2_with fail
          go_ret
          exact ⟨ret_bool (by rw [decide_eq_false HQ.out]), by go_grown⟩
      · have HQ := Lib.hid (show a = b from hno.out.2 (by rw [List.drop_of_length_le (by omega), List.drop_of_length_le (by rw [← HL.out]; omega)]))
        go_wp2_with fail
        go_ret
        exact ⟨ret_bool (by rw [decide_eq_true HQ.out]), hbel⟩
  · have HQ := Lib.hid (show ¬ a = b from fun h => hlen (by rw [h]))
    have hne : ((a.length : Int) != (b.length : Int)) = true := by simp; omega
    clear ha hb hlen
    go_enter Tryd.func83, Tryd.ntmps83
    go_wp2_with fail
    go_ret
    exact ⟨ret_bool (by rw [decide_eq_false HQ.out]), Below.refl _ _⟩

/-- the headers of some cubes; none where one of them is wrong -/
def cshdrs (l : List Cb) : List Int := if cschk l = 0 then hdrsTo l 16 else []
theorem cshdrs_le (l : List Cb) : (cshdrs l).length ≤ 16 := by
  unfold cshdrs; split
  · exact hdrsTo_le l 16
  · simp
theorem csheaders_ok (A : Option Addr) (cp : Nat) (l : List Cb) (w : World) (h : Cubes w A cp l) (hk : cschk l = 0) : Calls Tryd.prog 40 #[.slice A l.length cp] w (RetIntsV (cshdrs l) .nilIface w) := by
  have := csheaders_any A cp l w h
  unfold cshdrs
  rw [hk] at this ⊢
  exact this
theorem csheaders_bad (A : Option Addr) (cp : Nat) (l : List Cb) (w : World) (h : Cubes w A cp l) (hk : cschk l ≠ 0) : Calls Tryd.prog 40 #[.slice A l.length cp] w (RetIntsV (cshdrs l) (.iface 119 (.int .i64 (cschk l))) w) := by
  have := csheaders_any A cp l w h
  rw [errOf_ne_ret hk] at this
  exact this

theorem cscount_ok (A : Option Addr) (cp : Nat) (l : List Cb) (w : World) (h : Cubes w A cp l) (hk : cschk l = 0) : Calls Tryd.prog 42 #[.slice A l.length cp] w fun e w' => e = .returned (.tuple #[.int .i64 (cshdrs l).length, .nilIface]) ∧ Below w.heap.size w w' := by
  have H := Lib.hid (csheaders_ok A cp l w h hk)
  clear h hk
  go_enter Tryd.func42, Tryd.ntmps42
  go_wp2_with fail
  refine H.out.mono ?_
  rintro e w1 ⟨v1, rfl, hown, hb1⟩
  obtain ⟨A1, c1, rfl, hr⟩ := hown.ints
  go_wp2_with fail
  go_ret2
  exact ⟨rfl, hb1⟩
theorem cssame_ok (A B : Option Addr) (ca cb : Nat) (a b : List Cb) (w : World) (ha : Cubes w A ca a) (hb : Cubes w B cb b) (hka : cschk a = 0) (hkb : cschk b = 0) : Calls Tryd.prog 47 #[.slice A a.length ca, .slice B b.length cb] w fun e w' => e = .returned (.tuple #[.bool (decide (cshdrs a = cshdrs b)), .nilIface]) ∧ Below w.heap.size w w' := by
  have H1 := Lib.hid (csheaders_ok A ca a w ha hka)
  have H2 := Lib.hid (fun W (hW : Below w.heap.size w W) => csheaders_ok B cb b W (hb.below hW) hkb)
  have l1 := cshdrs_le a
  have l2 := cshdrs_le b
  clear ha hb hka hkb
  go_enter Tryd.func47, Tryd.ntmps47
  go_wp2_with fail
  refine H1.out.mono ?_
  rintro e w1 ⟨v1, rfl, hown1, hb1⟩
  obtain ⟨A1, c1, rfl, hr1⟩ := hown1.ints
  have HR1 := Lib.hid hr1
  clear hown1 hr1
  go_wp2_with fail
  refine (H2.out _ hb1).mono ?_
  rintro e w2 ⟨v2, rfl, hown2, hb2⟩
  obtain ⟨A2, c2, rfl, hr2⟩ := hown2.ints
  have HE := Lib.hid (intsequal_any A1 A2 c1 c2 (cshdrs a) (cshdrs b) w2 (HR1.out.below hb2) hr2 (by omega) (by omega))
  clear hown2 hr2
  go_wp2_with fail
  refine HE.out.mono ?_
  rintro e w3 ⟨rfl, hb3⟩
  go_wp2_with fail
  go_ret2
  exact ⟨rfl, (hb1.trans (hb2.mono hb1.size)).trans (hb3.mono (Nat.le_trans hb1.size hb2.size))⟩

/-- the fault of a cube less others -/
def mchk (c : Cb) (l : List Cb) : Int := if cchk c.m c.b ≠ 0 then cchk c.m c.b else cschk l
/-- what a function that makes a slice of cubes, and an error, gives back -/
def RetCubesV (l : List Cb) (er : Value) (w : World) (e : Ending) (w' : World) : Prop := ∃ v, e = .returned (.tuple #[v, er]) ∧ Owns w' w.heap.size 23 2 v (l.map Cb.cells) ∧ Below w.heap.size w w'
set_option maxHeartbeats 400000 in
theorem cminus_ok (A : Option Addr) (cp : Nat) (c : Cb) (l : List Cb) (w : World) (h : Cubes w A cp l) (hk : cchk c.m c.b = 0) (hl : cschk l = 0) : Calls Tryd.prog 46 #[.agg #[.int .i64 c.m, .int .i64 c.b], .slice A l.length cp] w (RetCubesV (lessAll l [c]) .nilIface w) := by
  have H1 := Lib.hid (fun w => ccheck_ok c.m c.b w hk)
  have H2 := Lib.hid (fun W (hW : Below w.heap.size w W) => cscheck_ok A cp l W (h.below hW) hl)
  have H3 := Lib.hid (fun W (hW : Below w.heap.size w W) => minus_any A cp c l W (h.below hW) (cschk_len hl) hk (cschk_all hl))
  clear h hk hl
  go_enter Tryd.func46, Tryd.ntmps46
  go_wp2_with fail
  (go_at_call 19; refine (H1.out _).mono ?_; rintro e w1 ⟨rfl, hbw1⟩; obtain ⟨hcw1, hfw1⟩ := bcell hbw1; have hzw1 := hbw1.size; (try simp at hzw1); have hBw1 := bstep (w := w) (by go_grown) hbw1; (try have : wa.heap.size < w1.heap.size := by omega); (try have : w.heap.size < w1.heap.size := by omega); (try have : w.heap.size + 1 < w1.heap.size := by omega); (try have : w.heap.size + 1 + 1 < w1.heap.size := by omega); (try have : w.heap.size + 1 + 1 + 1 < w1.heap.size := by omega))
  go_wp2_with fail
  (go_at_call 38; refine (H2.out _ hBw1).mono ?_; rintro e w2 ⟨rfl, hbw2⟩; obtain ⟨hcw2, hfw2⟩ := bcell hbw2; have hzw2 := hbw2.size; (try simp at hzw2); have hBw2 := bstep (w := w) (by go_grown) hbw2; (try have : wa.heap.size < w2.heap.size := by omega); (try have : w.heap.size < w2.heap.size := by omega); (try have : w.heap.size + 1 < w2.heap.size := by omega); (try have : w.heap.size + 1 + 1 < w2.heap.size := by omega); (try have : w.heap.size + 1 + 1 + 1 < w2.heap.size := by omega))
  go_wp2_with fail
  refine (H3.out _ hBw2).mono ?_
  rintro e w3 ⟨v3, rfl, hown3, hb3⟩
  have HO := Lib.hid hown3
  clear hown3
  go_wp2_with fail
  go_ret2
  exact ⟨v3, rfl, HO.out.mono hBw2.size, hBw2.trans (hb3.mono hBw2.size)⟩
set_option maxHeartbeats 400000 in
theorem cminus_bad (A : Option Addr) (cp : Nat) (c : Cb) (l : List Cb) (w : World) (h : Cubes w A cp l) (hk : mchk c l ≠ 0) : Calls Tryd.prog 46 #[.agg #[.int .i64 c.m, .int .i64 c.b], .slice A l.length cp] w fun e w' => e = .returned (.tuple #[.slice none 0 0, .iface 119 (.int .i64 (mchk c l))]) ∧ Below w.heap.size w w' := by
  by_cases hc : cchk c.m c.b = 0
  · have e0 : mchk c l = cschk l := by unfold mchk; rw [if_neg (by simpa using hc)]
    rw [e0] at hk ⊢
    have H1 := Lib.hid (fun w => ccheck_ok c.m c.b w hc)
    have H2 := Lib.hid (fun W (hW : Below w.heap.size w W) => cscheck_bad A cp l W (h.below hW) hk)
    clear h hk hc e0
    generalize cschk l = q at *
    go_enter Tryd.func46, Tryd.ntmps46
    go_wp2_with fail
    (go_at_call 19; refine (H1.out _).mono ?_; rintro e w1 ⟨rfl, hbw1⟩; obtain ⟨hcw1, hfw1⟩ := bcell hbw1; have hzw1 := hbw1.size; (try simp at hzw1); have hBw1 := bstep (w := w) (by go_grown) hbw1; (try have : wa.heap.size < w1.heap.size := by omega); (try have : w.heap.size < w1.heap.size := by omega); (try have : w.heap.size + 1 < w1.heap.size := by omega); (try have : w.heap.size + 1 + 1 < w1.heap.size := by omega); (try have : w.heap.size + 1 + 1 + 1 < w1.heap.size := by omega))
    go_wp2_with fail
    (go_at_call 38; refine (H2.out _ hBw1).mono ?_; rintro e w2 ⟨rfl, hbw2⟩; obtain ⟨hcw2, hfw2⟩ := bcell hbw2; have hzw2 := hbw2.size; (try simp at hzw2); have hBw2 := bstep (w := w) (by go_grown) hbw2; (try have : wa.heap.size < w2.heap.size := by omega); (try have : w.heap.size < w2.heap.size := by omega); (try have : w.heap.size + 1 < w2.heap.size := by omega); (try have : w.heap.size + 1 + 1 < w2.heap.size := by omega); (try have : w.heap.size + 1 + 1 + 1 < w2.heap.size := by omega))
    go_wp2_with fail
    go_ret2
    exact ⟨rfl, by go_grown⟩
  · have e0 : mchk c l = cchk c.m c.b := by unfold mchk; rw [if_pos hc]
    rw [e0] at hk ⊢
    have H1 := Lib.hid (fun w => ccheck_bad c.m c.b w hc)
    clear h hk hc e0
    generalize cchk c.m c.b = q at *
    go_enter Tryd.func46, Tryd.ntmps46
    go_wp2_with fail
    (go_at_call 19; refine (H1.out _).mono ?_; rintro e w1 ⟨rfl, hbw1⟩; obtain ⟨hcw1, hfw1⟩ := bcell hbw1; have hzw1 := hbw1.size; (try simp at hzw1); have hBw1 := bstep (w := w) (by go_grown) hbw1; (try have : wa.heap.size < w1.heap.size := by omega); (try have : w.heap.size < w1.heap.size := by omega); (try have : w.heap.size + 1 < w1.heap.size := by omega); (try have : w.heap.size + 1 + 1 < w1.heap.size := by omega); (try have : w.heap.size + 1 + 1 + 1 < w1.heap.size := by omega))
    go_wp2_with fail
    go_ret2
    exact ⟨rfl, by go_grown⟩
end Go.Proofs.YtpkcdfgjcodidaaDoor
