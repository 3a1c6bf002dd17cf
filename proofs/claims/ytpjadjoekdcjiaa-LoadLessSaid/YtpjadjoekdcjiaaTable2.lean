/- What table.Do and what hangs on it come to. -/
import Derived.Test.YtpjadjoekdcjiaaDelete
import Derived.Test.YtpjadjoekdcjiaaLoose
namespace Go.Proofs.Ytpjadjoekdcjiaa
open Go.RowKit
set_option maxRecDepth 100000
set_option linter.unusedSimpArgs false
set_option linter.unusedVariables false

theorem tchk_len {l : List Rl} (h : tchk l = 0) : l.length ≤ 12 := by
  unfold tchk at h
  by_cases h2 : l.length > 12
  · rw [if_pos h2] at h; cases h
  · omega
/-- the fault of a change -/
def tdoF (l : List Rl) (add : Bool) (r : Rl) : Int :=
  if tchk l ≠ 0 then tchk l else if r.chk ≠ 0 then r.chk
  else if add = true then (if (l.any fun x => x.key r) = true then 7 else if 12 ≤ l.length then 4 else 0)
  else if (l.any fun x => decide (r = x)) = true then 0 else 5
/-- what a change that is right makes -/
def tdoR (l : List Rl) (add : Bool) (r : Rl) : List Rl := if add = true then l ++ [r] else l.eraseIdx (fidx (fun x => decide (r = x)) l).toNat
def tdoV (l : List Rl) (add : Bool) (r : Rl) : List Rl := if tdoF l add r = 0 then tdoR l add r else []
/-- hands back a table to be read, and an error -/
def FreshRow {α : Type} (base : Nat) (A : Option Addr) (l : List α) : Prop := l = [] ∨ ∃ b o, A = some ⟨b, o, none⟩ ∧ base ≤ b
theorem Owns.freshRow {w : World} {base e k : Nat} {v : Value} {α : Type} {f : α → List Value} {l : List α} {A : Option Addr} {n c : Nat} (h : Owns w base e k v (l.map f)) (hv : v = .slice A n c) {b2 : Nat} (hb : b2 ≤ base) : FreshRow b2 A l := by
  rcases h.1.2 with ⟨_, h0⟩ | ⟨g, cap, cur, e1, hg, _⟩
  · left; exact List.eq_nil_of_length_eq_zero (by simpa using h0)
  · right
    rw [e1] at hv
    simp only [Value.slice.injEq] at hv
    exact ⟨g, 0, hv.1.symm, by omega⟩
def RetT (l : List Rl) (er : Value) (w : World) (e : Ending) (w' : World) : Prop := ∃ A c, e = .returned (.tuple #[.slice A l.length c, er]) ∧ Rules w' A c l ∧ Below w.heap.size w w' ∧ FreshRow w.heap.size A l
theorem RetT.bad {l : List Rl} {w w' : World} {er : Value} (hl : l = []) (hb : Below w.heap.size w w') : RetT l er w (.returned (.tuple #[.slice none 0 0, er])) w' := by
  subst hl; exact ⟨none, 0, rfl, RowC.none_ _ _, hb, .inl rfl⟩
def Rl.val (r : Rl) : Value := .agg #[.int .i64 r.p, .int .i64 r.m, .int .i64 r.b, .int .i64 r.o, .int .i64 r.s, .int .i64 r.v]

/-- a block of six cells that holds a rule -/
structure RlAt (w : World) (g : Nat) (r : Rl) : Prop where
  c0 : w.cell? ⟨g, 0, none⟩ = some (.int .i64 r.p)
  c1 : w.cell? ⟨g, 1, none⟩ = some (.int .i64 r.m)
  c2 : w.cell? ⟨g, 2, none⟩ = some (.int .i64 r.b)
  c3 : w.cell? ⟨g, 3, none⟩ = some (.int .i64 r.o)
  c4 : w.cell? ⟨g, 4, none⟩ = some (.int .i64 r.s)
  c5 : w.cell? ⟨g, 5, none⟩ = some (.int .i64 r.v)
  lt : g < w.heap.size
theorem RlAt.below {w w' : World} {g : Nat} {r : Rl} (h : RlAt w g r) (hb : Below w.heap.size w w') : RlAt w' g r :=
  have c := fun i => hb.cell (p := ⟨g, i, none⟩) h.lt
  ⟨(c 0).trans h.c0, (c 1).trans h.c1, (c 2).trans h.c2, (c 3).trans h.c3, (c 4).trans h.c4, (c 5).trans h.c5, Nat.lt_of_lt_of_le h.lt hb.size⟩
theorem RlAt.new (w : World) (r : Rl) (T : Nat) : RlAt (w.alloc (.cells #[.int .i64 r.p, .int .i64 r.m, .int .i64 r.b, .int .i64 r.o, .int .i64 r.s, .int .i64 r.v] T)) w.heap.size r :=
  ⟨by simp [go_sem], by simp [go_sem], by simp [go_sem], by simp [go_sem], by simp [go_sem], by simp [go_sem], by simp⟩
theorem tkey_any (A : Option Addr) (cp : Nat) (l : List Rl) (w : World) (h : Rules w A cp l) (hl : l.length ≤ 65536) (y : Rl) (g : Nat) (hy : RlAt w g y) :
    Calls Try.prog 30 #[.slice A l.length cp, .func (.func 31) #[] #[.pointer (some ⟨g, 0, none⟩)]] w fun e w' => e = .returned (.bool (l.any fun x => x.key y)) ∧ Below w.heap.size w w' :=
  rcontains31_any A l.length cp l w rfl h (by omega) y g hy.lt hy.c0 hy.c1 hy.c2 hy.c3 hy.c4 hy.c5

theorem RlAt.cells_at {w : World} {g : Nat} {r : Rl} (h : RlAt w g r) : ∀ j u, r.cells[j]? = some u → w.cell? ⟨g, j, none⟩ = some u := by
  intro j u hu
  match j, hu with
  | 0, hu => simp [Rl.cells] at hu; subst hu; exact h.c0
  | 1, hu => simp [Rl.cells] at hu; subst hu; exact h.c1
  | 2, hu => simp [Rl.cells] at hu; subst hu; exact h.c2
  | 3, hu => simp [Rl.cells] at hu; subst hu; exact h.c3
  | 4, hu => simp [Rl.cells] at hu; subst hu; exact h.c4
  | 5, hu => simp [Rl.cells] at hu; subst hu; exact h.c5
  | j + 6, hu => simp [Rl.cells] at hu
theorem rule_one (r : Rl) : ∀ u ∈ r.cells, u.oneCell' = true := by simp [Rl.cells, Value.oneCell']
theorem SOwn_mono (base e k : Nat) (xs : List (List Value)) : LMono (SFact fun v w' => Owns w' base e k v xs) := fun _ _ _ h hb => h.below hb
theorem tdoV_bad {l : List Rl} {add : Bool} {r : Rl} {n : Int} (h : tdoF l add r = n) (hn : n ≠ 0) : tdoV l add r = [] := by unfold tdoV; rw [if_neg (by omega)]
theorem tdoV_ok {l : List Rl} {add : Bool} {r : Rl} (h : tdoF l add r = 0) : tdoV l add r = tdoR l add r := by unfold tdoV; rw [if_pos h]

set_option maxHeartbeats 1600000 in
theorem tdo_add (A : Option Addr) (cp : Nat) (l : List Rl) (r : Rl) (wa : World) (h : Rules wa A cp l) (hz : tchk l = 0) (hr : r.chk = 0) :
    Calls Try.prog 17 #[.slice A l.length cp, .bool true, .agg #[.int .i64 r.p, .int .i64 r.m, .int .i64 r.b, .int .i64 r.o, .int .i64 r.s, .int .i64 r.v]] wa (RetT (tdoV l true r) (errOf (tdoF l true r)) wa) := by
  have hmk := hmf
  have HT := Lib.hid (fun A cp w h => tcheck_ok A cp l w h hz)
  have hl12 := tchk_len hz
  have HC := Lib.hid (fun w => rchk_ok r w hr)
  have HI := Lib.hid (fun A cp w h => tindex_any A cp l r w h (by omega))
  have HK := Lib.hid (fun A cp w h g hg => tkey_any A cp l w h (by omega) r g hg)
  have HN := Lib.hid (fun A cp w h => tclone_any A cp l w h (by omega))
  (obtain ⟨w, hw⟩ : ∃ w : World, w = wa.alloc (.cells #[.int .i64 r.p, .int .i64 r.m, .int .i64 r.b, .int .i64 r.o, .int .i64 r.s, .int .i64 r.v] 36) := ⟨_, rfl⟩); have hb0 : Below wa.heap.size wa w := (hw ▸ (Below.refl _ _).alloc (Nat.le_refl _) _); have hs0 : wa.heap.size < w.heap.size := (by rw [hw]; simp); have HS1 := Lib.hid (show wa.heap.size + 1 = w.heap.size by rw [hw]; simp)
  have HA := Lib.hid (show RlAt w wa.heap.size r from hw ▸ RlAt.new wa r 36)
  have H := Lib.hid (h.below hb0)
  obtain ⟨c0, c1, c2, c3, c4, c5, -⟩ := HA.out
  have HF0 := Lib.hid (show tdoF l true r = if (l.any fun x => x.key r) = true then 7 else if 12 ≤ l.length then 4 else 0 by unfold tdoF; rw [if_neg (by simpa using hz), if_neg (by simpa using hr), if_pos rfl])
  clear h hz hr
  go_enter Try.func17, Try.ntmps17
  go_wp2_with fail
  rw [← hw]; clear hw
  (go_at_call 23; refine (HT.out _ _ _ H.out).mono ?_; rintro e w2 ⟨rfl, hbw2⟩; obtain ⟨hcw2, hfw2⟩ := bcell hbw2; have hzw2 := hbw2.size; (try simp at hzw2); have hBw2 := bstep (w := w) (by go_grown) hbw2; (try have : wa.heap.size < w2.heap.size := by omega); (try have : w.heap.size < w2.heap.size := by omega); (try have : w.heap.size + 1 < w2.heap.size := by omega); (try have : w.heap.size + 1 + 1 < w2.heap.size := by omega); (try have : w.heap.size + 1 + 1 + 1 < w2.heap.size := by omega))
  go_wp2_with fail
  (go_at_call 28; refine (HC.out _).mono ?_; rintro e w3 ⟨rfl, hbw3⟩; obtain ⟨hcw3, hfw3⟩ := bcell hbw3; have hzw3 := hbw3.size; (try simp at hzw3); have hBw3 := bstep (w := w) (by go_grown) hbw3; (try have : wa.heap.size < w3.heap.size := by omega); (try have : w.heap.size < w3.heap.size := by omega); (try have : w.heap.size + 1 < w3.heap.size := by omega); (try have : w.heap.size + 1 + 1 < w3.heap.size := by omega); (try have : w.heap.size + 1 + 1 + 1 < w3.heap.size := by omega))
  go_wp2_with fail
  (go_at_call 29; refine (HI.out _ _ _ (H.out.below (by go_grown))).mono ?_; rintro e w4 ⟨rfl, hbw4⟩; obtain ⟨hcw4, hfw4⟩ := bcell hbw4; have hzw4 := hbw4.size; (try simp at hzw4); have hBw4 := bstep (w := w) (by go_grown) hbw4; (try have : wa.heap.size < w4.heap.size := by omega); (try have : w.heap.size < w4.heap.size := by omega); (try have : w.heap.size + 1 < w4.heap.size := by omega); (try have : w.heap.size + 1 + 1 < w4.heap.size := by omega); (try have : w.heap.size + 1 + 1 + 1 < w4.heap.size := by omega))
  go_wp2_with fail
  cases hk : l.any (fun x => x.key r) with
  | true =>
    rw [hk] at HK HF0
    have HF := Lib.hid (HF0.out.trans (if_pos rfl))
    clear hk
    (go_at_call 30; refine (HK.out _ _ _ (H.out.below (by go_grown)) _ (HA.out.below (by go_grown))).mono ?_; rintro e w5 ⟨rfl, hbw5⟩; obtain ⟨hcw5, hfw5⟩ := bcell hbw5; have hzw5 := hbw5.size; (try simp at hzw5); have hBw5 := bstep (w := w) (by go_grown) hbw5; (try have : wa.heap.size < w5.heap.size := by omega); (try have : w.heap.size < w5.heap.size := by omega); (try have : w.heap.size + 1 < w5.heap.size := by omega); (try have : w.heap.size + 1 + 1 < w5.heap.size := by omega); (try have : w.heap.size + 1 + 1 + 1 < w5.heap.size := by omega))
    go_wp2_with fail
    go_ret2
    rw [HF.out]; exact RetT.bad (tdoV_bad HF.out (by omega)) (hb0.trans (hBw5.mono (by omega)))
  | false =>
    rw [hk] at HK HF0
    clear hk
    have HF1 := Lib.hid (HF0.out.trans (if_neg (by simp)))
    by_cases h12 : 12 ≤ l.length
    · have HF := Lib.hid (HF1.out.trans (if_pos h12))
      have h12' : (12 : Int) ≤ (l.length : Int) := by omega
      clear h12
      (go_at_call 30; refine (HK.out _ _ _ (H.out.below (by go_grown)) _ (HA.out.below (by go_grown))).mono ?_; rintro e w5 ⟨rfl, hbw5⟩; obtain ⟨hcw5, hfw5⟩ := bcell hbw5; have hzw5 := hbw5.size; (try simp at hzw5); have hBw5 := bstep (w := w) (by go_grown) hbw5; (try have : wa.heap.size < w5.heap.size := by omega); (try have : w.heap.size < w5.heap.size := by omega); (try have : w.heap.size + 1 < w5.heap.size := by omega); (try have : w.heap.size + 1 + 1 < w5.heap.size := by omega); (try have : w.heap.size + 1 + 1 + 1 < w5.heap.size := by omega))
      go_wp2_with fail
      go_ret2
      rw [HF.out]; exact RetT.bad (tdoV_bad HF.out (by omega)) (hb0.trans (hBw5.mono (by omega)))
    · have HF := Lib.hid (HF1.out.trans (if_neg h12))
      have HV := Lib.hid (tdoV_ok HF.out)
      have h12' : ¬ (12 : Int) ≤ (l.length : Int) := by omega
      clear h12
      (go_at_call 30; refine (HK.out _ _ _ (H.out.below (by go_grown)) _ (HA.out.below (by go_grown))).mono ?_; rintro e w5 ⟨rfl, hbw5⟩; obtain ⟨hcw5, hfw5⟩ := bcell hbw5; have hzw5 := hbw5.size; (try simp at hzw5); have hBw5 := bstep (w := w) (by go_grown) hbw5; (try have : wa.heap.size < w5.heap.size := by omega); (try have : w.heap.size < w5.heap.size := by omega); (try have : w.heap.size + 1 < w5.heap.size := by omega); (try have : w.heap.size + 1 + 1 < w5.heap.size := by omega); (try have : w.heap.size + 1 + 1 + 1 < w5.heap.size := by omega))
      go_wp2_with fail
      (refine wp_region_loose 4 (tabT [(1, SFact fun v w' => Owns w' w5.heap.size 36 6 v (l.map Rl.cells)), (3, SLit r.cells)]) (monoT_tab (by simp [SOwn_mono, SLit.mono])) (by kernel_rfl) (by kernel_rfl) ?_); simp only [List.take_succ_cons, List.take_zero, List.drop_succ_cons, List.drop_zero]
      (refine wpL_plain 1 rfl rfl ?_); simp only [List.take_succ_cons, List.take_zero, List.drop_succ_cons, List.drop_zero]; (repeat (go_big_quiet_step (fail))); (refine wpQuiet_nil ?_)
      (refine wpL_made rfl rfl (fun W hW => ?_) (fun v6 hv6 => ?_)); (focus (simp [go_sem, execOp, resolve, looseUpon]; exact SFact.call ((HN.out _ _ _ (H.out.below (hBw5.trans (hW.mono hBw5.size)))).mono fun e w' ⟨v, he, hO, hb⟩ => ⟨v, he, hO.mono hW.size, hb⟩))); (try go_frame)
      (refine wpL_plain 1 rfl rfl ?_); simp only [List.take_succ_cons, List.take_zero, List.drop_succ_cons, List.drop_zero]; (repeat (go_big_quiet_step (fail))); (refine wpQuiet_nil ?_)
      (refine wpL_made rfl rfl (fun W hW => ?_) (fun v7 hv7 => ?_)); (focus (simp [go_sem, execOp, resolve, looseUpon]; exact made_new _ _ _)); (try go_frame)
      refine wpL_nil ?_; intro W hW hF
      obtain ⟨g, rfl⟩ := hv7
      obtain ⟨⟨-, hO⟩, hC⟩ := hF
      have HO : Hid (Owns W w5.heap.size 36 6 v6 (l.map Rl.cells)) := hO
      have HB := Lib.hid (hC g rfl)
      have hWs := hW.size
      clear hO hC hv6
      refine wpList_push el_rule rfl (.tmp 43) (.tmp 45) rfl w5.heap.size _ _ rfl HO.out g r.cells rfl HB.out.1 rfl HB.out.2 (rule_one r) (by simp [maxLen]; omega) (by simp; omega) hWs ?_
      intro v8 w8 hO8 hb8
      have HO8 := Lib.hid hO8
      clear hO8
      go_wp2_with fail
      go_ret2
      obtain ⟨A8, c8, rfl, hR8⟩ := Owns.rules (l := l ++ [r]) (by simpa using HO8.out)
      have e1 : tdoV l true r = l ++ [r] := HV.out
      have hfr : FreshRow wa.heap.size A8 (l ++ [r]) := Owns.freshRow (f := Rl.cells) (by simpa using HO8.out) rfl (Nat.le_trans hb0.size hBw5.size)
      rw [HF.out, e1]
      exact ⟨_, _, rfl, hR8, hb0.trans ((hBw5.trans (hb8.mono (by omega) |> (hW.mono hBw5.size).trans)).mono (by omega)), hfr⟩

theorem Owns.form {w : World} {base e k : Nat} {v : Value} {xs : List (List Value)} (h : Owns w base e k v xs) (hn : 0 < xs.length) : ∃ g c, v = .slice (some ⟨g, 0, none⟩) xs.length c ∧ base ≤ g ∧ g < w.heap.size ∧ (∀ t, w.frozen? ⟨g, t, none⟩ = false) ∧ RowC w k (some ⟨g, 0, none⟩) xs.length c xs := by
  obtain ⟨A, c, e1, hr⟩ := h.row
  rcases h.1.2 with ⟨rfl, h0⟩ | ⟨g, cap, cur, rfl, hg, hh, r⟩
  · omega
  · simp only [Value.slice.injEq] at e1
    obtain ⟨rfl, -, rfl⟩ := e1
    refine ⟨g, cap, rfl, hg, ?_, fun t => ?_, hr⟩
    · rcases Nat.lt_or_ge g w.heap.size with hlt | hge
      · exact hlt
      · rw [Array.getElem?_eq_none hge] at hh; cases hh
    · unfold World.frozen?
      simp only [hh]
      simp
theorem fidx_lt {α : Type} {p : α → Bool} {l : List α} (h : l.any p = true) : ∃ i : Nat, fidx p l = i ∧ i < l.length := by
  have h1 := fidx_any p l
  rw [h, decide_eq_true_eq] at h1
  have h2 := fidx_range p l
  exact ⟨(fidx p l).toNat, by omega, by omega⟩

set_option maxHeartbeats 1600000 in
theorem tdo_del (A : Option Addr) (cp : Nat) (l : List Rl) (r : Rl) (wa : World) (h : Rules wa A cp l) (hz : tchk l = 0) (hr : r.chk = 0) :
    Calls Try.prog 17 #[.slice A l.length cp, .bool false, .agg #[.int .i64 r.p, .int .i64 r.m, .int .i64 r.b, .int .i64 r.o, .int .i64 r.s, .int .i64 r.v]] wa (RetT (tdoV l false r) (errOf (tdoF l false r)) wa) := by
  have hmk := hmf
  have HT := Lib.hid (fun A cp w h => tcheck_ok A cp l w h hz)
  have hl12 := tchk_len hz
  have HC := Lib.hid (fun w => rchk_ok r w hr)
  have HI := Lib.hid (fun A cp w h => tindex_any A cp l r w h (by omega))
  have HN := Lib.hid (fun A cp w h => tclone_any A cp l w h (by omega))
  (obtain ⟨w, hw⟩ : ∃ w : World, w = wa.alloc (.cells #[.int .i64 r.p, .int .i64 r.m, .int .i64 r.b, .int .i64 r.o, .int .i64 r.s, .int .i64 r.v] 36) := ⟨_, rfl⟩); have hb0 : Below wa.heap.size wa w := (hw ▸ (Below.refl _ _).alloc (Nat.le_refl _) _); have hs0 : wa.heap.size < w.heap.size := (by rw [hw]; simp); have HS1 := Lib.hid (show wa.heap.size + 1 = w.heap.size by rw [hw]; simp)
  have HA := Lib.hid (show RlAt w wa.heap.size r from hw ▸ RlAt.new wa r 36)
  have H := Lib.hid (h.below hb0)
  obtain ⟨c0, c1, c2, c3, c4, c5, -⟩ := HA.out
  have HF0 := Lib.hid (show tdoF l false r = if (l.any fun x => decide (r = x)) = true then 0 else 5 by unfold tdoF; rw [if_neg (by simpa using hz), if_neg (by simpa using hr), if_neg (by simp)])
  clear h hz hr
  cases hk : l.any (fun x => decide (r = x)) with
  | true =>
    rw [hk] at HF0
    have HF := Lib.hid (HF0.out.trans (if_pos rfl))
    obtain ⟨i, hi, hil⟩ := fidx_lt hk
    have HV := Lib.hid (show tdoV l false r = l.eraseIdx i by rw [tdoV_ok HF.out]; unfold tdoR; rw [if_neg (by simp), hi]; rfl)
    have HD := Lib.hid (fun g cp base w hb hg h hf => tdelete_any g cp base l i hil w hb hg h hf (by omega))
    rw [hi] at HI
    clear hk hi HF0
    go_enter Try.func17, Try.ntmps17
    go_wp2_with fail
    rw [← hw]; clear hw
    (go_at_call 23; refine (HT.out _ _ _ H.out).mono ?_; rintro e w2 ⟨rfl, hbw2⟩; obtain ⟨hcw2, hfw2⟩ := bcell hbw2; have hzw2 := hbw2.size; (try simp at hzw2); have hBw2 := bstep (w := w) (by go_grown) hbw2; (try have : wa.heap.size < w2.heap.size := by omega); (try have : w.heap.size < w2.heap.size := by omega); (try have : w.heap.size + 1 < w2.heap.size := by omega); (try have : w.heap.size + 1 + 1 < w2.heap.size := by omega); (try have : w.heap.size + 1 + 1 + 1 < w2.heap.size := by omega))
    go_wp2_with fail
    (go_at_call 28; refine (HC.out _).mono ?_; rintro e w3 ⟨rfl, hbw3⟩; obtain ⟨hcw3, hfw3⟩ := bcell hbw3; have hzw3 := hbw3.size; (try simp at hzw3); have hBw3 := bstep (w := w) (by go_grown) hbw3; (try have : wa.heap.size < w3.heap.size := by omega); (try have : w.heap.size < w3.heap.size := by omega); (try have : w.heap.size + 1 < w3.heap.size := by omega); (try have : w.heap.size + 1 + 1 < w3.heap.size := by omega); (try have : w.heap.size + 1 + 1 + 1 < w3.heap.size := by omega))
    go_wp2_with fail
    (go_at_call 29; refine (HI.out _ _ _ (H.out.below (by go_grown))).mono ?_; rintro e w4 ⟨rfl, hbw4⟩; obtain ⟨hcw4, hfw4⟩ := bcell hbw4; have hzw4 := hbw4.size; (try simp at hzw4); have hBw4 := bstep (w := w) (by go_grown) hbw4; (try have : wa.heap.size < w4.heap.size := by omega); (try have : w.heap.size < w4.heap.size := by omega); (try have : w.heap.size + 1 < w4.heap.size := by omega); (try have : w.heap.size + 1 + 1 < w4.heap.size := by omega); (try have : w.heap.size + 1 + 1 + 1 < w4.heap.size := by omega))
    go_wp2_with fail
    go_at_call 27
    refine (HN.out _ _ _ (H.out.below (by go_grown))).mono ?_
    rintro e w5 ⟨v5, rfl, hO5, hb5⟩
    obtain ⟨g, c, rfl, hg1, hg2, hfz, hRC⟩ := hO5.form (by simpa using (by omega : 0 < l.length))
    have HR5 := Lib.hid (show Rules w5 (some ⟨g, 0, none⟩) c l by simpa [Rules] using hRC)
    have HFZ := Lib.hid hfz
    have hB5 := bstep (w := w) (by go_grown) hb5
    have hll : (l.map Rl.cells).length = l.length := List.length_map _
    rw [hll]
    clear hO5 hRC hfz hll
    go_wp2_with fail
    go_at_call 33
    refine (HD.out g c w4.heap.size w5 hg1 hg2 HR5.out HFZ.out).mono ?_
    rintro e w6 ⟨rfl, hR6, hb6⟩
    have HR6 := Lib.hid hR6
    clear hR6
    go_wp2_with fail
    go_ret2
    have e1 : (l.eraseIdx i).length = l.length - 1 := List.length_eraseIdx_of_lt hil
    rw [HF.out, HV.out]
    refine ⟨some ⟨g, 0, none⟩, c, ?_, HR6.out, hb0.trans (Below.mono (hB5.trans (hb6.mono (by omega))) (by omega)), .inr ⟨g, 0, rfl, by have := hb0.size; omega⟩⟩
    rw [e1]; rfl
  | false =>
    rw [hk] at HF0
    have HF := Lib.hid (HF0.out.trans (if_neg (by simp)))
    have hi0 : fidx (fun x => decide (r = x)) l < 0 := by
      have h1 := fidx_any (fun x => decide (r = x)) l
      rw [hk, decide_eq_false_iff_not] at h1
      omega
    clear hk HF0
    go_enter Try.func17, Try.ntmps17
    go_wp2_with fail
    rw [← hw]; clear hw
    (go_at_call 23; refine (HT.out _ _ _ H.out).mono ?_; rintro e w2 ⟨rfl, hbw2⟩; obtain ⟨hcw2, hfw2⟩ := bcell hbw2; have hzw2 := hbw2.size; (try simp at hzw2); have hBw2 := bstep (w := w) (by go_grown) hbw2; (try have : wa.heap.size < w2.heap.size := by omega); (try have : w.heap.size < w2.heap.size := by omega); (try have : w.heap.size + 1 < w2.heap.size := by omega); (try have : w.heap.size + 1 + 1 < w2.heap.size := by omega); (try have : w.heap.size + 1 + 1 + 1 < w2.heap.size := by omega))
    go_wp2_with fail
    (go_at_call 28; refine (HC.out _).mono ?_; rintro e w3 ⟨rfl, hbw3⟩; obtain ⟨hcw3, hfw3⟩ := bcell hbw3; have hzw3 := hbw3.size; (try simp at hzw3); have hBw3 := bstep (w := w) (by go_grown) hbw3; (try have : wa.heap.size < w3.heap.size := by omega); (try have : w.heap.size < w3.heap.size := by omega); (try have : w.heap.size + 1 < w3.heap.size := by omega); (try have : w.heap.size + 1 + 1 < w3.heap.size := by omega); (try have : w.heap.size + 1 + 1 + 1 < w3.heap.size := by omega))
    go_wp2_with fail
    (go_at_call 29; refine (HI.out _ _ _ (H.out.below (by go_grown))).mono ?_; rintro e w4 ⟨rfl, hbw4⟩; obtain ⟨hcw4, hfw4⟩ := bcell hbw4; have hzw4 := hbw4.size; (try simp at hzw4); have hBw4 := bstep (w := w) (by go_grown) hbw4; (try have : wa.heap.size < w4.heap.size := by omega); (try have : w.heap.size < w4.heap.size := by omega); (try have : w.heap.size + 1 < w4.heap.size := by omega); (try have : w.heap.size + 1 + 1 < w4.heap.size := by omega); (try have : w.heap.size + 1 + 1 + 1 < w4.heap.size := by omega))
    go_wp2_with fail
    go_ret2
    rw [HF.out]; exact RetT.bad (tdoV_bad HF.out (by omega)) (hb0.trans (hBw4.mono (by omega)))

set_option maxHeartbeats 1600000 in
theorem tdo_any (A : Option Addr) (cp : Nat) (l : List Rl) (add : Bool) (r : Rl) (wa : World) (h : Rules wa A cp l) :
    Calls Try.prog 17 #[.slice A l.length cp, .bool add, .agg #[.int .i64 r.p, .int .i64 r.m, .int .i64 r.b, .int .i64 r.o, .int .i64 r.s, .int .i64 r.v]] wa (RetT (tdoV l add r) (errOf (tdoF l add r)) wa) := by
  by_cases hz : tchk l = 0
  · by_cases hr : r.chk = 0
    · cases add with
      | true => exact tdo_add A cp l r wa h hz hr
      | false => exact tdo_del A cp l r wa h hz hr
    · have HT := Lib.hid (fun A cp w h => tcheck_ok A cp l w h hz)
      have HC := Lib.hid (fun w => rchk_bad r w hr)
      (obtain ⟨w, hw⟩ : ∃ w : World, w = wa.alloc (.cells #[.int .i64 r.p, .int .i64 r.m, .int .i64 r.b, .int .i64 r.o, .int .i64 r.s, .int .i64 r.v] 36) := ⟨_, rfl⟩); have hb0 : Below wa.heap.size wa w := (hw ▸ (Below.refl _ _).alloc (Nat.le_refl _) _); have hs0 : wa.heap.size < w.heap.size := (by rw [hw]; simp); have HS1 := Lib.hid (show wa.heap.size + 1 = w.heap.size by rw [hw]; simp)
      have HA := Lib.hid (show RlAt w wa.heap.size r from hw ▸ RlAt.new wa r 36)
      have H := Lib.hid (h.below hb0)
      obtain ⟨c0, c1, c2, c3, c4, c5, -⟩ := HA.out
      have HF := Lib.hid (show tdoF l add r = r.chk by unfold tdoF; rw [if_neg (by simpa using hz), if_pos hr])
      have HR := Lib.hid hr
      clear h hz hr
      generalize r.chk = q at *
      go_enter Try.func17, Try.ntmps17
      go_wp2_with fail
      rw [← hw]; clear hw
      (go_at_call 23; refine (HT.out _ _ _ H.out).mono ?_; rintro e w2 ⟨rfl, hbw2⟩; obtain ⟨hcw2, hfw2⟩ := bcell hbw2; have hzw2 := hbw2.size; (try simp at hzw2); have hBw2 := bstep (w := w) (by go_grown) hbw2; (try have : wa.heap.size < w2.heap.size := by omega); (try have : w.heap.size < w2.heap.size := by omega); (try have : w.heap.size + 1 < w2.heap.size := by omega); (try have : w.heap.size + 1 + 1 < w2.heap.size := by omega); (try have : w.heap.size + 1 + 1 + 1 < w2.heap.size := by omega))
      go_wp2_with fail
      (go_at_call 28; refine (HC.out _).mono ?_; rintro e w3 ⟨rfl, hbw3⟩; obtain ⟨hcw3, hfw3⟩ := bcell hbw3; have hzw3 := hbw3.size; (try simp at hzw3); have hBw3 := bstep (w := w) (by go_grown) hbw3; (try have : wa.heap.size < w3.heap.size := by omega); (try have : w.heap.size < w3.heap.size := by omega); (try have : w.heap.size + 1 < w3.heap.size := by omega); (try have : w.heap.size + 1 + 1 < w3.heap.size := by omega); (try have : w.heap.size + 1 + 1 + 1 < w3.heap.size := by omega))
      go_wp2_with fail
      go_ret2
      have := RetT.bad (er := errOf (tdoF l add r)) (tdoV_bad HF.out HR.out) (hb0.trans (hBw3.mono (by omega)))
      rw [HF.out, errOf_ne HR.out] at this ⊢
      exact this
  · have HT := Lib.hid (fun A cp w h => tcheck_bad A cp l w h hz)
    (obtain ⟨w, hw⟩ : ∃ w : World, w = wa.alloc (.cells #[.int .i64 r.p, .int .i64 r.m, .int .i64 r.b, .int .i64 r.o, .int .i64 r.s, .int .i64 r.v] 36) := ⟨_, rfl⟩); have hb0 : Below wa.heap.size wa w := (hw ▸ (Below.refl _ _).alloc (Nat.le_refl _) _); have hs0 : wa.heap.size < w.heap.size := (by rw [hw]; simp); have HS1 := Lib.hid (show wa.heap.size + 1 = w.heap.size by rw [hw]; simp)
    have H := Lib.hid (h.below hb0)
    have HF := Lib.hid (show tdoF l add r = tchk l by unfold tdoF; rw [if_pos hz])
    have HR := Lib.hid hz
    clear h hz
    generalize tchk l = q at *
    go_enter Try.func17, Try.ntmps17
    go_wp2_with fail
    rw [← hw]; clear hw
    (go_at_call 23; refine (HT.out _ _ _ H.out).mono ?_; rintro e w2 ⟨rfl, hbw2⟩; obtain ⟨hcw2, hfw2⟩ := bcell hbw2; have hzw2 := hbw2.size; (try simp at hzw2); have hBw2 := bstep (w := w) (by go_grown) hbw2; (try have : wa.heap.size < w2.heap.size := by omega); (try have : w.heap.size < w2.heap.size := by omega); (try have : w.heap.size + 1 < w2.heap.size := by omega); (try have : w.heap.size + 1 + 1 < w2.heap.size := by omega); (try have : w.heap.size + 1 + 1 + 1 < w2.heap.size := by omega))
    go_wp2_with fail
    go_ret2
    have := RetT.bad (er := errOf (tdoF l add r)) (tdoV_bad HF.out HR.out) (hb0.trans (hBw2.mono (by omega)))
    rw [HF.out, errOf_ne HR.out] at this ⊢
    exact this
theorem tdo_err (t : List Rl) (add : Bool) (r : Rl) (h : tdoF t add r ≠ 0) : ∀ A cp w, Rules w A cp t →
    Calls Try.prog 17 #[.slice A t.length cp, .bool add, .agg #[.int .i64 r.p, .int .i64 r.m, .int .i64 r.b, .int .i64 r.o, .int .i64 r.s, .int .i64 r.v]] w (RetT [] (.iface 66 (.int .i64 (tdoF t add r))) w) := fun A cp w hr => by
  have := tdo_any A cp t add r w hr
  rw [tdoV_bad rfl h, errOf_ne h] at this
  exact this
theorem tdo_good (t : List Rl) (add : Bool) (r : Rl) (h : tdoF t add r = 0) : ∀ A cp w, Rules w A cp t →
    Calls Try.prog 17 #[.slice A t.length cp, .bool add, .agg #[.int .i64 r.p, .int .i64 r.m, .int .i64 r.b, .int .i64 r.o, .int .i64 r.s, .int .i64 r.v]] w (RetT (tdoR t add r) .nilIface w) := fun A cp w hr => by
  have := tdo_any A cp t add r w hr
  rw [tdoV_ok h, h] at this
  exact this
end Go.Proofs.Ytpjadjoekdcjiaa
