/- Which round of an agent is ready: walks. -/
import Derived.Test.YtgkohnjpnnofhaaGreatAgTy
import Derived.Test.YtgkohnjpnnofhaaGreatPlain
import Derived.Test.YtgkohnjpnnofhaaGreatQuiet
namespace Go.Proofs.YtgkohnjpnnofhaaGreat.Ty
set_option linter.unusedSimpArgs false
set_option linter.unusedVariables false
open Go Go.RowKit Go.Proofs.YtgkohnjpnnofhaaGreat Go.Proofs.YtgkohnjpnnofhaaGreat.Den
set_option maxRecDepth 100000
def wholeB (ops : List (Int × T_Op)) (many : Int) : Bool := decide (0 ≤ many) && (List.range many.toNat).all fun i => mhas ops (i : Int)
theorem look_run {w : World} {m clk : Nat} {es : Array MapEntry} {ops : List (Int × T_Op)} (h : w.heap[m]? = some (.map es clk)) (he : pairs es = mrep kI opV ops) (k : Int) :
  (Instr.lookup 102 (.map (some m)) (.int .i64 k) true).run Tryz.prog w = .ok (.tuple #[opV (mget ops k default), .bool (mhas ops k)]) w := by
 have hk : MKey Tryz.prog 3 kI := mkey_int (by kernel_rfl)
 have ht : Tryz.prog.underlying 102 = some (.map 3 49) := by kernel_rfl
 have hz : ∀ w, (zeroValue 49).run Tryz.prog w = .ok (opV default) w := fun _ => by kernel_rfl
 rw [run_look h he]
 show (lookS 102 (mrep kI opV ops) (kI k) true).run Tryz.prog w = _
 unfold lookS
 simp only [Sem.run_bind, run_underlying ht, Result.andThen_ok, hk.chk, hk.find]
 unfold mget mhas
 cases mfind ops k 0 with
 | none => simp [hz]
 | some p => simp
theorem cell_lt {w : World} {b o : Nat} {u : Value} (h : w.cell? ⟨b, o, none⟩ = some u) : b < w.heap.size := by
 simp only [World.cell?] at h
 cases hb : w.heap[b]? with
 | none => rw [hb] at h; simp at h
 | some ob => exact (Array.getElem?_eq_some_iff.1 hb).1
set_option maxHeartbeats 1000000 in
theorem whole_neg (b o : Nat) (many : Int) (h9 : many < 0) (w : World) (hc1 : w.cell? ⟨b, o + 1, none⟩ = some (.int .i64 many)) :
  Calls Tryz.prog 62 #[.pointer (some ⟨b, o, none⟩)] w fun e w' => e = .returned (.bool false) ∧ Below w.heap.size w w' := by
 go_enter Tryz.func62, Tryz.ntmps62
 go_wp2
 all_goals first | (exfalso; omega) | skip
 all_goals go_loopw [11] (fun i wr => i = .int .i64 0 ∧ Below w.heap.size w wr) (fun i _ => 1 - (intOf i).toNat)
 case atStart => exact ⟨rfl, Below.refl _ _⟩
 case round =>
  obtain ⟨rfl, hbel⟩ := hrel
  have c1 := (hbel.cell (p := ⟨b, o + 1, none⟩) (cell_lt hc1)).trans hc1
  have hd : decide (0 ≤ many) = false := decide_eq_false (by omega)
  go_wp2
  all_goals go_ret
  all_goals exact ⟨rfl, by go_grown⟩
set_option maxHeartbeats 1000000 in
theorem whole_zero (b o : Nat) (w : World) (hc1 : w.cell? ⟨b, o + 1, none⟩ = some (.int .i64 0)) :
  Calls Tryz.prog 62 #[.pointer (some ⟨b, o, none⟩)] w fun e w' => e = .returned (.bool true) ∧ Below w.heap.size w w' := by
 go_enter Tryz.func62, Tryz.ntmps62
 go_wp2
 all_goals go_loopw [11] (fun i wr => i = .int .i64 0 ∧ Below w.heap.size w wr) (fun i _ => 1 - (intOf i).toNat)
 case atStart => exact ⟨rfl, Below.refl _ _⟩
 case round =>
  obtain ⟨rfl, hbel⟩ := hrel
  have c1 := (hbel.cell (p := ⟨b, o + 1, none⟩) (cell_lt hc1)).trans hc1
  go_wp2
  all_goals go_ret
  all_goals exact ⟨rfl, by go_grown⟩
set_option maxHeartbeats 2000000 in
theorem whole_nat (b o m clk : Nat) (es : Array MapEntry) (ops : List (Int × T_Op)) (n : Nat) (h9 : n ≤ 1000000) (hpos : 0 < n) (w : World) (hc0 : w.cell? ⟨b, o, none⟩ = some (.map (some m))) (hc1 : w.cell? ⟨b, o + 1, none⟩ = some (.int .i64 (n : Int))) (hm : w.heap[m]? = some (.map es clk)) (he : pairs es = mrep kI opV ops) :
  Calls Tryz.prog 62 #[.pointer (some ⟨b, o, none⟩)] w fun e w' => e = .returned (.bool ((List.range n).all fun i => mhas ops (i : Int))) ∧ Below w.heap.size w w' := by
 have hbl := cell_lt hc0
 have hml : m < w.heap.size := (Array.getElem?_eq_some_iff.1 hm).1
 have HE := Lib.hid he
 have HM := Lib.hid hm
 clear he hm
 go_enter Tryz.func62, Tryz.ntmps62
 go_wp2
 all_goals first | (exfalso; omega) | skip
 go_loopw [11] (fun i wr => ∃ k : Nat, k ≤ n ∧ i = .int .i64 k ∧ Below w.heap.size w wr ∧ Hid (∀ j < k, mhas ops (j : Int) = true)) (fun i _ => n + 1 - (intOf i).toNat)
 case atStart => exact ⟨0, by omega, rfl, Below.refl _ _, fun j hj => absurd hj (by omega)⟩
 case round =>
  obtain ⟨k, hk, rfl, hbel, hall⟩ := hrel
  have hwr := hbel.size
  have c0 := (hbel.cell (p := ⟨b, o, none⟩) hbl).trans hc0
  have c1 := (hbel.cell (p := ⟨b, o + 1, none⟩) hbl).trans hc1
  by_cases hlt : k < n
  ·have hl := look_run ((hbel.block m hml).trans HM.out) HE.out (k : Int)
   generalize mget ops (k : Int) default = x at hl
   obtain ⟨sw, ad, ⟨pr, ⟨mk, bt⟩, ou, se, va⟩⟩ := x
   simp only [opV] at hl
   by_cases hh : mhas ops (k : Int) = true
   ·rw [hh] at hl
    have HX := Lib.hid (fun j (hj : j < k + 1) => show mhas ops (j : Int) = true from if e : j < k then hall.out j e else (by obtain rfl : j = k := (by omega); exact hh))
    clear hh
    go_wp2_with fail
    go_roundw
    case rel => exact ⟨k + 1, by omega, by go_num, by go_grown, HX.out⟩
    case measure => simp [intOf]; omega
   ·have hh : mhas ops (k : Int) = false := by simpa using hh
    rw [hh] at hl
    have HX := Lib.hid (show ((List.range n).all fun i => mhas ops (i : Int)) = false from List.all_eq_false.2 ⟨k, List.mem_range.2 hlt, by simp [hh]⟩)
    clear hh
    go_wp2_with fail
    go_ret
    exact ⟨by rw [HX.out]; rfl, by go_grown⟩
  ·obtain rfl : k = n := by omega
   have HX := Lib.hid (show ((List.range k).all fun i => mhas ops (i : Int)) = true from List.all_eq_true.2 fun i hi => hall.out i (List.mem_range.1 hi))
   go_wp2_with fail
   all_goals go_ret
   all_goals exact ⟨by rw [HX.out]; rfl, by go_grown⟩
structure RdW (w : World) (r : T_agent_round) (v : Value) : Prop where
 ex : ∃ m es clk, v = .map (some m) ∧ w.heap[m]? = some (.map es clk) ∧ pairs es = mrep kI opV r.ops
theorem RdW.below {w w' : World} {r : T_agent_round} {v : Value} (h : RdW w r v) (hb : Below w.heap.size w w') : RdW w' r v := by
 obtain ⟨m, es, clk, h1, h2, h3⟩ := h.ex
 exact ⟨m, es, clk, h1, (hb.block m (Array.getElem?_eq_some_iff.1 h2).1).trans h2, h3⟩
theorem whole_any (b o : Nat) (r : T_agent_round) (v : Value) (h9 : r.many ≤ 1000000) (w : World) (h : RdW w r v) (hc0 : w.cell? ⟨b, o, none⟩ = some v) (hc1 : w.cell? ⟨b, o + 1, none⟩ = some (.int .i64 r.many)) :
  Calls Tryz.prog 62 #[.pointer (some ⟨b, o, none⟩)] w fun e w' => e = .returned (.bool (wholeB r.ops r.many)) ∧ Below w.heap.size w w' := by
 obtain ⟨m, es, clk, rfl, h2, h3⟩ := h.ex
 unfold wholeB
 rcases Int.lt_trichotomy r.many 0 with hn | hn | hn
 ·rw [decide_eq_false (by omega), Bool.false_and]
  exact whole_neg b o r.many hn w hc1
 ·rw [hn] at hc1 ⊢
  exact whole_zero b o w hc1
 ·obtain ⟨n, hn2⟩ := Int.eq_ofNat_of_zero_le (Int.le_of_lt hn)
  rw [hn2] at hc1 ⊢
  rw [decide_eq_true (by omega), Bool.true_and, Int.toNat_natCast]
  exact whole_nat b o m clk es r.ops n (by omega) (by omega) w hc0 hc1 h2 h3
def rdyB (r : T_agent_round) : Bool := !r.done && wholeB r.ops r.many
set_option maxHeartbeats 1000000 in
theorem ready1_any (r : T_agent_round) (v : Value) (hv : v.oneCell' = true) (h9 : r.many ≤ 1000000) (w : World) (h : RdW w r v) :
  Calls Tryz.prog 61 #[.agg #[v, .int .i64 r.many, .bool r.done]] w fun e w' => e = .returned (.bool (rdyB r)) ∧ Below w.heap.size w w' := by
 have H := Lib.hid (fun b w' (hb : Below w.heap.size w w') => whole_any b 0 r v h9 w' (h.below hb))
 have HR := Lib.hid (show rdyB r = (!r.done && wholeB r.ops r.many) from rfl)
 generalize rdyB r = rb at *
 generalize wholeB r.ops r.many = wb at *
 generalize r.many = many at *
 generalize r.done = done at *
 clear h h9
 cases done with
 | true =>
  go_enter Tryz.func61, Tryz.ntmps61
  go_wp2_with fail
  all_goals go_ret
  all_goals exact ⟨by rw [HR.out]; rfl, by go_grown⟩
 | false =>
  go_enter Tryz.func61, Tryz.ntmps61
  go_wp2_with fail
  refine (H.out w.heap.size _ (by go_grown) (by simp [go_sem]) (by simp [go_sem])).mono ?_
  rintro e w' ⟨rfl, hb⟩
  have hB := bstep (w := w) (by go_grown) hb
  have hz := hb.size
  simp only []
  go_wp2_with fail
  all_goals go_ret
  all_goals exact ⟨by rw [HR.out]; rfl, by go_grown⟩
def rdyN (l : List T_agent_round) : Int := match l.findIdx? rdyB with
 | some i => (i : Int)
 | none => -1
theorem rdyN_found {l : List T_agent_round} {k : Nat} {r : T_agent_round} (hr : l[k]? = some r) (hb : rdyB r = true) (h : ∀ j < k, ∀ r, l[j]? = some r → rdyB r = false) : rdyN l = (k : Int) := by
 have : l.findIdx? rdyB = some k := by
  obtain ⟨hk, rfl⟩ := gS_ hr
  refine List.findIdx?_eq_some_iff_getElem.2 ⟨hk, hb, fun j hj => ?_⟩
  simpa using h j hj _ (gE_ (by omega))
 unfold rdyN
 rw [this]
theorem rdyN_none {l : List T_agent_round} (h : ∀ j < l.length, ∀ r, l[j]? = some r → rdyB r = false) : rdyN l = -1 := by
 have : l.findIdx? rdyB = none := by
  refine List.findIdx?_eq_none_iff.2 fun r hr => ?_
  obtain ⟨j, hj⟩ := List.getElem?_of_mem hr
  exact h j (gS_ hj).1 r hj
 unfold rdyN
 rw [this]
set_option maxHeartbeats 2000000 in
theorem indexf_any (b o : Nat) (l : List T_agent_round) (vs : List Value) (hl : l.length = 20) (h9 : ∀ r ∈ l, r.many ≤ 1000000) (w : World)
  (h : ∀ (j : Nat) (r : T_agent_round), l[j]? = some r → ∃ v, v.oneCell' = true ∧ RdW w r v ∧ w.cell? ⟨b, o + j * 3, none⟩ = some v ∧ w.cell? ⟨b, o + j * 3 + 1, none⟩ = some (.int .i64 r.many) ∧ w.cell? ⟨b, o + j * 3 + 2, none⟩ = some (.bool r.done)) :
  Calls Tryz.prog 60 #[.slice (some ⟨b, o, none⟩) 20 20, .func (.func 61) #[] #[]] w fun e w' => e = .returned (.int .i64 (rdyN l)) ∧ Below w.heap.size w w' := by
 have H := Lib.hid h
 have HK := Lib.hid h9
 have hbl : b < w.heap.size := by
  obtain ⟨v, _, _, hc, _⟩ := h 0 _ (gE_ (show 0 < l.length by omega))
  exact cell_lt hc
 clear h h9
 go_enter Tryz.func60, Tryz.ntmps60
 go_wp2_with fail
 go_loopw [8] (fun i wr => ∃ k : Nat, k ≤ 20 ∧ i = .int .i64 k ∧ Below w.heap.size w wr ∧ Hid (∀ j < k, ∀ r, l[j]? = some r → rdyB r = false)) (fun i _ => 21 - (intOf i).toNat)
 case atStart => exact ⟨0, by omega, rfl, Below.refl _ _, fun j hj => absurd hj (by omega)⟩
 case round =>
  obtain ⟨k, hk, rfl, hbel, hall⟩ := hrel
  have hwr := hbel.size
  by_cases hlt : k < 20
  ·obtain ⟨r, hr⟩ : ∃ r, l[k]? = some r := ⟨_, gE_ (by omega)⟩
   obtain ⟨v, hv1, hv2, c0, c1, c2⟩ := H.out k r hr
   have d0 := (hbel.cell (p := ⟨b, o + k * 3, none⟩) hbl).trans c0
   have d1 := (hbel.cell (p := ⟨b, o + k * 3 + 1, none⟩) hbl).trans c1
   have d2 := (hbel.cell (p := ⟨b, o + k * 3 + 2, none⟩) hbl).trans c2
   have HC := Lib.hid (fun w' (hb : Below wr.heap.size wr w') => ready1_any r v hv1 (HK.out r (List.mem_of_getElem? hr)) w' ((hv2.below hbel).below hb))
   have i1 : (k : Int) < 20 := by omega
   clear hv2 c0 c1 c2
   by_cases hrb : rdyB r = true
   ·have HX := Lib.hid (rdyN_found hr hrb hall.out)
    rw [hrb] at HC
    clear hrb hr
    go_wp2_with fail
    refine (HC.out wr (Below.refl _ _)).mono ?_
    rintro e w' ⟨rfl, hb⟩
    have hB := bstep (w := w) hbel hb
    simp only []
    go_wp2_with fail
    all_goals go_ret
    all_goals exact ⟨by rw [HX.out]; rfl, by go_grown⟩
   ·have hrb : rdyB r = false := by simpa using hrb
    have HX := Lib.hid (fun j (hj : j < k + 1) => show ∀ r, l[j]? = some r → rdyB r = false from if e : j < k then hall.out j e else (by obtain rfl : j = k := (by omega); intro r2 hr2; rw [hr] at hr2; obtain rfl := oJ_ hr2; exact hrb))
    rw [hrb] at HC
    clear hrb hr
    go_wp2_with fail
    refine (HC.out wr (Below.refl _ _)).mono ?_
    rintro e w' ⟨rfl, hb⟩
    have hB := bstep (w := w) hbel hb
    simp only []
    go_wp2_with fail
    go_roundw
    case rel => exact ⟨k + 1, by omega, by go_num, by go_grown, HX.out⟩
    case measure => simp [intOf]; omega
  ·obtain rfl : k = 20 := by omega
   have HX := Lib.hid (rdyN_none (l := l) fun j hj => hall.out j (by omega))
   go_wp2_with fail
   all_goals go_ret
   all_goals exact ⟨by rw [HX.out]; rfl, by go_grown⟩
set_option maxHeartbeats 1000000 in
theorem ready_any (b : Nat) (l : List T_agent_round) (hl : l.length = 20) (h9 : ∀ r ∈ l, r.many ≤ 1000000) (w : World)
  (h : ∀ (j : Nat) (r : T_agent_round), l[j]? = some r → ∃ v, v.oneCell' = true ∧ RdW w r v ∧ w.cell? ⟨b, 2 + j * 3, none⟩ = some v ∧ w.cell? ⟨b, 2 + j * 3 + 1, none⟩ = some (.int .i64 r.many) ∧ w.cell? ⟨b, 2 + j * 3 + 2, none⟩ = some (.bool r.done)) :
  Calls Tryz.prog 36 #[.pointer (some ⟨b, 0, none⟩)] w fun e w' => e = .returned (.int .i64 (rdyN l)) ∧ Below w.heap.size w w' := by
 have H := Lib.hid (indexf_any b 2 l [] hl h9 w h)
 clear h h9 hl
 go_enter Tryz.func36, Tryz.ntmps36
 go_wp2_with fail
 refine H.out.mono ?_
 rintro e w' ⟨rfl, hb⟩
 simp only []
 go_wp2_with fail
 all_goals go_ret
 all_goals exact ⟨rfl, hb⟩
theorem opV_inj {x y : T_Op} (h : opV x = opV y) : x = y := by
 obtain ⟨_, _, ⟨_, ⟨_, _⟩, _, _, _⟩⟩ := x
 obtain ⟨_, _, ⟨_, ⟨_, _⟩, _, _, _⟩⟩ := y
 simp only [opV, Value.agg.injEq, Array.mk.injEq, List.cons.injEq, Value.int.injEq, Value.bool.injEq, true_and, and_true] at h
 obtain ⟨rfl, rfl, rfl, rfl, rfl, rfl, rfl, rfl⟩ := h
 rfl
theorem mrep_inj : ∀ {l l' : List (Int × T_Op)}, mrep kI opV l = mrep kI opV l' → l = l'
 | [], [], _ => rfl
 | [], _ :: _, h => by simp [mrep] at h
 | _ :: _, [], h => by simp [mrep] at h
 | (a, x) :: l, (b, y) :: l', h => by
  simp only [mrep, List.map_cons, List.cons.injEq, Prod.mk.injEq, kI, Value.int.injEq, true_and] at h
  obtain ⟨⟨rfl, h2⟩, h3⟩ := h
  rw [opV_inj h2, mrep_inj h3]
theorem rdC_inj {r r' : T_agent_round} (h : rdC r = rdC r') : r = r' := by
 obtain ⟨o, m, d⟩ := r
 obtain ⟨o', m', d'⟩ := r'
 simp only [rdC, List.cons.injEq, V.mp.injEq, V.lit.injEq, Value.int.injEq, Value.bool.injEq, true_and, and_true] at h
 obtain ⟨h1, h2, h3⟩ := h
 rw [mrep_inj h1, h2, h3]
theorem flat_inj : ∀ {l l' : List T_agent_round} {m m' : List V}, l.length = l'.length → l.flatMap rdC ++ m = l'.flatMap rdC ++ m' → l = l'
 | [], [], _, _, _, _ => rfl
 | [], _ :: _, _, _, h, _ => by simp at h
 | _ :: _, [], _, _, h, _ => by simp at h
 | r :: l, r' :: l', m, m', h, h2 => by
  simp only [List.flatMap_cons, List.append_assoc] at h2
  obtain ⟨h3, h4⟩ := List.append_inj h2 rfl
  rw [rdC_inj h3, flat_inj (by simpa using h) h4]
theorem agC_inj {a a' : T_agent_Agent} (hl : a.rounds.length = a'.rounds.length) (h : agC a = agC a') : a.rounds = a'.rounds := by
 unfold agC at h
 simp only [List.cons.injEq] at h
 exact flat_inj hl h.2.2
def GoodR (a : T_agent_Agent) : Prop := a.rounds.length = 20 ∧ ∀ r ∈ a.rounds, r.many ≤ 1000000
open Classical in
noncomputable def semL_Ready (xs : List V) : Option V := if h : ∃ a, GoodR a ∧ xs = [V.obj (agC a)] then some (vi (rdyN (Classical.choose h).rounds)) else none
theorem semL_Ready_of {a : T_agent_Agent} (h : GoodR a) : semL_Ready [V.obj (agC a)] = some (vi (rdyN a.rounds)) := by
 have hx : ∃ a', GoodR a' ∧ [V.obj (agC a)] = [V.obj (agC a')] := ⟨a, h, rfl⟩
 unfold semL_Ready
 rw [dif_pos hx]
 obtain ⟨h1, h2⟩ := Classical.choose_spec hx
 have h3 : agC a = agC (Classical.choose hx) := by simpa using h2
 rw [agC_inj (h.1.trans h1.1.symm) h3]
theorem okL_Ready : LSemOk Tryz.prog DW 36 semL_Ready := fun xs y h => by
 unfold semL_Ready at h
 split at h
 rotate_left
 ·cases h
 rename_i hx
 obtain rfl := oJ_ h
 obtain ⟨⟨hl, h9⟩, hxs⟩ := Classical.choose_spec hx
 generalize Classical.choose hx = a at *
 subst hxs
 refine ⟨⟨_, Tryz.func36, by kernel_rfl, by kernel_rfl⟩, fun w M hp F vs hd hM hhp hsz hrel => ?_⟩
 have h0 := hrel 0 _ rfl
 have hvs : vs = #[vs.getD 0 undef] := by
  simp only [List.length_cons, List.length_nil] at hsz
  apply Array.ext
  ·simp [hsz]
  ·intro j hj1 hj2
   have : j = 0 := by omega
   subst this
   simp [Array.getD, hsz]
 rw [hvs]
 generalize vs.getD 0 undef = v0 at h0
 cases h0 with
 | pure _ _ _ h => exact absurd h rel_obj
 | obj _ b cs ty fz hfz _ Fi hb hh hs ho hr sub dis =>
  have hblk := (hhp b _ hh).1
  refine (ready_any b a.rounds hl h9 w fun j r hj => ?_).mono fun e w' ⟨he, hw⟩ => ⟨_, M, he, ⟨hw, fun _ _ _ h => h, fun b o u hu => by rw [hw.cell (mem_lt hM hu)]; exact hM b o u hu, fun _ _ _ h _ => h⟩, .lit _ rfl⟩
  have hi : idx a.rounds (j : Int) = some r := by rw [idx_nat]; exact hj
  have at_ : ∀ (q : Nat) (y : V), q < 3 → (rdC r)[q]? = some y → ∃ u, w.cell? ⟨b, 2 + j * 3 + q, none⟩ = some u ∧ u.oneCell' = true ∧ RelT hp M (Fi (2 + j * 3 + q)) u y := fun q y hq hy => by
   have h1 : (agC a)[2 + j * 3 + q]? = some y := (agC_at hi hq).trans hy
   have hlt : 2 + j * 3 + q < cs.size := by rw [hs]; exact (gS_ h1).1
   have hg : cs.getD (2 + j * 3 + q) undef = cs[2 + j * 3 + q] := by simp [Array.getD, hlt]
   refine ⟨cs[2 + j * 3 + q], ?_, by rw [← hg]; exact ho _ (gS_ h1).1, by rw [← hg]; exact hr _ _ h1⟩
   simp only [World.cell?, hblk]
   exact Array.getElem?_eq_getElem hlt
  obtain ⟨u0, a1, a2, a3⟩ := at_ 0 _ (by decide) rfl
  obtain ⟨u1, b1, b2, b3⟩ := at_ 1 _ (by decide) rfl
  obtain ⟨u2, c1, c2, c3⟩ := at_ 2 _ (by decide) rfl
  have e1 : u1 = .int .i64 r.many := by
   cases b3 with
   | pure _ _ _ h => exact (rel_lit h).1
  have e2 : u2 = .bool r.done := by
   cases c3 with
   | pure _ _ _ h => exact (rel_lit h).1
  subst e1 e2
  refine ⟨u0, a2, ?_, a1, b1, c1⟩
  cases a3 with
  | pure _ _ _ h => exact absurd h rel_mp
  | mp _ m es clk _ hm1 hm2 hm3 => exact ⟨m, es, clk, rfl, (hhp m _ hm2).1, hm3⟩
noncomputable def t_agent_Agent_Ready (a0 : T_agent_Agent) : Option Int := need (decide (a0.rounds.length = 20) && a0.rounds.all fun r => decide (r.many ≤ 1000000)) (some (rdyN a0.rounds))
theorem tyL_Ready (a0 : T_agent_Agent) : Rv (fun x : Int => vi x) (semL_Ready [(V.obj (agC a0))]) (t_agent_Agent_Ready a0) := by
 unfold t_agent_Agent_Ready
 refine tneed0 fun h => ?_
 simp only [Bool.and_eq_true, decide_eq_true_eq, List.all_eq_true] at h
 rw [semL_Ready_of ⟨h.1, h.2⟩]
 exact rf_ret rfl
end Go.Proofs.YtgkohnjpnnofhaaGreat.Ty
