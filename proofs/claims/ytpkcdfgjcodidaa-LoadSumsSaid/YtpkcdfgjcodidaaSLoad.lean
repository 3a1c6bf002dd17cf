/- What hosts may send, counted, as it is read: no memory in sight. -/
import Derived.Test.YtpkcdfgjcodidaaSInts0
import Derived.Test.YtpkcdfgjcodidaaSFate
namespace Go.Proofs.Ytpkcdfgjcodidaa.Ty
open Go Go.RowKit Go.Proofs.Ytpkcdfgjcodidaa.Den
set_option linter.unusedSimpArgs false
set_option linter.unusedVariables false
set_option maxRecDepth 100000

theorem goI_app {α β γ : Type} {step : Int → α → List γ → (List γ → Option β) → Option β} {fin : List γ → Option β} {g : α → List γ} {B w : Nat} (hw : ∀ x, (g x).length ≤ w) : ∀ (l : List α) (i : Int) (s : List γ), s.length + w * l.length ≤ B → (∀ x ∈ l, ∀ i s k, s.length + w ≤ B → step i x s k = k (s ++ g x)) → goI step fin i l s = fin (s ++ l.flatMap g)
  | [], i, s, _, _ => by simp [goI]
  | x :: l, i, s, hb, h => by
    have := hw x
    rw [List.length_cons, Nat.mul_add, Nat.mul_one] at hb
    rw [goI, h x (by simp) i s _ (by omega), goI_app hw l (i + 1) (s ++ g x) (by simp; omega) fun y hy => h y (by simp [hy])]
    simp
/-- what is well with a fate -/
structure GoodF (n : T_Net) (f : T_Fate) : Prop where
  len : f.Hops.length ≤ 24
  ok : ∀ y ∈ f.Hops, hopOk n y
theorem good_fateV {n : T_Net} (hn : netGood n) {x : T_Host} (hx : x ∈ n.Topo.Hosts) {h : Int} (hh : 0 ≤ h ∧ h < 16) : t_net_Of n x.At h = some (fateV n x h) ∧ GoodF n (fateV n x h) := by
  obtain ⟨f, q, z, m, h1, h2, h3⟩ := run_ex hn 23 [] ⟨x.At, h⟩ bigN rfl (Nat.lt_trans (by decide) bigN_gt) ⟨fun i a b _ hb => by simp at hb, by simp, fun y hy => by simp at hy; subst hy; exact ⟨(hn.topo.hosts x hx).2, hh⟩, by simp⟩
  have e : t_net_Of n x.At h = some f := by rw [s_Of, h1]
  unfold fateV
  rw [e]
  exact ⟨rfl, by show f.Hops.length ≤ 24; rw [h2.hops]; exact h2.inv.len, by show ∀ y ∈ f.Hops, _; rw [h2.hops]; exact h2.inv.ok⟩
noncomputable def hostFates (n : T_Net) (x : T_Host) : List T_Fate := (List.range 16).map fun j : Nat => fateV n x (j : Int)
noncomputable def fatesV (n : T_Net) : List T_Fate := n.Topo.Hosts.flatMap (hostFates n)
theorem fatesV_len (n : T_Net) : (fatesV n).length = 16 * n.Topo.Hosts.length := by
  have : ∀ l : List T_Host, (l.flatMap (hostFates n)).length = 16 * l.length := by
    intro l
    induction l with
    | nil => rfl
    | cons x l ih => rw [List.flatMap_cons, List.length_append, ih]; simp [hostFates]; omega
  exact this _
theorem fatesV_good {n : T_Net} (hn : netGood n) : ∀ f ∈ fatesV n, GoodF n f := by
  intro f hf
  obtain ⟨x, hx, hf⟩ := List.mem_flatMap.1 hf
  obtain ⟨j, hj, rfl⟩ := List.mem_map.1 hf
  have := List.mem_range.1 hj
  exact (good_fateV hn hx ⟨by omega, by omega⟩).2
theorem s_fates {n : T_Net} (hn : netGood n) : t_load_fates n = some (fatesV n) := by
  have hM : maxI = 9223372036854775807 := rfl
  have hnh := hn.topo.nh
  unfold t_load_fates
  rw [loopI_eq (by omega), bind_some_id, goI_app (g := hostFates n) (B := 1000) (w := 16) (fun x => by simp [hostFates]) n.Topo.Hosts 0 [] (by simp; omega) fun x hx i s k hs => by
    have inner : loopU 0 16 (fun (i41 : Int) (s37 : (List T_Fate)) k38 => (t_net_Of n x.At i41).bind fun r51 => (app s37 ([r51] : (List T_Fate))).bind fun r54 => k38 (r54)) (fun (i41 : Int) (s37 : (List T_Fate)) => some (s37)) s = some (s ++ hostFates n x) := by
      rw [loopU_eq (by decide) (by decide), show ((16 : Int) - 0).toNat = 16 from rfl]
      have h0 : s = (fun j : Nat => s ++ (List.range j).map fun j : Nat => fateV n x (j : Int)) 0 := by simp
      rw [show goU (fun (i41 : Int) (s37 : (List T_Fate)) k38 => (t_net_Of n x.At i41).bind fun r51 => (app s37 ([r51] : (List T_Fate))).bind fun r54 => k38 (r54)) (fun (i41 : Int) (s37 : (List T_Fate)) => some (s37)) 16 0 s = goU (fun (i41 : Int) (s37 : (List T_Fate)) k38 => (t_net_Of n x.At i41).bind fun r51 => (app s37 ([r51] : (List T_Fate))).bind fun r54 => k38 (r54)) (fun (i41 : Int) (s37 : (List T_Fate)) => some (s37)) 16 ((0 : Nat) : Int) ((fun j : Nat => s ++ (List.range j).map fun j : Nat => fateV n x (j : Int)) 0) by rw [← h0]; rfl]
      refine (goU_seq (n := 16) (fun j : Nat => s ++ (List.range j).map fun j : Nat => fateV n x (j : Int)) (fun j k hj => ?_) 16 0 (by omega)).trans (by simp only [Nat.zero_add]; rfl)
      rw [(good_fateV hn hx ⟨by omega, by omega⟩).1, Option.bind_some, app_eq (by simp; omega), Option.bind_some]
      simp [List.range_succ]
    rw [inner]; rfl]
  rfl
/-! counts of rules -/
/-- counts of a table's rules each, none greater than m -/
structure CntT (n : T_Net) (m : Int) (s : List (List Int)) : Prop where
  len : s.map List.length = n.Tables.map List.length
  pos : ∀ c ∈ s, ∀ x ∈ c, 0 ≤ x ∧ x ≤ m
theorem CntT.at {n : T_Net} {m : Int} {s : List (List Int)} (h : CntT n m s) : s.length = n.Tables.length ∧ ∀ (i : Nat) (c : List Int) (t : List T_Rule), s[i]? = some c → n.Tables[i]? = some t → c.length = t.length := by
  refine ⟨by have := congrArg List.length h.len; simpa using this, fun i c t hc ht => ?_⟩
  have := congrArg (·[i]?) h.len
  simp only [List.getElem?_map, hc, ht, Option.map_some, Option.some.injEq] at this
  exact this
/-- one hop counted -/
noncomputable def hopF (n : T_Net) (x : T_Hop) (s : List (List Int)) : Option (List (List Int)) :=
 (idx n.Tables (wr (x.At.Switch - 1))).bind fun r66 =>
 (t_rule_Find r66 x.Header).bind fun r70 =>
 (if (decide (0 ≤ r70)) = true then (
 need (decide (0 ≤ (wr (x.At.Switch - 1))) && decide ((wr (x.At.Switch - 1)) < (List.length s : Int))) (
 (idx s (wr (x.At.Switch - 1))).bind fun r81 =>
 (idx s (wr (x.At.Switch - 1))).bind fun r83 =>
 need (decide (0 ≤ r70) && decide (r70 < (List.length r83 : Int))) (
 (idx s (wr (x.At.Switch - 1))).bind fun r85 =>
 (idx r85 r70).bind fun r86 =>
 (idx s (wr (x.At.Switch - 1))).bind fun r89 =>
 need (decide (0 ≤ r70) && decide (r70 < (List.length r89 : Int))) (
 ((idx s (wr (x.At.Switch - 1))).bind fun a_ => (oset a_ r70 (wr (r86 + 1))).map fun b_ => List.set s (Int.toNat (wr (x.At.Switch - 1))) b_).bind fun r92 =>
 some (r92))))) else (
 some (s)))
noncomputable def hopK {β : Type} (n : T_Net) (x : T_Hop) (s : List (List Int)) (k50 : List (List Int) → Option β) : Option β :=
 (idx n.Tables (wr (x.At.Switch - 1))).bind fun r66 =>
 (t_rule_Find r66 x.Header).bind fun r70 =>
 (if (decide (0 ≤ r70)) = true then (
 need (decide (0 ≤ (wr (x.At.Switch - 1))) && decide ((wr (x.At.Switch - 1)) < (List.length s : Int))) (
 (idx s (wr (x.At.Switch - 1))).bind fun r81 =>
 (idx s (wr (x.At.Switch - 1))).bind fun r83 =>
 need (decide (0 ≤ r70) && decide (r70 < (List.length r83 : Int))) (
 (idx s (wr (x.At.Switch - 1))).bind fun r85 =>
 (idx r85 r70).bind fun r86 =>
 (idx s (wr (x.At.Switch - 1))).bind fun r89 =>
 need (decide (0 ≤ r70) && decide (r70 < (List.length r89 : Int))) (
 ((idx s (wr (x.At.Switch - 1))).bind fun a_ => (oset a_ r70 (wr (r86 + 1))).map fun b_ => List.set s (Int.toNat (wr (x.At.Switch - 1))) b_).bind fun r92 =>
 some (r92))))) else (
 some (s))).bind fun (s74 : (List (List Int))) =>
 k50 (s74)
theorem hopK_eq {β : Type} (n : T_Net) (x : T_Hop) (s : List (List Int)) (k : List (List Int) → Option β) : hopK n x s k = (hopF n x s).bind k := by
  unfold hopK hopF
  simp only [Option.bind_assoc]
theorem oset_eq' {α : Type} {l : List α} {i : Int} {y : α} (h0 : 0 ≤ i) (h1 : i < l.length) : oset l i y = some (l.set i.toNat y) := if_pos ⟨h0, h1⟩
theorem hopF_ok {n : T_Net} (hn : netGood n) {x : T_Hop} (hx : hopOk n x) {m : Int} (hm : 0 ≤ m ∧ m ≤ 100000) {s : List (List Int)} (hs : CntT n m s) : ∃ s', hopF n x s = some s' ∧ CntT n (m + 1) s' := by
  obtain ⟨a1, a2, _, _⟩ := hx.at_
  have hsw := hn.topo.sw
  have hln := hn.len
  obtain ⟨l1, l2⟩ := hs.at
  have hw : wr (x.At.Switch - 1) = x.At.Switch - 1 := wr_id (by omega) (by omega)
  obtain ⟨t, ht, htm, htn⟩ := idx_some (l := n.Tables) (i := x.At.Switch - 1) (by omega) (by omega)
  obtain ⟨c, hc, hcm, hcn⟩ := idx_some (l := s) (i := x.At.Switch - 1) (by omega) (by omega)
  have hlen := l2 _ c t hcn htn
  obtain ⟨i, h1, h2⟩ := s_Find t x.Header (hn.tabs t htm).1
  have keep : CntT n (m + 1) s := ⟨hs.len, fun c hc y hy => by have := hs.pos c hc y hy; omega⟩
  unfold hopF
  rw [hw, ht, Option.bind_some, h1, Option.bind_some]
  by_cases hi : i < 0
  · rw [if_neg (by simp; omega)]
    exact ⟨s, rfl, keep⟩
  · obtain ⟨v, hv, hvm, hvn⟩ := idx_some (l := c) (i := i) (by omega) (by omega)
    have hvp := hs.pos c hcm v hvm
    rw [if_pos (by simp; omega), need_pos (by simp; omega), hc]
    simp only [Option.bind_some]
    rw [need_pos (by simp; omega), hv]
    simp only [Option.bind_some]
    rw [need_pos (by simp; omega), oset_eq' (by omega) (by omega), wr_id (by omega) (by omega)]
    refine ⟨_, rfl, ?_, fun d hd y hy => ?_⟩
    · rw [List.map_set, List.length_set]
      refine Eq.trans ?_ hs.len
      apply List.ext_getElem?
      intro j
      rw [List.getElem?_set]
      split
      · rename_i e; subst e
        simp only [List.length_map, List.getElem?_map, hcn, Option.map_some]
        rw [if_pos (by omega)]
      · rfl
    · rcases List.mem_or_eq_of_mem_set hd with h | h
      · exact keep.pos d h y hy
      · rw [h] at hy
        rcases List.mem_or_eq_of_mem_set hy with h' | h'
        · exact keep.pos c hcm y h'
        · omega
noncomputable def cntF (n : T_Net) (fs : List T_Fate) (s : List (List Int)) : Option (List (List Int)) :=
 loopI fs (fun (i25 : Int) x26 (s21 : (List (List Int))) k22 =>
 ((loopI x26.Hops (fun (i53 : Int) x54 (s49 : (List (List Int))) k50 =>
 hopK n x54 s49 k50) (fun (s49 : (List (List Int))) =>
 some (s49)) (s21)).bind fun (s44 : (List (List Int))) =>
 some (s44)).bind fun (s33 : (List (List Int))) =>
 k22 (s33)) (fun (s21 : (List (List Int))) =>
 some (s21)) s
noncomputable def zerosV (n : T_Net) : List (List Int) := n.Tables.map fun t => List.replicate t.length 0
theorem s_count_eq (n : T_Net) (hT : ∀ t ∈ n.Tables, t.length ≤ 12) (hl : n.Tables.length ≤ 100) {fs : List T_Fate} (hf : t_load_fates n = some fs) : t_load_count n = cntF n fs (zerosV n) := by
  have hM : maxI = 9223372036854775807 := rfl
  unfold t_load_count
  rw [loopI_eq (l := n.Tables) (by omega), goI_map (f := fun t : List T_Rule => List.replicate t.length (0 : Int)) (B := 1000) n.Tables 0 [] (by simp; omega) fun x hx i s k hs => by
    have := hT x hx
    have ho : omake (List.length x : Int) (List.length x : Int) 0 = some (List.replicate x.length (0 : Int)) := by
      unfold omake
      rw [if_pos ⟨rfl, by omega, by omega⟩]; simp
    have hp : oapp s [List.replicate x.length (0 : Int)] = some (s ++ [List.replicate x.length (0 : Int)]) := if_pos ⟨by simp, by simp; omega⟩
    rw [ho, Option.bind_some, hp, Option.bind_some]]
  simp only [Option.bind_some, List.nil_append]
  rw [hf, Option.bind_some, bind_some_id]
  rfl
theorem cntF_ok {n : T_Net} (hn : netGood n) {fs : List T_Fate} (hfs : fs.length ≤ 1000) (hg : ∀ f ∈ fs, GoodF n f) : ∃ s, cntF n fs (zerosV n) = some s ∧ CntT n 24000 s := by
  have hM : maxI = 9223372036854775807 := rfl
  unfold cntF
  refine loopI_ex (Q := fun s => CntT n 24000 s) (fun i m s => (∀ f ∈ m, f ∈ fs) ∧ m.length ≤ 1000 ∧ CntT n (24 * (1000 - (m.length : Int))) s) (by omega) ⟨fun _ h => h, hfs, ?_, fun c hc x hx => ?_⟩ (fun i s hI => ⟨s, rfl, by simpa using hI.2.2⟩) (fun i f m s k hI hk => ?_)
  · simp only [zerosV, List.map_map]
    apply List.map_congr_left
    intro t _
    simp
  · simp only [zerosV, List.mem_map] at hc
    obtain ⟨t, _, rfl⟩ := hc
    have := (List.mem_replicate.1 hx).2
    omega
  · obtain ⟨h1, h2, h3⟩ := hI
    have hgf := hg f (h1 f (by simp))
    have hl := hgf.len
    simp only [List.length_cons] at h2 h3
    have inner : ∃ v, (loopI f.Hops (fun (i53 : Int) x54 (s49 : (List (List Int))) k50 => hopK n x54 s49 k50) (fun (s49 : (List (List Int))) => some (s49)) (s)) = some v ∧ CntT n (24 * (1000 - (m.length : Int))) v := by
      refine loopI_ex (Q := fun v => CntT n (24 * (1000 - (m.length : Int))) v) (fun i p s => (∀ y ∈ p, y ∈ f.Hops) ∧ p.length ≤ 24 ∧ CntT n (24 * (1000 - ((m.length + 1 : Nat) : Int)) + (24 - (p.length : Int))) s) (by omega) ⟨fun _ h => h, hl, h3.len, fun c hc x hx => ?_⟩ (fun i s hI => ⟨s, rfl, ?_⟩) (fun i y p s k hI hk => ?_)
      · have := h3.pos c hc x hx; omega
      · obtain ⟨_, _, q⟩ := hI
        refine ⟨q.len, fun c hc x hx => ?_⟩
        have := q.pos c hc x hx
        simp at this; omega
      · obtain ⟨q1, q2, q3⟩ := hI
        simp only [List.length_cons] at q2 q3
        obtain ⟨s', e1, e2⟩ := hopF_ok hn (hgf.ok y (q1 y (by simp))) (by omega) q3
        rw [hopK_eq, e1, Option.bind_some]
        refine hk s' ⟨fun z hz => q1 z (by simp [hz]), by omega, ⟨e2.len, fun c hc x hx => ?_⟩⟩
        have := e2.pos c hc x hx; omega
    obtain ⟨v, hv, hv2⟩ := inner
    rw [hv]
    simp only [Option.bind_some]
    exact hk v ⟨fun g hg => h1 g (by simp [hg]), by omega, hv2⟩
theorem s_count {n : T_Net} (hn : netGood n) : ∃ s, t_load_count n = some s ∧ CntT n 24000 s := by
  have hnh := hn.topo.nh
  have hsw := hn.topo.sw
  have hln := hn.len
  rw [s_count_eq n (fun t ht => (hn.tabs t ht).1) (by omega) (s_fates hn)]
  exact cntF_ok hn (by rw [fatesV_len]; omega) (fatesV_good hn)
end Go.Proofs.Ytpkcdfgjcodidaa.Ty
