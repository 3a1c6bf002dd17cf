/- What the law of any net comes to. -/
import Derived.Test.YtpjadjoekdcjiaaDoorSNet2
namespace Go.Proofs.YtpjadjoekdcjiaaDoor.Ty
open Go Go.RowKit Go.Proofs.YtpjadjoekdcjiaaDoor.Den
set_option linter.unusedSimpArgs false
set_option linter.unusedVariables false
set_option maxRecDepth 100000

theorem s_rHost (T : T_Topo) (s : T_Spot) : t_railref1_Host T s = t_slices_IndexFunc_api_Host_api_Host T.Hosts (fun a => t_topo_Host_1 a s) := rfl
theorem s_rNamed (T : T_Topo) (s : ByteArray) : t_railref1_Named T s = t_slices_IndexFunc_api_Host_api_Host T.Hosts (fun a => t_topo_Where_1 a s) := rfl
theorem s_rPeer (T : T_Topo) (s : T_Spot) : t_railref1_Peer T s = t_topo_Other T s := by
  unfold t_railref1_Peer t_topo_Other
  simp only [join_eq]
  refine loopI_sim (fun _ _ _ _ => True) trivial (fun _ _ _ _ => rfl) (fun i x l s t k k' _ hk => ?_)
  rw [hk s t trivial]
  simp only [eq_comm]
/-- the bits that a rule sets -/
theorem s_Out2 {t : List T_Rule} (ht : tblGood t) (hk : ∀ r ∈ t, r.chk = 0) (at_ : T_Spot) {h : Int} (hh : 0 ≤ h ∧ h < 16) : ∃ i, t_railref1_Find t h = some i ∧
    (((i < 0 ∨ ∃ r, 0 ≤ i ∧ idx t i = some r ∧ r.Out = 0) ∧ t_net_Out t at_ h = some (⟨0, 0⟩, 0, false)) ∨
      ∃ r, 0 ≤ i ∧ idx t i = some r ∧ r.Out ≠ 0 ∧ ∃ x, t_railref1_Turned r h = some x ∧ t_net_Out t at_ h = some (⟨at_.Switch, r.Out⟩, x, true)) := by
  obtain ⟨i, e1, e2⟩ := s_Find t h ht.1
  refine ⟨i, by rw [s_rFind t hk h hh, e1], ?_⟩
  unfold t_net_Out
  rw [e1]
  simp only [Option.bind_some]
  by_cases hi : i < 0
  · exact .inl ⟨.inl hi, by simp [hi, gd]⟩
  · obtain ⟨r, hr, hm, _⟩ := idx_some (l := t) (i := i) (by omega) (by omega)
    simp only [hr, hi, decide_false, Bool.not_false, gd_true, Option.bind_some, Bool.false_or]
    by_cases ho : r.Out = 0
    · exact .inl ⟨.inr ⟨r, by omega, rfl, ho⟩, by simp [ho]⟩
    · exact .inr ⟨r, by omega, rfl, ho, _, s_Turned (hk r hm) hh, by simp [ho]⟩
theorem s_host2 {n : T_Net} (hn : netGood n) (s : T_Spot) : ∃ i, t_railref1_Host n.Topo s = some i ∧ ((i < 0 ∧ (hostV n.Topo s).2 = false) ∨ (0 ≤ i ∧ ∃ h, idx n.Topo.Hosts i = some h ∧ h ∈ n.Topo.Hosts ∧ hostV n.Topo s = (h.Name, true))) := by
  obtain ⟨i, e1, e2⟩ := s_IndexHost n.Topo.Hosts hn.topo.nh (fun a4 => decide (a4.At = s)) _ (fun x => (rfl : t_topo_Host_1 x s = some (decide (x.At = s))))
  refine ⟨i, by rw [s_rHost]; exact e1, ?_⟩
  unfold hostV t_topo_Host
  rw [e1]
  simp only [Option.bind_some]
  by_cases hi : i < 0
  · exact .inl ⟨hi, by simp [hi]⟩
  · obtain ⟨x, hx, hm, _⟩ := idx_some (l := n.Topo.Hosts) (i := i) (by omega) (by omega)
    exact .inr ⟨by omega, x, hx, hm, by simp [hi, hx]⟩
theorem again_eq (l : List T_Hop) (y : T_Hop) (hl : (l.length : Int) ≤ maxI) (b : Bool) : loopI l (fun (i113 : Int) x114 (s109 : Bool) k110 => k110 (s109 || (decide (x114 = y)))) (fun (s109 : Bool) => some (s109)) b = some (b || decide (y ∈ l)) := by
  rw [loopI_eq hl]
  have : ∀ (l : List T_Hop) (i : Int) (b : Bool), goI (fun (i113 : Int) x114 (s109 : Bool) k110 => k110 (s109 || (decide (x114 = y)))) (fun (s109 : Bool) => some (s109)) i l b = some (b || decide (y ∈ l)) := by
    intro l
    induction l with
    | nil => intro i b; simp [goI]
    | cons x l ih =>
      intro i b
      rw [goI]
      show goI _ _ (i + 1) l (b || decide (x = y)) = _
      rw [ih]
      by_cases e : x = y
      · simp [e]
      · have e' : ¬ y = x := fun h => e h.symm
        simp [e, e']
  exact this l 0 b
theorem s_rGo {n : T_Net} (hn : netGood n) (hc : t_net_Check n = some 0) (l : List T_Hop) {x : T_Hop} (hx : hopOk n x) (hl : (l ++ [x]).length ≤ 24) : t_railref1_Go n.Topo (tblV n x) ⟨0, noT, l ++ [x]⟩ = some ((goV n l x).2, (goV n l x).1) := by
  have hM : maxI = 9223372036854775807 := rfl
  have hl2 : l.length ≤ 100 := by simp at hl; omega
  have htm : tblV n x ∈ n.Tables := by
    have h1 := hn.topo.sw
    obtain ⟨h2, h3, _⟩ := hx.at_
    have hll := hn.len
    obtain ⟨t, e1, e2, _⟩ := idx_some (l := n.Tables) (i := x.At.Switch - 1) (by omega) (by omega)
    unfold tblV
    rw [e1]
    exact e2
  obtain ⟨i, f1, f2⟩ := s_Out2 (s_tbl hn hx.at_).2 (tab_rules (net_tabs hc hn _ htm)) x.At hx.hd
  have ho := (s_out hn hx).1
  unfold t_railref1_Go
  simp only [idx_last l x hl2, Option.bind_some, f1]
  unfold goV kd
  rcases f2 with ⟨g1, g2⟩ | ⟨r, i0, ir, rO, z, tz, g2⟩
  · rw [g2] at ho
    have ho := Option.some.inj ho
    rw [← ho]
    rcases g1 with hi | ⟨r, i0, ir, rO⟩
    · simp [hi, gd]
    · have : ¬ i < 0 := by omega
      simp [this, gd, ir, rO]
  · rw [g2] at ho
    have ho := Option.some.inj ho
    rw [← ho]
    have hi : ¬ i < 0 := by omega
    simp only [hi, decide_false, Bool.not_false, gd_true, ir, Option.bind_some, rO, Bool.or_self, Bool.false_eq_true, if_false, if_true]
    obtain ⟨j, h1, h2⟩ := s_host2 hn ⟨x.At.Switch, r.Out⟩
    rw [h1]
    simp only [Option.bind_some]
    rcases h2 with ⟨hj, hv⟩ | ⟨hj, hh, k1, _, k2⟩
    · have hj2 : ¬ 0 ≤ j := by omega
      simp only [hv, hj2, decide_false, Bool.false_eq_true, if_false, s_rPeer, (s_other hn _).1, Option.bind_some]
      by_cases h3 : (otherV n.Topo ⟨x.At.Switch, r.Out⟩).2 = true
      · simp only [h3, Bool.not_true, Bool.false_eq_true, if_false, if_true, Option.bind_some, tz]
        rw [again_eq _ _ (by omega)]
        simp only [Option.bind_some]
        generalize (⟨(otherV n.Topo ⟨x.At.Switch, r.Out⟩).1, z⟩ : T_Hop) = y
        by_cases h4 : y ∈ l ++ [x] ∨ 24 ≤ (l ++ [x]).length
        · have : (decide (24 ≤ ((l ++ [x]).length : Int)) || decide (y ∈ l ++ [x])) = true := by
            rcases h4 with h | h
            · simp only [Bool.or_eq_true, decide_eq_true_eq]; exact .inr h
            · simp only [Bool.or_eq_true, decide_eq_true_eq]; left; omega
          rw [if_pos this, if_pos h4]
        · have : ¬ (decide (24 ≤ ((l ++ [x]).length : Int)) || decide (y ∈ l ++ [x])) = true := by
            simp only [Bool.or_eq_true, decide_eq_true_eq]
            intro h
            exact h4 (h.symm.elim .inl fun h => .inr (by omega))
          rw [if_neg this, if_neg h4, app_eq (by simp at hl ⊢; omega)]
          simp only [Option.bind_some, List.nil_append]
          rw [app_eq (by simp at hl ⊢; omega)]
          rfl
      · simp [h3]
    · simp [hj, k1, k2]
noncomputable def frF (n : T_Net) (k19 : T_Fate × Bool → Option T_Fate) (s18 : T_Fate × Bool) : Option T_Fate :=
 if s18.2 = true then (
 (idx s18.1.Hops (wr ((List.length s18.1.Hops : Int) - 1))).bind fun r29 =>
 (idx n.Tables (wr (r29.At.Switch - 1))).bind fun r37 =>
 (t_railref1_Go n.Topo r37 s18.1).bind fun r41 =>
 k19 (r41.1, r41.2)) else (
 some (s18.1))
theorem frF_step {n : T_Net} (hn : netGood n) (hc : t_net_Check n = some 0) (k : T_Fate × Bool → Option T_Fate) (l : List T_Hop) {x : T_Hop} (hx : hopOk n x) (hl : (l ++ [x]).length ≤ 24) : frF n k (⟨0, noT, l ++ [x]⟩, true) = k ((goV n l x).2, (goV n l x).1) := by
  unfold frF
  simp only [if_true, idx_last l x (by simp at hl; omega), Option.bind_some, (s_tbl hn hx.at_).1, s_rGo hn hc l hx hl]
theorem frF_end {n : T_Net} {N : Nat} (h : 0 < N) (f : T_Fate) : tfix (frF n) N (f, false) = some f := by
  obtain ⟨N, rfl⟩ : ∃ M, N = M + 1 := ⟨N - 1, by omega⟩
  rfl
theorem run2 {n : T_Net} (hn : netGood n) (hc : t_net_Check n = some 0) : ∀ (d : Nat) (l : List T_Hop) (x : T_Hop) (N N2 : Nat), (l ++ [x]).length + d = 24 → d < N → d + 1 < N2 → hopOk n x → tfix (frF n) N2 (⟨0, noT, l ++ [x]⟩, true) = tfix (ofF n) N ⟨0, noT, l ++ [x]⟩ := by
  intro d
  induction d with
  | zero =>
    intro l x N N2 hd hN hN2 hx
    obtain ⟨N, rfl⟩ : ∃ M, N = M + 1 := ⟨N - 1, by omega⟩
    obtain ⟨N2, rfl⟩ : ∃ M, N2 = M + 1 := ⟨N2 - 1, by omega⟩
    rw [show tfix (ofF n) (N + 1) ⟨0, noT, l ++ [x]⟩ = ofF n (tfix (ofF n) N) ⟨0, noT, l ++ [x]⟩ from rfl, ofF_step hn _ l hx (by omega)]
    rw [show tfix (frF n) (N2 + 1) (⟨0, noT, l ++ [x]⟩, true) = frF n (tfix (frF n) N2) (⟨0, noT, l ++ [x]⟩, true) from rfl, frF_step hn hc _ l hx (by omega)]
    have hg : (goV n l x).1 = false := by
      unfold goV
      have h24 : (kd n x).2.2 ∈ l ++ [x] ∨ 24 ≤ (l ++ [x]).length := .inr (by omega)
      by_cases h0 : (kd n x).1 = 0
      · rw [if_pos h0, if_pos h24]
      · rw [if_neg h0]
    rw [hg, frF_end (by omega)]
    rfl
  | succ d ih =>
    intro l x N N2 hd hN hN2 hx
    obtain ⟨N, rfl⟩ : ∃ M, N = M + 1 := ⟨N - 1, by omega⟩
    obtain ⟨N2, rfl⟩ : ∃ M, N2 = M + 1 := ⟨N2 - 1, by omega⟩
    rw [show tfix (ofF n) (N + 1) ⟨0, noT, l ++ [x]⟩ = ofF n (tfix (ofF n) N) ⟨0, noT, l ++ [x]⟩ from rfl, ofF_step hn _ l hx (by omega)]
    rw [show tfix (frF n) (N2 + 1) (⟨0, noT, l ++ [x]⟩, true) = frF n (tfix (frF n) N2) (⟨0, noT, l ++ [x]⟩, true) from rfl, frF_step hn hc _ l hx (by omega)]
    by_cases hg : (goV n l x).1 = true
    · rw [hg, if_pos rfl]
      have hv : (kd n x).1 = 0 ∧ (goV n l x).2 = ⟨0, noT, l ++ [x] ++ [(kd n x).2.2]⟩ := by
        unfold goV at hg ⊢
        by_cases h0 : (kd n x).1 = 0
        · rw [if_pos h0] at hg ⊢
          split at hg
          · cases hg
          · rename_i h1
            rw [if_neg h1]
            exact ⟨h0, rfl⟩
        · rw [if_neg h0] at hg
          cases hg
      rw [hv.2]
      exact ih (l ++ [x]) (kd n x).2.2 N N2 (by rw [List.length_append]; simp only [List.length_singleton]; omega) (by omega) (by omega) ((kd_ok hn hx).1 hv.1)
    · have hg : (goV n l x).1 = false := by simpa using hg
      rw [hg, frF_end (by omega)]
      rfl
theorem s_rFrom {n : T_Net} (hn : netGood n) (hc : t_net_Check n = some 0) {s : T_Spot} {h : Int} (hs : spotOk n.Topo s) (hh : 0 ≤ h ∧ h < 16) : ∃ f, t_railref1_From n s h = some f ∧ t_net_Of n s h = some f ∧ f.Hops.length ≤ 24 := by
  obtain ⟨f, q, z, m, h1, h2, h3⟩ := run_ex hn 23 [] ⟨s, h⟩ bigN rfl (Nat.lt_trans (by decide) bigN_gt) ⟨fun i a b _ hb => by simp at hb, by simp, fun y hy => by simp at hy; subst hy; exact ⟨hs, hh⟩, by simp⟩
  refine ⟨f, ?_, by rw [s_Of, h1], by rw [h2.hops]; exact h2.inv.len⟩
  unfold t_railref1_From
  rw [bind_some_id]
  show tfix (frF n) bigN (⟨0, noT, [] ++ [⟨s, h⟩]⟩, true) = _
  rw [run2 hn hc 23 [] ⟨s, h⟩ bigN bigN rfl (Nat.lt_trans (by decide) bigN_gt) (Nat.lt_trans (by decide) bigN_gt) ⟨hs, hh⟩, h1]
theorem s_Fate (f : T_Fate) (hf : f.Hops.length ≤ 24) : t_railsame_Fate f f = some true := by
  have hM : maxI = 9223372036854775807 := rfl
  unfold t_railsame_Fate
  rw [if_neg (by simp)]
  simp only [join_eq]
  have : ∃ v, loopI f.Hops (fun (i52 : Int) x53 (s48 : Unit) k49 =>
    (idx f.Hops i52).bind fun r65 =>
    if (!decide (x53 = r65)) = true then (
    some false) else (
    k49 ())) (fun (s48 : Unit) => some true) () = some v ∧ v = true := by
    refine loopI_ex (fun i l _ => 0 ≤ i ∧ l = f.Hops.drop i.toNat) (by omega) ⟨Int.le_refl _, rfl⟩ (fun i s hI => ⟨_, rfl, rfl⟩) (fun i x l s k hI hk => ?_)
    obtain ⟨i0, i1⟩ := hI
    have hx : f.Hops[i.toNat]? = some x := by
      have := congrArg (fun l => l[0]?) i1
      simpa using this.symm
    have hjl : i.toNat < f.Hops.length := (List.getElem?_eq_some_iff.1 hx).1
    have hi : idx f.Hops i = some x := by unfold idx; rw [if_pos i0, hx]
    rw [hi, Option.bind_some, if_neg (by simp)]
    refine hk () ⟨by omega, ?_⟩
    rw [List.drop_eq_getElem_cons hjl] at i1
    rw [(List.cons.inj i1).2]
    congr 1
    omega
  obtain ⟨v, e1, rfl⟩ := this
  exact e1
theorem s_Error (x y : Int) : t_railsame_Error x y = some (decide (x = y)) := rfl
theorem s_Where {n : T_Net} (hn : netGood n) (name : ByteArray) : ∃ i, t_railref1_Named n.Topo name = some i ∧ ((i < 0 ∧ t_topo_Where n.Topo name = some (⟨0, 0⟩, 5)) ∨ (0 ≤ i ∧ ∃ h, idx n.Topo.Hosts i = some h ∧ h ∈ n.Topo.Hosts ∧ t_topo_Where n.Topo name = some (h.At, 0))) := by
  obtain ⟨i, e1, e2⟩ := s_IndexHost n.Topo.Hosts hn.topo.nh (fun a4 => decide (a4.Name = name)) _ (fun x => (rfl : t_topo_Where_1 x name = some (decide (x.Name = name))))
  refine ⟨i, by rw [s_rNamed]; exact e1, ?_⟩
  have hc : t_topo_Check n.Topo = some 0 := hn.chk
  unfold t_topo_Where
  rw [hc, e1]
  simp only [Option.bind_some, decide_true, Bool.not_true, Bool.false_eq_true, if_false]
  by_cases hi : i < 0
  · exact .inl ⟨hi, by simp [hi]⟩
  · obtain ⟨x, hx, hm, _⟩ := idx_some (l := n.Topo.Hosts) (i := i) (by omega) (by omega)
    exact .inr ⟨by omega, x, hx, hm, by simp [hi, hx]⟩
abbrev fate0 : T_Fate := ⟨0, noT, []⟩
theorem s_Fate0 : t_railsame_Fate fate0 fate0 = some true := s_Fate _ (by simp)
theorem walk_NetTells (a0 : T_Net) (a1 : T_Spot) (a2 : Int) (a3 : ByteArray) (u0 : a0.wf maxLen) (u1 : a1.wf maxLen) (u2 : wi64 a2) (_ : a3.size ≤ maxLen) : t_raillaw1_NetTells a0 a1 a2 a3 = some true := by
  have hM : maxI = 9223372036854775807 := rfl
  have hnm : ∀ h ∈ a0.Topo.Hosts, (h.Name.size : Int) ≤ maxI := fun h hh => by
    have h1 : h.Name.size ≤ maxLen := (u0.1.2.2.2 h hh).1
    unfold maxLen at h1
    omega
  unfold t_raillaw1_NetTells
  obtain ⟨c, e1, e2⟩ := s_netCheck a0 hnm
  obtain ⟨b, f1, f2⟩ := s_Spot a0.Topo a1
  obtain ⟨b2, g1, g2⟩ := s_Header a2
  have g1' : t_railref1_Header a2 = some b2 := g1
  rw [s_rNet a0 hnm, e1, s_rSpot, f1, g1']
  simp only [Option.bind_some, s_Error]
  by_cases hc : c = 0
  rotate_left
  · simp only [hc, decide_false, Bool.false_and, Bool.false_eq_true, if_false, Option.bind_some]
    unfold t_net_Step t_net_From t_net_Send t_net_ready
    simp only [e1, Option.bind_some, hc, decide_false, Bool.not_false, if_true, s_Fate0, decide_true, Bool.and_self]
  subst hc
  have hn := e2 rfl
  simp only [decide_true, Bool.true_and, if_true]
  obtain ⟨i, w1, w2⟩ := s_Where hn a3
  rw [w1]
  simp only [Option.bind_some]
  -- what a host sends
  have hsent : ∃ fl fe, (if (decide (i < 0)) = true then (some (5, fate0)) else (
      (if (!b2) = true then (some (1, fate0)) else (
      (idx a0.Topo.Hosts i).bind fun r140 => (t_railref1_From a0 r140.At a2).bind fun r144 => some (0, r144))).bind fun (s133 : (Int × T_Fate)) => some (s133.1, s133.2))).bind (fun (s126 : (Int × T_Fate)) => some (s126.1, s126.2)) = some (fl, fe) ∧ t_net_Send a0 a3 a2 = some (fe, fl) ∧ fe.Hops.length ≤ 24 := by
    unfold t_net_Send
    rw [e1, g1]
    simp only [Option.bind_some, decide_true, Bool.not_true, Bool.false_eq_true, if_false]
    rcases w2 with ⟨i0, ww⟩ | ⟨i0, h, ih, hm, ww⟩
    · rw [ww]
      exact ⟨5, fate0, by simp [i0], by simp, by simp⟩
    · have hi : ¬ i < 0 := by omega
      rw [ww]
      simp only [hi, decide_false, Bool.false_eq_true, if_false, Option.bind_some, decide_true, Bool.not_true]
      cases hb : b2 with
      | false => exact ⟨1, fate0, by simp, by simp, by simp⟩
      | true =>
        have hh := g2.1 hb
        obtain ⟨f, r1, r2, r3⟩ := s_rFrom hn e1 (hn.topo.hosts h hm).2 hh
        exact ⟨0, f, by simp [ih, r1], by simp [r2], r3⟩
  obtain ⟨fl, fe, h1, h2, h3⟩ := hsent
  -- where it goes from a spot
  have hfrom : ∃ v36 v42 : Int, ∃ p : T_Spot, ∃ x : Int, ∃ fa : T_Fate, (if (!b || !b2) = true then some (1 : Int) else some 0) = some v36 ∧
      (if decide (v36 = 0) = true then
        (idx a0.Tables (wr (a1.Switch - 1))).bind fun r151 =>
          (t_railref1_Find r151 a2).bind fun r154 =>
            (gd (!decide (r154 < 0)) default (idx r151 r154)).bind fun r163 =>
              (if (decide (r154 < 0) || decide (r163.Out = 0)) = true then some (5, (⟨0, 0⟩ : T_Spot), 0)
                else (idx r151 r154).bind fun r187 => (idx r151 r154).bind fun r193 => (t_railref1_Turned r193 a2).bind fun r196 => some (v36, ⟨a1.Switch, r187.Out⟩, r196)).bind fun (s176 : Int × T_Spot × Int) =>
                (t_railref1_From a0 a1 a2).bind fun r182 => some (s176.1, s176.2.1, s176.2.2, r182)
      else some (v36, (⟨0, 0⟩ : T_Spot), 0, fate0)) = some (v42, p, x, fa) ∧ t_net_Step a0 a1 a2 = some (p, x, v42) ∧ t_net_From a0 a1 a2 = some (fa, v36) ∧ fa.Hops.length ≤ 24 := by
    unfold t_net_Step t_net_From t_net_ready
    rw [e1, f1, g1]
    simp only [Option.bind_some, decide_true, Bool.not_true, Bool.false_eq_true, if_false]
    by_cases hb : b = true ∧ b2 = true
    · obtain ⟨hb1, hb2⟩ := hb
      have hs := f2.1 hb1
      have hh := g2.1 hb2
      have hx : hopOk a0 ⟨a1, a2⟩ := ⟨hs, hh⟩
      obtain ⟨f, r1, r2, r3⟩ := s_rFrom hn e1 hs hh
      have ht := s_tbl hn (x := ⟨a1, a2⟩) hs
      have htm : tblV a0 ⟨a1, a2⟩ ∈ a0.Tables := by
        have q1 := hn.topo.sw
        obtain ⟨q2, q3, _⟩ := hs
        have hll := hn.len
        obtain ⟨t, y1, y2, _⟩ := idx_some (l := a0.Tables) (i := a1.Switch - 1) (by omega) (by omega)
        unfold tblV
        rw [y1]
        exact y2
      have hto : idx a0.Tables (wr (a1.Switch - 1)) = some (tblV a0 ⟨a1, a2⟩) := ht.1
      obtain ⟨j, o1, o2⟩ := s_Out2 ht.2 (tab_rules (net_tabs e1 hn _ htm)) a1 hh
      subst hb1 hb2
      simp only [Bool.not_true, Bool.not_false, gd_true, Option.bind_some, Bool.or_self, Bool.false_eq_true, if_false, hto, o1, decide_true, if_true, r1, r2]
      rcases o2 with ⟨q1, q2⟩ | ⟨r, j0, jr, rO, z, tz, q2⟩
      · refine ⟨0, 5, ⟨0, 0⟩, 0, f, rfl, ?_, by rw [q2]; rfl, rfl, r3⟩
        rcases q1 with hj | ⟨r, j0, jr, rO⟩
        · simp [hj, gd]
        · have : ¬ j < 0 := by omega
          simp [this, gd, jr, rO]
      · have hj : ¬ j < 0 := by omega
        exact ⟨0, 0, ⟨a1.Switch, r.Out⟩, z, f, rfl, by simp [hj, gd, jr, rO, tz], by rw [q2]; rfl, rfl, r3⟩
    · have hbb : (!b || !b2) = true := by
        cases b <;> cases b2 <;> simp at hb ⊢
      have hr : (gd (!(!b)) default (some b2)).bind (fun r18 => if (!b || !r18) = true then some (1 : Int) else some 0) = some 1 := by
        cases b <;> cases b2 <;> simp [gd] at hbb ⊢
      refine ⟨1, 1, ⟨0, 0⟩, 0, fate0, by rw [if_pos hbb], by simp, ?_, ?_, by simp⟩
      · rw [hr]; simp
      · rw [hr]; simp
  obtain ⟨v36, v42, p, x, fa, k1, k2, k3, k4, k5⟩ := hfrom
  have k2' := k2
  rw [k1]
  simp only [Option.bind_some]
  rw [k2]
  simp only [Option.bind_some, k3, k4, decide_true, s_Fate fa k5]
  rw [h1]
  simp only [Option.bind_some, h2, decide_true, s_Fate fe h3, Bool.and_self]
end Go.Proofs.YtpjadjoekdcjiaaDoor.Ty
