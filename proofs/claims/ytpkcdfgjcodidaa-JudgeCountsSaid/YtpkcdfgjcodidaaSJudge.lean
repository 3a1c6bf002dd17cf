/- JudgeCounts, as it is read: no memory in sight. -/
import Derived.Test.YtpkcdfgjcodidaaSSend
namespace Go.Proofs.Ytpkcdfgjcodidaa.Ty
open Go Go.RowKit Go.Proofs.Ytpkcdfgjcodidaa.Den
set_option linter.unusedSimpArgs false
set_option linter.unusedVariables false
set_option maxRecDepth 100000

theorem sum_set : ∀ (l : List Int) (i : Nat) (v : Int), i < l.length → (l.set i v).sum = l.sum - l.getD i 0 + v
  | [], i, v, h => by simp at h
  | x :: l, 0, v, h => by simp; omega
  | x :: l, i + 1, v, h => by
    have := sum_set l i v (by simpa using h)
    simp only [List.set_cons_succ, List.sum_cons, List.getD_cons_succ, this]; omega
theorem le_sum : ∀ (l : List Int), (∀ x ∈ l, 0 ≤ x) → ∀ i, i < l.length → 0 ≤ l.getD i 0 ∧ l.getD i 0 ≤ l.sum
  | [], _, i, h => by simp at h
  | x :: l, hp, 0, h => by
    have h0 := hp x (by simp)
    have : 0 ≤ l.sum := by
      clear h h0
      induction l with
      | nil => simp
      | cons y l ih =>
        have := hp y (by simp)
        have := ih (fun z hz => hp z (by simp at hz ⊢; rcases hz with h | h <;> simp [h]))
        simp only [List.sum_cons]; omega
    simp; omega
  | x :: l, hp, i + 1, h => by
    have h0 := hp x (by simp)
    have := le_sum l (fun y hy => hp y (by simp [hy])) i (by simpa using h)
    simp only [List.getD_cons_succ, List.sum_cons]; omega
/-- how many hops are over links -/
def overs : List T_Fate → Int
  | [] => 0
  | f :: l => ((f.Hops.length - 1 : Nat) : Int) + overs l
theorem overs_app : ∀ (l m : List T_Fate), overs (l ++ m) = overs l + overs m
  | [], m => by simp [overs]
  | f :: l, m => by simp only [List.cons_append, overs, overs_app l m]; omega
theorem overs_le : ∀ (l : List T_Fate), (∀ f ∈ l, f.Hops.length ≤ 24) → 0 ≤ overs l ∧ overs l ≤ 24 * (l.length : Int)
  | [], _ => by simp [overs]
  | f :: l, h => by
    have := overs_le l fun g hg => h g (by simp [hg])
    have := h f (by simp)
    simp only [overs, List.length_cons]; omega
/-- a list of counts -/
structure Cnt (k : Nat) (m : Int) (s : List Int) : Prop where
  len : s.length = k
  pos : ∀ x ∈ s, 0 ≤ x
  sum : s.sum = m
theorem cnt_step {k : Nat} {m : Int} {s : List Int} (h : Cnt k m s) (hm : m ≤ 100000) {i : Nat} (hi : i < k) : Cnt k (m + 1) (s.set i (wr (s.getD i 0 + 1))) := by
  have h1 := le_sum s h.pos i (by rw [h.len]; exact hi)
  rw [h.sum] at h1
  rw [wr_id (by omega) (by omega)]
  refine ⟨by rw [List.length_set, h.len], fun x hx => ?_, by rw [sum_set s i _ (by rw [h.len]; exact hi), h.sum]; omega⟩
  rcases List.mem_or_eq_of_mem_set hx with h2 | h2
  · exact h.pos x h2
  · omega
theorem s_IndexLink (l : List T_Link) (hl : (l.length : Int) ≤ maxI) (y : T_Hop) (hy : ∃ x ∈ l, x.A = y.At ∨ x.B = y.At) : ∃ i : Nat, t_slices_IndexFunc_api_Link_api_Link l (fun (a62 : T_Link) => t_judge_Count_1 a62 y) = some (i : Int) ∧ i < l.length := by
  unfold t_slices_IndexFunc_api_Link_api_Link
  simp only [join_eq]
  have : ∃ i : Int, loopI l (fun (i13 : Int) x14 (s9 : Unit) k10 => (t_judge_Count_1 x14 y).bind fun r22 => if r22 = true then (some i13) else (k10 ())) (fun _ => some (-1 : Int)) () = some i ∧ (0 ≤ i ∧ i < l.length) := by
    refine loopI_ex (fun i m _ => 0 ≤ i ∧ i + m.length = l.length ∧ ∃ x ∈ m, x.A = y.At ∨ x.B = y.At) hl ⟨Int.le_refl _, by omega, hy⟩ (fun i s hI => ?_) (fun i x m s k hI hk => ?_)
    · obtain ⟨_, _, x, hx, _⟩ := hI
      simp at hx
    · obtain ⟨h1, h2, z, hz, hz2⟩ := hI
      simp only [List.length_cons] at h2
      unfold t_judge_Count_1
      simp only [Option.bind_some]
      split
      · exact ⟨i, rfl, h1, by omega⟩
      · rename_i hn
        refine hk () ⟨by omega, by omega, z, ?_, hz2⟩
        rcases List.mem_cons.1 hz with rfl | hz
        · exact absurd (by simpa [Bool.or_eq_true] using hz2) hn
        · exact hz
  obtain ⟨i, h1, h2, h3⟩ := this
  exact ⟨i.toNat, by rw [h1]; congr 1; omega, by omega⟩
theorem s_Count (T : T_Topo) (hT : T.Links.length ≤ 200) (l : List T_Fate) (hl : l.length ≤ 200) (hg : ∀ f ∈ l, f.Hops.length ≤ 24 ∧ 1 ≤ f.Hops.length ∧ ∀ y ∈ f.Hops.drop 1, ∃ x ∈ T.Links, x.A = y.At ∨ x.B = y.At) :
    ∃ c, t_judge_Count T l = some c ∧ Cnt T.Links.length (overs l) c := by
  have hM : maxI = 9223372036854775807 := rfl
  unfold t_judge_Count
  have ho : omake (List.length T.Links : Int) (List.length T.Links : Int) 0 = some (List.replicate T.Links.length (0 : Int)) := by
    unfold omake
    rw [if_pos ⟨rfl, by omega, by omega⟩]; simp
  rw [ho]
  simp only [Option.bind_some]
  rw [bind_some_id]
  refine loopI_ex (Q := fun c => Cnt T.Links.length (overs l) c) (fun i m s => (∀ f ∈ m, f ∈ l) ∧ m.length ≤ 200 ∧ ∃ p, l = p ++ m ∧ Cnt T.Links.length (overs p) s) (by omega) ⟨fun _ h => h, hl, [], rfl, by simp, by simp, by simp [overs]⟩ (fun i s hI => ?_) (fun i f m s k hI hk => ?_)
  · obtain ⟨_, _, p, hp, hc⟩ := hI
    rw [List.append_nil] at hp
    exact ⟨s, rfl, by rw [hp]; exact hc⟩
  · obtain ⟨h1, h2, p, hp, hc⟩ := hI
    obtain ⟨g1, g2, g3⟩ := hg f (h1 f (by simp))
    have hs : slc_lo f.Hops (min 1 (List.length f.Hops : Int)) = some (f.Hops.drop 1) := by
      unfold slc_lo
      have : min 1 (f.Hops.length : Int) = 1 := by omega
      rw [this, if_pos ⟨by decide, by omega⟩]; rfl
    rw [hs]
    simp only [Option.bind_some]
    have hpl : p.length ≤ 200 := by have := congrArg List.length hp; simp at this; omega
    have hpo := overs_le p fun g hgm => (hg g (by rw [hp]; simp [hgm])).1
    have inner : ∃ v, (loopI (f.Hops.drop 1) (fun (i52 : Int) x53 (s48 : (List Int)) k49 =>
        (t_slices_IndexFunc_api_Link_api_Link T.Links (fun (a62 : T_Link) => t_judge_Count_1 a62 x53)).bind fun r64 =>
        (if (decide (0 ≤ r64)) = true then (need (decide (0 ≤ r64) && decide (r64 < (List.length s48 : Int))) ((idx s48 r64).bind fun r76 => need (decide (0 ≤ r64) && decide (r64 < (List.length s48 : Int))) ((oset s48 r64 (wr (r76 + 1))).bind fun r82 => some (r82)))) else (some (s48))).bind fun (s68 : (List Int)) => k49 (s68)) (fun (s48 : (List Int)) => some (s48)) (s)) = some v ∧ Cnt T.Links.length (overs p + ((f.Hops.length - 1 : Nat) : Int)) v := by
      refine loopI_ex (Q := fun v => Cnt T.Links.length (overs p + ((f.Hops.length - 1 : Nat) : Int)) v) (fun i m s => (∀ y ∈ m, y ∈ f.Hops.drop 1) ∧ m.length ≤ f.Hops.length - 1 ∧ Cnt T.Links.length (overs p + ((f.Hops.length - 1 - m.length : Nat) : Int)) s) (by simp; omega) ⟨fun _ h => h, by simp, by simpa using hc⟩ (fun i s hI => ?_) (fun i y m s k hI hk => ?_)
      · obtain ⟨_, _, h5⟩ := hI
        exact ⟨s, rfl, by simpa using h5⟩
      · obtain ⟨q1, q2, q3⟩ := hI
        simp only [List.length_cons] at q2 q3
        obtain ⟨j, e1, e2⟩ := s_IndexLink T.Links (by omega) y (g3 y (q1 y (by simp)))
        rw [e1]
        simp only [Option.bind_some]
        have hj : j < s.length := by rw [q3.len]; exact e2
        rw [if_pos (by simp), need_pos (by simp; omega), idx_nat, List.getElem?_eq_getElem hj]
        simp only [Option.bind_some]
        have ho2 : ∀ v, oset s (j : Int) v = some (s.set j v) := fun v => if_pos ⟨by omega, by omega⟩
        rw [need_pos (by simp; omega), ho2]
        simp only [Option.bind_some]
        have hst := cnt_step q3 (by omega) (i := j) e2
        have hgd : s.getD j 0 = s[j] := by simp [List.getD, hj]
        rw [hgd] at hst
        refine hk _ ⟨fun z hz => q1 z (by simp [hz]), by omega, ?_⟩
        have e9 : overs p + ((f.Hops.length - 1 - m.length : Nat) : Int) = overs p + ((f.Hops.length - 1 - (m.length + 1) : Nat) : Int) + 1 := by omega
        rw [e9]; exact hst
    obtain ⟨v, hv, hcv⟩ := inner
    rw [hv]
    simp only [Option.bind_some]
    refine hk v ⟨fun g hgm => h1 g (by simp [hgm]), by simp at h2; omega, p ++ [f], by rw [hp]; simp, ?_⟩
    rw [overs_app]
    simpa [overs] using hcv
theorem s_anyLong (l : List T_Fate) (hl : (l.length : Int) ≤ maxI) (h : ∀ f ∈ l, f.Hops.length ≤ 24) : t_slices_ContainsFunc_api_Fate_api_Fate l (fun (a12 : T_Fate) => t_judge_Links_1 a12) = some false := by
  unfold t_slices_ContainsFunc_api_Fate_api_Fate t_slices_IndexFunc_api_Fate_api_Fate
  simp only [join_eq]
  have : ∃ i, loopI l (fun (i13 : Int) x14 (s9 : Unit) k10 => (t_judge_Links_1 x14).bind fun r22 => if r22 = true then (some i13) else (k10 ())) (fun _ => some (-1 : Int)) () = some i ∧ i = -1 := by
    refine loopI_ex (fun i m _ => ∀ f ∈ m, f ∈ l) hl (fun _ h => h) (fun i s hI => ⟨_, rfl, rfl⟩) (fun i x m s k hI hk => ?_)
    have := h x (hI x (by simp))
    unfold t_judge_Links_1
    simp only [Option.bind_some]
    rw [if_neg (by simp; omega)]
    exact hk () fun f hf => hI f (by simp [hf])
  obtain ⟨i, h1, rfl⟩ := this
  rw [h1]
  rfl
def T2 : T_Topo := ⟨2, [⟨⟨1, 2⟩, ⟨2, 1⟩⟩], [⟨ByteArray.mk #[97], ⟨1, 3⟩⟩, ⟨ByteArray.mk #[98], ⟨2, 4⟩⟩]⟩
theorem line_2 : t_raillaw4_line 2 = some T2 := by kernel_rfl
theorem fact_2 : t_judge_Links T2 ([(T_Fate.mk 3 (ByteArray.mk #[]) ([(T_Hop.mk ⟨1, 3⟩ 0), (T_Hop.mk (T_Spot.mk 2 1) 0)] : (List T_Hop)))] : (List T_Fate)) = some ([1], 0) := by kernel_rfl
theorem walk_JudgeCounts (a0 : T_Net) (a1 : List Int) (u0 : a0.wf maxLen) (u1 : wL maxLen (fun x => wi64 x) a1) : t_raillaw4_JudgeCounts a0 a1 = some true := by
  have hM : maxI = 9223372036854775807 := rfl
  have hML : maxLen = 9223372036854775807 := rfl
  have hn : ∀ h ∈ a0.Topo.Hosts, (h.Name.size : Int) ≤ maxI := fun h hh => by
    have := (u0.1.2.2.2 h hh).1
    unfold wS at this; omega
  have hlH : a0.Topo.Hosts.length ≤ maxLen := u0.1.2.2.1
  unfold t_raillaw4_JudgeCounts
  rw [line_2]
  simp only [Option.bind_some]
  rw [show idx T2.Hosts 0 = some ⟨ByteArray.mk #[97], ⟨1, 3⟩⟩ from rfl]
  simp only [Option.bind_some]
  rw [fact_2]
  simp only [Option.bind_some]
  have e7 : decide (((List.length [(1 : Int)] : Nat) : Int) ≠ 1) = false := rfl
  have e8 : decide ((1 : Int) ≠ 1) = false := rfl
  simp only [decide_true, Bool.not_true, Bool.false_or, e7, e8, Bool.not_false, gd_true, show idx [(1 : Int)] 0 = some 1 from rfl, Option.bind_some, Bool.or_self, Bool.false_eq_true, if_false]
  -- what was sent
  have sent : ∃ v : List T_Fate × Int, loopI a1 (fun (i115 : Int) x116 (s111 : ((List T_Fate) × Int)) k112 =>
      if ((decide (i115 < 20)) && (decide (0 < (List.length a0.Topo.Hosts : Int)))) = true then (
      need (decide ((List.length a0.Topo.Hosts : Int) ≠ 0)) (
      (idx a0.Topo.Hosts (Int.tmod i115 (List.length a0.Topo.Hosts : Int))).bind fun r147 =>
      (t_net_Send a0 r147.Name x116).bind fun r153 =>
      (if (decide (r153.2 = 0)) = true then (
      (app s111.1 ([r153.1] : (List T_Fate))).bind fun r168 =>
      some (r168, (wr ((wr (s111.2 + (List.length r153.1.Hops : Int))) - 1)))) else (
      some (s111.1, s111.2))).bind fun (s160 : ((List T_Fate) × Int)) =>
      k112 (s160.1, s160.2))) else (
      some (s111.1, s111.2))) (fun (s111 : ((List T_Fate) × Int)) =>
      some (s111.1, s111.2)) ([], 0) = some v ∧ (∀ f ∈ v.1, Sent a0 f) ∧ v.1.length ≤ 20 ∧ v.2 = overs v.1 := by
    refine loopI_ex (Q := fun v : List T_Fate × Int => (∀ f ∈ v.1, Sent a0 f) ∧ v.1.length ≤ 20 ∧ v.2 = overs v.1) (fun i m (s : List T_Fate × Int) => 0 ≤ i ∧ (∀ f ∈ s.1, Sent a0 f) ∧ (s.1.length : Int) ≤ i ∧ s.1.length ≤ 20 ∧ s.2 = overs s.1) (by have := u1.1; omega) ⟨Int.le_refl _, by simp, by simp, by simp, rfl⟩ (fun i s hI => ⟨s, rfl, hI.2.1, hI.2.2.2.1, hI.2.2.2.2⟩) (fun i x m s k hI hk => ?_)
    obtain ⟨h0, h1, h2, h3, h4⟩ := hI
    by_cases hc : i < 20 ∧ 0 < (a0.Topo.Hosts.length : Int)
    · rw [if_pos (by simpa using hc), need_pos (by simp only [ne_eq, decide_eq_true_eq]; omega)]
      have hmod : 0 ≤ Int.tmod i (a0.Topo.Hosts.length : Int) ∧ Int.tmod i (a0.Topo.Hosts.length : Int) < a0.Topo.Hosts.length := ⟨Int.tmod_nonneg _ h0, Int.tmod_lt_of_pos _ hc.2⟩
      obtain ⟨z, hz, _, _⟩ := idx_some (l := a0.Topo.Hosts) hmod.1 hmod.2
      rw [hz]
      simp only [Option.bind_some]
      obtain ⟨r, hr, hr2⟩ := s_SendG a0 hn z.Name x
      rw [hr]
      simp only [Option.bind_some]
      by_cases he : r.2 = 0
      · have hS := hr2 he
        have ho := overs_le s.1 fun f hf => (h1 f hf).len.2
        have hsl := hS.len
        rw [if_pos (by simpa using he), app_eq (by simp; omega)]
        simp only [Option.bind_some]
        refine hk _ ⟨by omega, fun f hf => ?_, by simp; omega, by simp; omega, ?_⟩
        · rcases List.mem_append.1 hf with h | h
          · exact h1 f h
          · simp only [List.mem_singleton] at h; subst h; exact hS
        · show wr (wr (s.2 + (r.1.Hops.length : Int)) - 1) = overs (s.1 ++ [r.1])
          rw [overs_app, h4]
          simp only [overs, Int.add_zero]
          rw [wr_id (x := overs s.1 + (r.1.Hops.length : Int)) (by omega) (by omega), wr_id (by omega) (by omega)]
          omega
      · rw [if_neg (by simpa using he)]
        simp only [Option.bind_some]
        exact hk _ ⟨by omega, h1, by show (s.1.length : Int) ≤ i + 1; omega, h3, h4⟩
    · rw [if_neg (by simpa using hc)]
      exact ⟨s, rfl, h1, h3, h4⟩
  obtain ⟨v, hv, hv1, hv2, hv3⟩ := sent
  rw [hv]
  simp only [Option.bind_some]
  obtain ⟨c, e1, e2⟩ := s_topoCheck a0.Topo hn
  unfold t_judge_Links
  rw [e1]
  simp only [Option.bind_some]
  by_cases hc : c = 0
  · subst hc
    have hg := e2 rfl
    have hany := s_anyLong v.1 (by omega) fun f hf => (hv1 f hf).len.2
    obtain ⟨cs, k1, k2⟩ := s_Count a0.Topo hg.nl v.1 (by omega) fun f hf => ⟨(hv1 f hf).len.2, (hv1 f hf).len.1, (hv1 f hf).over⟩
    have hov := overs_le v.1 fun f hf => (hv1 f hf).len.2
    have hcs := k2.len
    have hnl := hg.nl
    have hb : decide (200 < (v.1.length : Int)) = false := by simp; omega
    simp only [decide_true, Bool.not_true, Bool.false_eq_true, if_false, hb, Bool.not_false, gd_true, hany, Option.bind_some, Bool.or_self, k1]
    have hsum : ∃ t, loopI cs (fun (i94 : Int) x95 (s90 : Int) k91 => k91 (wr (s90 + x95))) (fun (s90 : Int) => some (s90)) (0) = some t ∧ t = cs.sum := by
      refine loopI_ex (fun i m s => ∃ p, cs = p ++ m ∧ s = p.sum ∧ (∀ x ∈ p, 0 ≤ x)) (by omega) ⟨[], rfl, rfl, by simp⟩ (fun i s hI => ?_) (fun i x m s k hI hk => ?_)
      · obtain ⟨p, h1, h2, _⟩ := hI
        exact ⟨s, rfl, by rw [h2, h1, List.append_nil]⟩
      · obtain ⟨p, h1, h2, h3⟩ := hI
        have hpos := k2.pos
        have hs := k2.sum
        have nn : ∀ l : List Int, (∀ x ∈ l, 0 ≤ x) → 0 ≤ l.sum := by
          intro l
          induction l with
          | nil => simp
          | cons y l ih =>
            intro h
            have := h y (by simp)
            have := ih fun z hz => h z (by simp [hz])
            simp only [List.sum_cons]; omega
        have hp0 := nn p h3
        have hm0 := nn m fun y hy => hpos y (by rw [h1]; simp [hy])
        have hx0 := hpos x (by rw [h1]; simp)
        have he : cs.sum = p.sum + (x + m.sum) := by rw [h1, List.sum_append, List.sum_cons]
        rw [wr_id (by omega) (by omega)]
        refine hk _ ⟨p ++ [x], by rw [h1]; simp, by rw [h2, List.sum_append]; simp, fun y hy => ?_⟩
        rcases List.mem_append.1 hy with h | h
        · exact h3 y h
        · simp only [List.mem_singleton] at h; subst h; exact hx0
    obtain ⟨t, ht, ht2⟩ := hsum
    rw [ht]
    simp [ht2, k2.sum, hv3, hcs]
  · have h9 : (!decide (c = 0)) = true := by simp [hc]
    simp only [h9, if_true, Option.bind_some, hc, decide_false, Bool.not_false]
end Go.Proofs.Ytpkcdfgjcodidaa.Ty
