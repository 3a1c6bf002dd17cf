/- TopWire: a round that is said, as bytes, cut anywhere, and heard by agents. -/
import Derived.Test.YtgkohnjpnnofhaaGreatSTopWire
import Derived.Test.YtgkohnjpnnofhaaGreatSTopOne
import Derived.Test.YtgkohnjpnnofhaaGreatTyD
namespace Go.Proofs.YtgkohnjpnnofhaaGreat.Ty
set_option linter.unusedSimpArgs false
set_option linter.unusedVariables false
open Go Go.RowKit Go.Proofs.YtgkohnjpnnofhaaGreat.Den
set_option maxRecDepth 100000
theorem t_TopWire (a0 : T_Net) (a1 : List T_Op) (a2 : Int) (hn : ∀ h ∈ a0.Topo.Hosts, (h.Name.size : Int) ≤ maxI) : t_railtop_TopWire a0 a1 a2 = some true := by
 unfold t_railtop_TopWire
 rw [one_ok, oS_, if_neg (by simp)]
 obtain ⟨c, hc1, hc2, hA⟩ := s_ApplyN a0 a1 hn
 rw [hA, oS_]
 by_cases hc : c = 0
 rotate_left
 ·rw [if_pos hc, if_pos (by simp [hc])]
 have hk := hc2.1 hc
 rw [if_neg (show ¬ c ≠ 0 by simpa using hc)]
 by_cases hl2 : 200 < a1.length
 ·rw [if_pos hl2, if_pos (by simp)]
 rw [if_neg hl2]
 by_cases he : (appL a1 a0).2 = 0
 rotate_left
 ·rw [if_pos (by simp [he])]
 by_cases h40 : 40 < (a1.length : Int)
 ·rw [if_pos (by simp; omega)]
 rw [if_neg (by simp [he]; omega)]
 have hops := appL_ops a1 hk he
 have hsw := hk.sw
 have hlen := hk.len
 have hR : roundsF [a1] 5 = 0 := roundsF_ok (by omega) fun o ho => ⟨by have := (hops o ho).1; omega, (hops o ho).2⟩
 rw [s_New, if_pos hR, oS_]
 simp only [caseO]
 rw [if_neg (by simp)]
 have hN := s_Next (l := [a1]) (w := 5) (t := 0) (i := 0) (ops := a1) rfl (by simp) (by omega)
 rw [show (T_drive_Drive.mk [a1] 5 0 [] 0) = ⟨[a1], 5, ((0 : Nat) : Int), [], 0⟩ from rfl, hN, oS_, if_neg (by simp)]
 simp only []
 -- who is told, and what
 have hnd : (setOf (a1.map (·.Switch))).Nodup := (setOf_strict _).imp fun h => Int.ne_of_lt h
 have hmem : ∀ x, x ∈ setOf (a1.map (·.Switch)) ↔ ∃ o ∈ a1, o.Switch = x := fun x => by rw [setOf_mem, List.mem_map]
 have hin : ∀ x ∈ setOf (a1.map (·.Switch)), 1 ≤ x ∧ x ≤ a0.Topo.Switches := fun x hx => by
  obtain ⟨o, ho, rfl⟩ := (hmem x).1 hx
  exact (hops o ho).1
 have hll : (setOf (a1.map (·.Switch))).length ≤ 40 := by
  have := setOf_len (a1.map (·.Switch)); rw [List.length_map] at this; omega
 generalize setOf (a1.map (·.Switch)) = left at hnd hmem hin hll
 have hLl : (sayL a1 ((0 : Nat) : Int) left).length ≤ 1640 := by
  have h1 := sayL_len a1 ((0 : Nat) : Int) left
  have h2 : left.length * (a1.length + 1) ≤ 40 * 41 := Nat.mul_le_mul hll (by omega)
  omega
 have hok : ∀ s, 1 ≤ s → s ≤ a0.Topo.Switches → ∀ o ∈ opsOf s a1, o.Switch = s ∧ o.Rule.chk = 0 := fun s _ _ o ho => by
  obtain ⟨h1, h2⟩ := List.mem_filter.1 ho
  exact ⟨by simpa using h2, (hops o h1).2⟩
 have hql : ∀ s, (opsOf s a1).length ≤ 200 := fun s => by have := opsOf_len s a1; omega
 have hLc : ∀ m ∈ sayL a1 ((0 : Nat) : Int) left, m.chk = 0 := fun m hm => by
  obtain ⟨s, hs, hm⟩ := List.mem_flatMap.1 hm
  have h1 := hin s hs
  have hm : m ∈ msgs s (opsOf s a1) := hm
  obtain ⟨j, hj⟩ := List.getElem?_of_mem hm
  rcases msgs_at hj with ⟨o, hjo, rfl⟩ | ⟨rfl, rfl⟩
  ·have hjl := (gS_ hjo).1
   exact msg1_chk (by omega) (by have := hql s; omega) (hok s h1.1 h1.2 o (List.mem_of_getElem? hjo))
  ·exact msg2_chk (by omega) (hql s)
 have hfil := fun s => say_filter a1 s left hnd
 generalize sayL a1 ((0 : Nat) : Int) left = L at hLl hLc hfil
 rw [join_eq, loopI_eq (by unfold maxI; omega)]
 show goI _ _ ((([] : List T_Msg).length : Nat) : Int) L (cat []) = some true
 refine (bytes_go hLc (by omega) (fun i x s k => rfl) L [] rfl).trans ?_
 simp only []
 -- cut anywhere
 have hz := cat_size' L hLc
 obtain ⟨c, hcl, hcut⟩ : ∃ c : Nat, c ≤ (cat L).size ∧ (if ((decide (a2 < 0)) || (decide (((cat L).size : Int) < a2))) = true then some (0 : Int) else some a2) = some (c : Int) := by
  by_cases h : ((decide (a2 < 0)) || (decide (((cat L).size : Int) < a2))) = true
  ·exact ⟨0, Nat.zero_le _, by rw [if_pos h]; rfl⟩
  ·rw [if_neg h]
   simp only [Bool.or_eq_true, decide_eq_true_eq, not_or] at h
   exact ⟨a2.toNat, by omega, by rw [Int.toNat_of_nonneg (by omega)]⟩
 rw [hcut, oS_]
 obtain ⟨n, rest, hw1, hw2, hrs⟩ := cat_cuts hLc hcl
 have hs1 : ((cat L).extract 0 c).size ≤ 10000000 := by rw [ByteArray.size_extract]; omega
 have hs2 : ((cat L).extract c (cat L).size).size ≤ (cat L).size := by rw [ByteArray.size_extract]; omega
 rw [sslc_hi_eq (by omega) (by omega), oS_, Int.toNat_natCast, cutV_ok hw1 hs1, oS_, sslc_lo_eq (by omega) (by omega), oS_, Int.toNat_natCast]
 simp only []
 rw [need_pos (decide_eq_true (by unfold maxI; omega)), cutV_ok hw2 (by rw [ByteArray.size_append]; omega), oS_]
 have hlen2 : (L.take n).length + (L.drop n).length = L.length := by rw [← List.length_append, List.take_append_drop]
 have hwr : wr (((L.take n).length : Int) + ((L.drop n).length : Int)) = (L.length : Int) := by rw [wr_id (by omega) (by omega)]; omega
 simp only [hwr, decide_true, Bool.not_true, Bool.or_false, Bool.or_self, ne_eq, not_true_eq_false, decide_false, oS_, Bool.false_eq_true, if_false]
 rw [oapp_any (by omega), oS_, List.take_append_drop]
 rw [join_eq, loopU_eq (by omega) (by unfold maxI; omega)]
 -- switch by switch
 obtain ⟨K, hK⟩ : ∃ K : Nat, a0.Topo.Switches = (K : Int) := ⟨a0.Topo.Switches.toNat, by omega⟩
 have e0 : (T_drive_Drive.mk [a1] 5 (((0 : Nat) : Int) + 1) left 0) = drS a1 left 1 := by
  unfold drS
  rw [List.filter_eq_self.2 (fun x hx => by have := (hin x hx).1; simpa using this)]; rfl
 rw [e0, show (a0.Topo.Switches + 1 - 1).toNat = K by omega]
 show goU _ _ K ((1 : Nat) : Int) _ = _
 refine (goU_from (drS a1 left) (lo := 1) (hi := K + 1) (fun p k hp1 hp2 => ?_) K 1 (Nat.le_refl _) (by omega)).trans ?_
 rotate_left
 ·have e1 : (left.filter fun x => decide (((K + 1 : Nat) : Int) ≤ x)) = [] := by
   rw [List.filter_eq_nil_iff]
   intro x hx
   have := (hin x hx).2
   simp; omega
  simp only []
  show (t_drive_Drive_Done (drS a1 left (K + 1))).bind _ = _
  unfold t_drive_Drive_Done drS
  rw [e1]; rfl
 obtain ⟨t1, t2⟩ := tabAt_mem (s := a0) hlen (x := (p : Int)) (by omega) (by omega)
 have ht := hk.tabs _ t1
 have hkw := appL_ok a1 hk he
 obtain ⟨_, w2⟩ := tabAt_mem (s := (appL a1 a0).1) hkw.1.len (x := (p : Int)) (by omega) (by rw [hkw.2]; omega)
 obtain ⟨v1, v2⟩ := appL_at a1 hk he (p : Int) (by omega) (by omega)
 have hwp : wr ((p : Int) - 1) = (p : Int) - 1 := wr_id (by omega) (by omega)
 have hp6 : 1 ≤ (p : Int) ∧ (p : Int) ≤ 6 := by omega
 rw [join_eq, hwp, t2, oS_, s_NewA hp6 ht, oS_]
 simp only [caseO]
 rw [if_neg (by simp), join_eq]
 generalize hq : opsOf (p : Int) a1 = q at v1 v2
 have hqok : ∀ o ∈ q, o.Switch = (p : Int) ∧ o.Rule.chk = 0 := by rw [← hq]; exact hok _ (by omega) (by omega)
 have hq2 : q.length ≤ 200 := by rw [← hq]; exact hql _
 have hfp := hfil (p : Int)
 rw [hq] at hfp
 -- what it hears
 have hS : ∀ (m : Nat) (x : T_Msg), L[m]? = some x → x.Switch = (p : Int) → t_agent_Agent_Hear (hst (p : Int) (tabAt a0 p) q ((L.take m).filter fun y => decide (y.Switch = (p : Int))).length) x = some ([], 0, hst (p : Int) (tabAt a0 p) q ((L.take (m + 1)).filter fun y => decide (y.Switch = (p : Int))).length) := fun m x hx hxp => by
  have h1 := filter_at (P := fun y : T_Msg => decide (y.Switch = (p : Int))) hx (by simpa using hxp)
  rw [hfp] at h1
  have h2 : (msgs (p : Int) q)[((L.take m).filter fun y => decide (y.Switch = (p : Int))).length]? = some x := by
   by_cases hpl : (p : Int) ∈ left
   ·rw [if_pos hpl] at h1; exact h1
   ·rw [if_neg hpl] at h1; simp at h1
  have h3 := hear_one (tb := tabAt a0 p) hp6 hq2 hqok h2
  rw [filter_take hx, if_pos (by simpa using hxp), List.length_append, List.length_singleton]
  exact h3
 rw [loopI_at (fun m => (hst (p : Int) (tabAt a0 p) q ((L.take m).filter fun y => decide (y.Switch = (p : Int))).length, decide (0 < ((L.take m).filter fun y => decide (y.Switch = (p : Int))).length))) (s := ((⟨(p : Int), tabAt a0 (p : Int), List.replicate 20 ⟨[], -1, false⟩, []⟩ : T_agent_Agent), false)) rfl (by unfold maxI; omega) (fun m x k2 hx => ?_)]
 rotate_left
 ·have hml := (gS_ hx).1
  rw [need_pos (by simp; omega), idx_nat, hx, oS_, join_eq]
  by_cases hxp : x.Switch = (p : Int)
  ·rw [if_pos (by simpa using hxp), need_pos (by simp; omega), oS_, hS m x hx hxp, oS_, if_neg (by simp)]
   have e : decide (0 < ((L.take (m + 1)).filter fun y => decide (y.Switch = (p : Int))).length) = true := by
    rw [filter_take hx, if_pos (by simpa using hxp)]; simp
   rw [e]
  ·rw [if_neg (by simpa using hxp)]
   have e : ((L.take (m + 1)).filter fun y => decide (y.Switch = (p : Int))) = (L.take m).filter fun y => decide (y.Switch = (p : Int)) := by
    rw [filter_take hx, if_neg (by simpa using hxp), List.append_nil]
   rw [e]
 rw [List.take_length, hfp]
 simp only []
 rw [join_eq]
 have hidx : ∀ m : T_Msg, idx [m] 0 = some m := fun _ => rfl
 have htok := allV_tok ht v1
 have h12 := htok.len
 rw [List.length_map] at h12
 have hcl2 : cln (allV (tabAt a0 (p : Int)) q).1 = some (allV (tabAt a0 (p : Int)) q).1 := by unfold cln; rw [if_pos (by omega)]
 by_cases hpl : (p : Int) ∈ left
 ·rw [if_pos hpl, msgs_len]
  have eh : hst (p : Int) (tabAt a0 (p : Int)) q (q.length + 1) = agZ (p : Int) (tabAt a0 (p : Int)) q.length (numd q) := by
   unfold hst; rw [if_neg (by omega)]
  rw [if_pos (by simp), eh, s_WorkZ ht hq2 (numd_all q) v1, oS_]
  simp only [decide_true, Bool.not_true, Bool.false_or, List.length_singleton, ne_eq, Int.ofNat_one, not_true_eq_false, decide_false, Bool.not_false, gd_true, hidx, oS_]
  rw [drS_hear hnd hpl (by omega) hp6, oS_, if_neg (by simp)]
  simp only []
  rw [show t_agent_Agent_Table (T_agent_Agent.mk (p : Int) (allV (tabAt a0 (p : Int)) q).1 (rdz ⟨numd q, q.length, true⟩) [0]) = cln (allV (tabAt a0 (p : Int)) q).1 from rfl, hcl2, oS_, w2, oS_, v2, s_Tab _ (by omega), oS_, if_neg (by simp)]
 ·rw [if_neg hpl]
  have eq0 : q = [] := by
   rw [← hq]
   refine List.filter_eq_nil_iff.2 fun o ho => ?_
   intro h
   exact hpl ((hmem _).2 ⟨o, ho, by simpa using h⟩)
  subst eq0
  have ed : drS a1 left (p + 1) = drS a1 left p := by
   unfold drS
   congr 1
   refine List.filter_congr fun x hx => ?_
   have hne : x ≠ (p : Int) := fun e => hpl (e ▸ hx)
   rw [Bool.eq_iff_iff]
   simp
   omega
  rw [if_neg (by simp)]
  simp only []
  have hcl3 : cln (tabAt a0 (p : Int)) = some (tabAt a0 (p : Int)) := hcl2
  rw [show t_agent_Agent_Table (hst (p : Int) (tabAt a0 (p : Int)) [] ([] : List T_Msg).length) = cln (tabAt a0 (p : Int)) from rfl, hcl3, oS_, w2, oS_, v2, show (allV (tabAt a0 (p : Int)) []).1 = tabAt a0 (p : Int) from rfl, s_Tab (tabAt a0 (p : Int)) (Nat.le_trans h12 (by decide)), oS_, if_neg (by simp), ed]
theorem walk_TopWire (a0 : T_Net) (a1 : List T_Op) (a2 : Int) (u0 : a0.wf maxLen) (u1 : wL maxLen (fun x => x.wf maxLen) a1) (u2 : wi64 a2) : t_railtop_TopWire a0 a1 a2 = some true := by
 refine t_TopWire a0 a1 a2 fun h hh => ?_
 have hM : maxI = 9223372036854775807 := rfl
 have h1 : h.Name.size ≤ maxLen := (u0.1.2.2.2 h hh).1
 unfold maxLen at h1
 omega
end Go.Proofs.YtgkohnjpnnofhaaGreat.Ty
