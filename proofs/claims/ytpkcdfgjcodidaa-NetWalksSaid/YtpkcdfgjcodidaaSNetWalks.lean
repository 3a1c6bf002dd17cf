/- NetWalks, as it is read: no memory in sight. -/
import Derived.Test.YtpkcdfgjcodidaaSWalk
namespace Go.Proofs.Ytpkcdfgjcodidaa.Ty
open Go Go.RowKit Go.Proofs.Ytpkcdfgjcodidaa.Den
set_option linter.unusedSimpArgs false
set_option linter.unusedVariables false
set_option maxRecDepth 100000

def oneN : T_Net := T_Net.mk (T_Topo.mk 1 [] ([(T_Host.mk (ByteArray.mk #[97]) (T_Spot.mk 1 2))] : (List T_Host))) ([([(T_Rule.mk 1 (T_Cube.mk 0 0) 2 0 0)] : (List T_Rule))] : (List (List T_Rule)))
theorem one_names : ∀ h ∈ oneN.Topo.Hosts, (h.Name.size : Int) ≤ maxI := by
  intro h hh
  simp [oneN] at hh
  subst hh
  decide
theorem one_chk : t_net_Check oneN = some 0 := by kernel_rfl
theorem one_good : netGood oneN := by
  obtain ⟨c, h1, h2⟩ := s_netCheck oneN one_names
  rw [one_chk] at h1
  exact h2 (Option.some.inj h1).symm
theorem one_where : t_topo_Where oneN.Topo (ByteArray.mk #[97]) = some (⟨1, 2⟩, 0) := by kernel_rfl
theorem one_kd : kd oneN ⟨⟨1, 2⟩, 5⟩ = (1, ByteArray.mk #[97], default) := by kernel_rfl
theorem one_send : t_net_Send oneN (ByteArray.mk #[97]) 5 = some (⟨1, ByteArray.mk #[97], [⟨⟨1, 2⟩, 5⟩]⟩, 0) := by
  have hI : InvW oneN ([] ++ [⟨⟨1, 2⟩, 5⟩]) := ⟨fun i a b _ hb => by simp at hb, by simp, fun y hy => by simp at hy; subst hy; exact ⟨by unfold spotOk; decide, by decide⟩, by simp⟩
  have := run_det one_good (q := []) (z := ⟨⟨1, 2⟩, 5⟩) hI (by rw [one_kd]; decide) [] [] ⟨⟨1, 2⟩, 5⟩ bigN rfl (Nat.lt_trans (by decide) bigN_gt)
  unfold t_net_Send
  rw [one_chk]
  simp only [Option.bind_some, decide_true, Bool.not_true, Bool.false_eq_true, if_false]
  rw [one_where]
  simp only [Option.bind_some, decide_true, Bool.not_true, Bool.false_eq_true, if_false]
  rw [show t_cube_Header 5 = some true from rfl, s_Of, this, one_kd]
  rfl
/-- what is known of a step of a walk -/
theorem s_Step {n : T_Net} (hn : netGood n) (hc : t_net_Check n = some 0) (hnm : ∀ h ∈ n.Topo.Hosts, (h.Name.size : Int) ≤ maxI) {x : T_Hop} (hx : hopOk n x) :
    t_net_Step n x.At x.Header = some (if (outV (tblV n x) x.At x.Header).2.2 = true then ((outV (tblV n x) x.At x.Header).1, (outV (tblV n x) x.At x.Header).2.1, 0) else (⟨0, 0⟩, 0, 5)) := by
  obtain ⟨c, e1, _, e3⟩ := s_ready n hnm x.At x.Header
  have hc0 := e3 hc hx.at_ hx.hd.1 hx.hd.2
  subst hc0
  unfold t_net_Step
  rw [e1]
  simp only [Option.bind_some, decide_true, Bool.not_true, Bool.false_eq_true, if_false]
  rw [(s_tbl hn hx.at_).1]
  simp only [Option.bind_some]
  rw [(s_out hn hx).1]
  simp only [Option.bind_some]
  cases (outV (tblV n x) x.At x.Header).2.2 <;> rfl
theorem s_Peer {n : T_Net} (hn : netGood n) {s : T_Spot} (hs : spotOk n.Topo s) : t_topo_Peer n.Topo s = some (if (otherV n.Topo s).2 = true then ((otherV n.Topo s).1, 0) else (⟨0, 0⟩, 5)) := by
  obtain ⟨b, f1, f2⟩ := s_Spot n.Topo s
  unfold t_topo_Peer t_topo_ready
  rw [hn.chk, f1]
  simp only [Option.bind_some, decide_true, Bool.not_true, Bool.false_eq_true, if_false]
  rw [f2.2 hs]
  simp only [Bool.not_true, Bool.false_eq_true, if_false, Option.bind_some, decide_true]
  rw [(s_other hn s).1]
  simp only [Option.bind_some]
  cases (otherV n.Topo s).2 <;> rfl
/-- where it goes on, the step is to the next one -/
theorem kd_next {n : T_Net} (hn : netGood n) {x : T_Hop} (hx : hopOk n x) (h : (kd n x).1 = 0) : (outV (tblV n x) x.At x.Header).2.2 = true ∧ (otherV n.Topo (outV (tblV n x) x.At x.Header).1).2 = true ∧ (kd n x).2.2 = ⟨(otherV n.Topo (outV (tblV n x) x.At x.Header).1).1, (outV (tblV n x) x.At x.Header).2.1⟩ := by
  unfold kd at h ⊢
  split at h
  · rename_i h1
    split at h
    · cases h
    · rename_i h2
      split at h
      · rename_i h3
        rw [if_pos h1, if_neg h2, if_pos h3]
        exact ⟨h1, h3, rfl⟩
      · cases h
  · cases h
theorem kd_drop {n : T_Net} {x : T_Hop} : (kd n x).1 = 2 ↔ (outV (tblV n x) x.At x.Header).2.2 = false := by
  unfold kd
  split
  · rename_i h1
    rw [h1]
    split
    · simp
    · split <;> simp
  · rename_i h1
    simp at h1
    simp [h1]
theorem walk_NetWalks (a0 : T_Net) (a1 : T_Spot) (a2 a3 : Int) (u0 : a0.wf maxLen) (u1 : a1.wf maxLen) (u2 : wi64 a2) (u3 : wi64 a3) : t_raillaw1_NetWalks a0 a1 a2 a3 = some true := by
  have hnm : ∀ h ∈ a0.Topo.Hosts, (h.Name.size : Int) ≤ maxI := fun h hh => by
    have h1 : h.Name.size ≤ maxLen := (u0.1.2.2.2 h hh).1
    have : maxI = 9223372036854775807 := rfl
    unfold maxLen at h1
    omega
  unfold t_raillaw1_NetWalks
  have hone := one_send
  unfold oneN at hone
  rw [hone]
  clear hone
  simp only [Option.bind_some]
  rw [if_neg (by decide)]
  obtain ⟨r, e1, e2⟩ := s_From a0 hnm a1 a2
  rw [e1]
  simp only [Option.bind_some]
  by_cases hr : r.2 = 0
  rotate_left
  · rw [if_pos (by simp [hr])]
  rw [if_neg (by simp [hr])]
  obtain ⟨hn, hc, hs, hh, q, z, m, hF, hm⟩ := e2 hr
  clear e1 e2
  obtain ⟨f, r2⟩ := r
  obtain ⟨How, Host, Hops⟩ := f
  simp only at hF hr
  have hhops : Hops = q ++ [z] := hF.hops
  have hinv := hF.inv
  have hends := hF.ends
  simp only at hends
  rw [← hhops] at hinv hm
  have hlen := hinv.len
  have hpos : 1 ≤ Hops.length := by rw [hm]; simp
  have h0 : idx Hops 0 = some ⟨a1, a2⟩ := by rw [hm]; rfl
  have c1 : decide ((List.length Hops : Int) < 1) = false := by simp; omega
  have c2 : decide (24 < (List.length Hops : Int)) = false := by simp; omega
  simp only [c1, c2, Bool.or_self, Bool.not_false, gd_true, h0, Option.bind_some, decide_true, Bool.not_true, Bool.or_false]
  have hz := hinv.ok z (by rw [hhops]; simp)
  obtain ⟨k0, k1, k2⟩ := kd_ok hn hz
  have hhost : decide (How = 1) = !decide (Host = ByteArray.mk #[]) := by
    rcases hends with ⟨g1, g2, g3⟩ | ⟨g1, g2, g3⟩
    · by_cases h : (kd a0 z).1 = 1
      · rw [if_pos h] at g3
        rw [g2, g3, h]
        simp [k1 h]
      · rw [if_neg h] at g3
        rw [g2, g3]
        simp [h]
    · rw [g2, g3]; simp
  rw [if_neg (by rw [hhost]; simp)]
  -- the end
  have tail : (if (((decide (a3 < 0)) || (decide ((List.length Hops : Int) ≤ a3))) || (decide (How = 4))) = true then (some true) else (
      (idx Hops a3).bind fun r173 => (idx Hops a3).bind fun r178 => (t_net_From a0 r173.At r178.Header).bind fun r182 =>
      some ((((decide (r182.2 = 0)) && (decide (r182.1.How = How))) && (decide (r182.1.Host = Host))) && (decide ((List.length r182.1.Hops : Int) = (wr ((List.length Hops : Int) - a3))))))) = some true := by
    split
    · rfl
    · rename_i hcut
      simp only [Bool.or_eq_true, decide_eq_true_eq, not_or, Int.not_lt, Int.not_le] at hcut
      obtain ⟨⟨g1, g2⟩, g3⟩ := hcut
      obtain ⟨x, hx, hxm, hxa⟩ := idx_some g1 g2
      rw [hx]
      simp only [Option.bind_some]
      have hxo := hinv.ok x hxm
      obtain ⟨e1, e2, e3⟩ := hends.resolve_right fun h => g3 h.2.1
      -- what is left of the walk
      have hd : Hops.drop a3.toNat = x :: Hops.drop (a3.toNat + 1) := by
        have hlt := (List.getElem?_eq_some_iff.1 hxa).1
        rw [List.drop_eq_getElem_cons hlt]
        congr 1
        exact (List.getElem?_eq_some_iff.1 hxa).2
      obtain ⟨q2, hq2⟩ : ∃ q2, Hops.drop a3.toNat = q2 ++ [z] := by
        refine ⟨q.drop a3.toNat, ?_⟩
        have hlt := (List.getElem?_eq_some_iff.1 hxa).1
        rw [hhops, List.length_append, List.length_singleton] at hlt
        rw [hhops, List.drop_append_of_le_length (by omega)]
      have hI2 : InvW a0 (q2 ++ [z]) := by
        rw [← hq2]
        refine ⟨fun i a b ha hb => ?_, hinv.nodup.sublist (List.drop_sublist _ _), fun y hy => hinv.ok y (List.mem_of_mem_drop hy), by simp; omega⟩
        rw [List.getElem?_drop] at ha hb
        exact hinv.walk (a3.toNat + i) a b ha (by rw [Nat.add_assoc]; exact hb)
      have hrun := run_det hn hI2 e1 (Hops.drop (a3.toNat + 1)) [] x bigN (by rw [← hq2, hd]; rfl) (Nat.lt_trans (by simp; omega) bigN_gt)
      have hfrom : t_net_From a0 x.At x.Header = some (⟨(kd a0 z).1, if (kd a0 z).1 = 1 then (kd a0 z).2.1 else noT, q2 ++ [z]⟩, 0) := by
        obtain ⟨c, d1, _, d3⟩ := s_ready a0 hnm x.At x.Header
        have := d3 hc hxo.at_ hxo.hd.1 hxo.hd.2
        subst this
        unfold t_net_From
        rw [d1, s_Of]
        simp only [Option.bind_some, decide_true, Bool.not_true, Bool.false_eq_true, if_false]
        rw [hrun]
        rfl
      rw [hfrom]
      simp only [Option.bind_some, decide_true, Bool.true_and]
      have hl2 : ((q2 ++ [z]).length : Int) = wr ((List.length Hops : Int) - a3) := by
        rw [wr_id (by omega) (by omega), ← hq2, List.length_drop]
        omega
      rw [e2, ← e3, hl2]
      simp
  rw [tail]
  simp only [join_eq]
  have key : ∃ v, loopI Hops (fun (i247 : Int) x248 (s243 : Unit) k244 =>
      loopU 0 i247 (fun (i365 : Int) (s361 : Unit) k362 => (idx Hops i365).bind fun r374 => if (decide (r374 = x248)) = true then (some false) else (k362 ()))
        (fun (i365 : Int) (s361 : Unit) => (t_net_Step a0 x248.At x248.Header).bind fun r276 =>
          if (decide (i247 = (wr ((List.length Hops : Int) - 1)))) = true then (
          if ((!decide (r276.2.2 = 0)) != (decide (How = 2))) = true then (some false) else (some true)) else (
          (t_topo_Peer a0.Topo r276.1).bind fun r294 =>
          (gd (!((!decide (r276.2.2 = 0)) || (!decide (r294.2 = 0)))) default (idx Hops (i247 + 1))).bind fun r318 =>
          (gd (!(((!decide (r276.2.2 = 0)) || (!decide (r294.2 = 0))) || (!decide (r318.At = r294.1)))) default (idx Hops (i247 + 1))).bind fun r345 =>
          if ((((!decide (r276.2.2 = 0)) || (!decide (r294.2 = 0))) || (!decide (r318.At = r294.1))) || (decide (r345.Header ≠ r276.2.1))) = true then (some false) else (k244 ()))) ()) (fun (s243 : Unit) => some true) () = some v ∧ v = true := by
    refine loopI_ex (fun i l _ => ∃ pre, Hops = pre ++ l ∧ i = (pre.length : Int)) (by omega) ⟨[], rfl, rfl⟩ (fun i s _ => ⟨_, rfl, rfl⟩) (fun i x l s k hI hk => ?_)
    obtain ⟨pre, hp, rfl⟩ := hI
    have hxo := hinv.ok x (by rw [hp]; simp)
    have hpl : pre.length + 1 + l.length = Hops.length := by rw [hp]; simp; omega
    rw [loopU_eq (Int.le_refl _) (by have : maxI = 9223372036854775807 := rfl; omega)]
    refine goU_ex (I := fun m j _ => 0 ≤ j ∧ j + m = pre.length) (fun j _ hj => ?_) (fun m j _ k2 hj hk2 => ?_) _ _ _ ⟨Int.le_refl _, by omega⟩
    · rw [s_Step hn hc hnm hxo]
      simp only [Option.bind_some]
      rw [wr_id (by omega) (by omega)]
      by_cases hlast : (pre.length : Int) = (List.length Hops : Int) - 1
      · have hl0 : l = [] := List.eq_nil_of_length_eq_zero (by omega)
        subst hl0
        have hxz : x = z := by
          rw [hhops] at hp
          have := (List.append_inj' hp rfl).2
          simpa using this.symm
        subst hxz
        rw [if_pos (by simpa using hlast)]
        cases ho : (outV (tblV a0 x) x.At x.Header).2.2 with
        | true =>
          have hnd : ¬ (kd a0 x).1 = 2 := fun h => by rw [kd_drop, ho] at h; cases h
          have : ¬ How = 2 := fun h => by
            rcases hends with ⟨_, g2, _⟩ | ⟨_, g2, _⟩
            · exact hnd (by rw [← g2]; exact h)
            · rw [g2] at h; cases h
          exact ⟨true, by simp [this], rfl⟩
        | false =>
          have hd2 : (kd a0 x).1 = 2 := kd_drop.2 ho
          have : How = 2 := by
            rcases hends with ⟨_, g2, _⟩ | ⟨g1, _, _⟩
            · rw [g2, hd2]
            · rw [hd2] at g1; cases g1
          exact ⟨true, by simp [this], rfl⟩
      · rw [if_neg (by simpa using hlast)]
        obtain ⟨y, l', rfl⟩ : ∃ y l', l = y :: l' := by
          cases l with
          | nil => simp at hpl; omega
          | cons y l' => exact ⟨y, l', rfl⟩
        obtain ⟨w1, w2⟩ := hinv.walk pre.length x y (by rw [hp]; simp) (by rw [hp, List.getElem?_append_right (by omega)]; simp)
        obtain ⟨v1, v2, v3⟩ := kd_next hn hxo w1
        rw [w2] at v3
        rw [if_pos v1]
        simp only
        rw [s_Peer hn ((s_out hn hxo).2 v1).1]
        simp only [Option.bind_some]
        rw [if_pos v2]
        have hy : idx Hops ((pre.length : Int) + 1) = some y := by
          rw [show ((pre.length : Int) + 1) = ((pre.length + 1 : Nat) : Int) by omega, idx_nat, hp, List.getElem?_append_right (by omega)]
          simp
        simp only [hy, decide_true, Bool.not_true, Bool.or_self, Bool.not_false, gd_true, Option.bind_some]
        rw [v3]
        simp only [decide_true, Bool.not_true, Bool.or_self, Bool.not_false, gd_true, Option.bind_some, ne_eq, not_true_eq_false, decide_false, Bool.false_eq_true, if_false]
        exact hk () ⟨pre ++ [x], by rw [hp, v3]; simp, by simp⟩
    · obtain ⟨j0, j1⟩ := hj
      obtain ⟨y, hy, _, hya⟩ := idx_some (l := Hops) (i := j) j0 (by omega)
      rw [hy]
      simp only [Option.bind_some]
      have hne : y ≠ x := fun e => by
        subst e
        have hnd := hinv.nodup
        rw [hp, List.nodup_append] at hnd
        rw [hp, List.getElem?_append_left (by omega)] at hya
        exact hnd.2.2 y (List.mem_of_getElem? hya) y (by simp) rfl
      rw [if_neg (by simpa using hne)]
      exact hk2 () ⟨by omega, by omega⟩
  obtain ⟨v, e1, rfl⟩ := key
  exact e1
end Go.Proofs.Ytpkcdfgjcodidaa.Ty
