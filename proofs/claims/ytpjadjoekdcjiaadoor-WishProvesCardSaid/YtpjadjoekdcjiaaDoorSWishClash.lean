/- What two laws of wishes come to. -/
import Derived.Test.YtpjadjoekdcjiaaDoorSWish
namespace Go.Proofs.YtpjadjoekdcjiaaDoor.Ty
open Go Go.RowKit Go.Proofs.YtpjadjoekdcjiaaDoor.Den
set_option linter.unusedSimpArgs false
set_option linter.unusedVariables false
set_option maxRecDepth 100000

theorem s_Error (x y : Int) : t_railsame_Error x y = some (decide (x = y)) := rfl
theorem walk_WishClash (a0 : T_Net) (a1 a2 : ByteArray) (u0 : a0.wf maxLen) (_ : a1.size ≤ maxLen) (_ : a2.size ≤ maxLen) : t_raillaw4_WishClash a0 a1 a2 = some true := by
  have hM : maxI = 9223372036854775807 := rfl
  have hnm : ∀ h ∈ a0.Topo.Hosts, (h.Name.size : Int) ≤ maxI := fun h hh => by
    have h1 : h.Name.size ≤ maxLen := (u0.1.2.2.2 h hh).1
    unfold maxLen at h1
    omega
  unfold t_raillaw4_WishClash
  rw [s_Fits _ _ _ (by simp), s_Fits _ _ _ (by simp)]
  have f1 : fitV ⟨1, a1, a2, 0⟩ a1 ⟨1, a2, []⟩ = true := by simp [fitV]
  have f2 : fitV ⟨2, a1, a2, 0⟩ a1 ⟨1, a2, []⟩ = false := by simp [fitV]
  rw [f1, f2]
  simp only [gd, Bool.not_true, Bool.not_false, if_true, Option.bind_some, Bool.or_self, Bool.false_eq_true, if_false]
  obtain ⟨r1, e1, k1⟩ := s_Holds a0 hnm [⟨1, a1, a2, 0⟩]
  obtain ⟨r2, e2, k2⟩ := s_Holds a0 hnm [⟨2, a1, a2, 0⟩]
  rw [e1, e2]
  simp only [Option.bind_some]
  have hno : ¬ (decide (r1.2 = 0) && decide (r2.2 = 0)) = true := by
    intro h
    simp only [Bool.and_eq_true, decide_eq_true_eq] at h
    obtain ⟨h1, h2⟩ := h
    rcases k1 with ⟨q, _⟩ | ⟨hg, hc, hf, ⟨q, _⟩ | ⟨_, k1⟩⟩
    · exact q h1
    · rw [h1] at q; cases q
    rcases k2 with ⟨q, _⟩ | ⟨_, _, _, ⟨q, _⟩ | ⟨_, k2⟩⟩
    · exact q h2
    · rw [h2] at q; cases q
    obtain ⟨x, hx, hx2⟩ := hf _ (List.mem_singleton.2 rfl) (by show (1 : Int) ≠ 4; decide)
    have g1 := k1 _ (List.mem_singleton.2 rfl) x hx (.inr hx2) 0 (by decide)
    have g2 := k2 _ (List.mem_singleton.2 rfl) x hx (.inr hx2) 0 (by decide)
    simp only at hx2
    simp [fitV, hx2] at g1 g2
    exact g2.elim (fun h => h g1.1) fun h => h g1.2
  rw [if_neg hno]
  obtain ⟨w, e3, k3, _⟩ := s_WhereT hnm a1
  rw [e3]
  simp only [Option.bind_some]
  by_cases hw : w.2 = 0
  rotate_left
  · rw [if_pos (by simp [hw])]
  rw [if_neg (by simp [hw])]
  obtain ⟨hct, x0, hx0, hxn, hxa⟩ := k3 hw
  obtain ⟨r3, e4, k4⟩ := s_Holds a0 hnm [⟨3, a1, a2, w.1.Switch⟩]
  rw [e4]
  simp only [Option.bind_some, s_Error]
  rcases k4 with ⟨q1, q2⟩ | ⟨hg, hc, hf, ⟨q, hb⟩ | ⟨q, _⟩⟩
  · simp [gd, q1, q2]
  · exfalso
    obtain ⟨i, w3, x, h, b1, b2, b3, b4, b5, _⟩ := hb.ex
    have hw3 : w3 = ⟨3, a1, a2, w.1.Switch⟩ := by
      have := List.mem_of_getElem? b1
      simpa using this
    subst hw3
    have hxn2 : x.Name = a1 := b3.resolve_left (by show ¬ (3 : Int) = 4; decide)
    have hxx : x = x0 := nodup_eq (host_names hnm hct) x b2 x0 hx0 (by rw [hxn2, hxn])
    subst hxx
    obtain ⟨_, _, m, hm⟩ := s_fateV hg b2 b4
    simp [fitV, hxn2, hm, hxa] at b5
  · simp [gd, q]
/-- one host, no rule -/
def oneW : T_Net := T_Net.mk (T_Topo.mk 1 [] ([(T_Host.mk (ByteArray.mk #[97]) (T_Spot.mk 1 2))] : (List T_Host))) ([[]] : (List (List T_Rule)))
def hostA : T_Host := T_Host.mk (ByteArray.mk #[97]) (T_Spot.mk 1 2)
def wishA : T_Wish := T_Wish.mk 1 (ByteArray.mk #[97]) (ByteArray.mk #[97]) 0
theorem one_names : ∀ h ∈ oneW.Topo.Hosts, (h.Name.size : Int) ≤ maxI := by
  intro h hh
  simp [oneW] at hh
  subst hh
  decide
theorem one_chk : t_net_Check oneW = some 0 := by kernel_rfl
theorem one_wish : t_wish_Check oneW.Topo [wishA] = some 0 := by kernel_rfl
theorem one_good : netGood oneW := by
  obtain ⟨c, h1, h2⟩ := s_netCheck oneW one_names
  rw [one_chk] at h1
  exact h2 (Option.some.inj h1).symm
theorem one_kd : kd oneW ⟨⟨1, 2⟩, 0⟩ = (2, noT, default) := by kernel_rfl
theorem one_of : t_net_Of oneW ⟨1, 2⟩ 0 = some ⟨2, noT, [⟨⟨1, 2⟩, 0⟩]⟩ := by
  have hI : InvW oneW ([] ++ [⟨⟨1, 2⟩, 0⟩]) := ⟨fun i a b _ hb => by simp at hb, by simp, fun y hy => by simp at hy; subst hy; exact ⟨by unfold spotOk; decide, by decide⟩, by simp⟩
  have := run_det one_good (q := []) (z := ⟨⟨1, 2⟩, 0⟩) hI (by rw [one_kd]; decide) [] [] ⟨⟨1, 2⟩, 0⟩ bigN rfl (Nat.lt_trans (by decide) bigN_gt)
  rw [s_Of, this, one_kd]
  rfl
theorem one_seek : t_wish_Seek oneW.Topo [wishA] (fun a21 a22 => t_wish_Holds_1 a21 a22 oneW) = some (⟨0, ByteArray.mk #[97], 0⟩, true) := by
  have hM : maxI = 9223372036854775807 := rfl
  unfold t_wish_Seek
  simp only [join_eq]
  rw [loopI_eq (by simp; omega)]
  simp only [goI]
  show loopI [hostA] _ _ _ = _
  rw [loopI_eq (by simp; omega)]
  simp only [goI]
  rw [if_neg (by simp [wishA, hostA]), loopU_eq (by omega) (by omega), show ((16 : Int) - 0).toNat = 15 + 1 from rfl, goU]
  have hg : t_wish_Holds_1 hostA 0 oneW = some [⟨2, noT, [⟨⟨1, 2⟩, 0⟩]⟩] := by
    unfold t_wish_Holds_1
    show (t_net_Of oneW ⟨1, 2⟩ 0).bind _ = _
    rw [one_of]
    rfl
  rw [hg]
  simp only [Option.bind_some]
  rw [s_anyFate _ wishA hostA (by simp; omega)]
  have hf : fitV wishA hostA.Name ⟨2, noT, [⟨⟨1, 2⟩, 0⟩]⟩ = false := by simp [fitV, wishA, hostA]
  rw [hf]
  rfl
theorem one_holds : t_wish_Holds oneW [wishA] = some (⟨0, ByteArray.mk #[97], 0⟩, 9) := by
  unfold t_wish_Holds
  rw [one_chk]
  simp only [Option.bind_some, decide_true, Bool.not_true, Bool.false_eq_true, if_false]
  rw [one_wish]
  simp only [Option.bind_some, decide_true, Bool.not_true, Bool.false_eq_true, if_false]
  rw [one_seek]
  rfl
theorem s_SendT {n : T_Net} (hn : ∀ h ∈ n.Topo.Hosts, (h.Name.size : Int) ≤ maxI) (hg : netGood n) (hc : t_net_Check n = some 0) (nm : ByteArray) (h : Int) : ∃ r, t_net_Send n nm h = some r ∧ (r.2 = 0 → ∃ x ∈ n.Topo.Hosts, x.Name = nm ∧ (0 ≤ h ∧ h < 16) ∧ r.1 = fateV n x h) ∧ ((∃ x ∈ n.Topo.Hosts, x.Name = nm) → (0 ≤ h ∧ h < 16) → r.2 = 0) := by
  unfold t_net_Send
  rw [hc]
  simp only [Option.bind_some, decide_true, Bool.not_true, Bool.false_eq_true, if_false]
  obtain ⟨w, e1, e2, e3⟩ := s_WhereT hn nm
  rw [e1]
  simp only [Option.bind_some]
  by_cases hw : w.2 = 0
  · rw [if_neg (by simp [hw])]
    obtain ⟨_, x, hx, hxn, hxa⟩ := e2 hw
    obtain ⟨b, f1, f2⟩ := s_Header h
    rw [f1]
    simp only [Option.bind_some]
    cases hb : b with
    | false => exact ⟨_, rfl, fun h => (by cases h), fun _ h => by rw [f2.2 h] at hb; cases hb⟩
    | true =>
      have hh := f2.1 hb
      obtain ⟨k1, _, _⟩ := s_fateV hg hx hh
      rw [hxa, k1]
      exact ⟨_, rfl, fun _ => ⟨x, hx, hxn, hh, rfl⟩, fun _ _ => rfl⟩
  · rw [if_pos (by simp [hw])]
    exact ⟨_, rfl, fun h => absurd h hw, fun hx _ => e3 hg.chk hx⟩
theorem walk_WishProves (a0 : T_Net) (a1 : List T_Wish) (a2 : ByteArray) (a3 : Int) (u0 : a0.wf maxLen) (u1 : wL maxLen (fun x => T_Wish.wf maxLen x) a1) (_ : a2.size ≤ maxLen) (_ : wi64 a3) : t_raillaw1_WishProves a0 a1 a2 a3 = some true := by
  have hM : maxI = 9223372036854775807 := rfl
  have hnm : ∀ h ∈ a0.Topo.Hosts, (h.Name.size : Int) ≤ maxI := fun h hh => by
    have h1 : h.Name.size ≤ maxLen := (u0.1.2.2.2 h hh).1
    unfold maxLen at h1
    omega
  have hla : (a1.length : Int) ≤ maxI := by
    have h1 : a1.length ≤ maxLen := u1.1
    unfold maxLen at h1
    omega
  unfold t_raillaw1_WishProves
  have hone := one_holds
  unfold oneW wishA at hone
  rw [hone]
  clear hone
  simp only [Option.bind_some, s_Error, decide_true, Bool.not_true, Bool.or_self, Bool.false_eq_true, if_false, ne_eq, not_true_eq_false, decide_false]
  obtain ⟨r, e1, k1⟩ := s_Holds a0 hnm a1
  rw [e1]
  simp only [Option.bind_some]
  rcases k1 with ⟨q1, q2⟩ | ⟨hg, hc, hf, ⟨q, hb⟩ | ⟨q, hfit⟩⟩
  · simp [q1, q2]
  · obtain ⟨i, w, x, h, b1, b2, b3, b4, b5, b6⟩ := hb.ex
    obtain ⟨s, f1, f2, f3⟩ := s_SendT hnm hg hc x.Name h
    have hs := f3 ⟨x, b2, rfl⟩ b4
    obtain ⟨y, hy, hyn, _, hsf⟩ := f2 hs
    have hyx : y = x := nodup_eq (host_names hnm hg.chk) y hy x b2 hyn
    subst hyx
    obtain ⟨_, hlen, _⟩ := s_fateV hg b2 b4
    have hi : idx a1 (i : Int) = some w := by rw [idx_nat, b1]
    have hlt := (List.getElem?_eq_some_iff.1 b1).1
    rw [q, b6]
    simp only [decide_true, Bool.not_true, Bool.false_eq_true, if_false, f1, Option.bind_some, hs, show decide ((9 : Int) = 0) = false from rfl, Bool.not_false, if_true]
    have h0 : decide (0 ≤ (i : Int)) = true := decide_eq_true (by omega)
    have h2 : decide ((i : Int) < (a1.length : Int)) = true := decide_eq_true (by omega)
    rw [h0, h2]
    simp only [Bool.and_self, Bool.true_and, gd_true, hi, Option.bind_some]
    rw [s_Fits _ _ _ (by rw [hsf]; omega), hsf, b5]
    rfl
  · rw [if_neg (by simp [q])]
    obtain ⟨s, f1, f2, _⟩ := s_SendT hnm hg hc a2 a3
    rw [f1]
    simp only [Option.bind_some, join_eq]
    have : ∃ v, loopI a1 (fun (i130 : Int) x131 (s126 : Unit) k127 =>
      if (decide (s.2 = 0)) = true then (
      (t_wish_Fits x131 a2 s.1).bind fun r146 =>
      if (!r146) = true then (
      some false) else (
      k127 ())) else some true) (fun (s126 : Unit) => some true) () = some v ∧ v = true := by
      refine loopI_ex (fun _ m _ => ∀ w ∈ m, w ∈ a1) hla (fun _ h => h) (fun i s hI => ⟨_, rfl, rfl⟩) (fun i w m u k hI hk => ?_)
      by_cases hs : s.2 = 0
      · obtain ⟨x, hx, hxn, hh, hsf⟩ := f2 hs
        obtain ⟨_, hlen, _⟩ := s_fateV hg hx hh
        rw [if_pos (by simpa using hs), s_Fits _ _ _ (by rw [hsf]; omega), hsf]
        have ht : fitV w a2 (fateV a0 x a3) = true := by
          by_cases ha : asks w x
          · rw [← hxn]
            exact hfit w (hI w (by simp)) x hx ha a3 hh
          · unfold asks at ha
            simp only [not_or] at ha
            unfold fitV
            rw [if_neg ha.1, if_pos (by rw [← hxn]; exact ha.2)]
        rw [ht]
        simp only [Option.bind_some, Bool.not_true, Bool.false_eq_true, if_false]
        exact hk () fun w' hw' => hI w' (by simp [hw'])
      · rw [if_neg (by simpa using hs)]
        exact ⟨_, rfl, rfl⟩
    obtain ⟨v, e2, rfl⟩ := this
    exact e2
end Go.Proofs.YtpjadjoekdcjiaaDoor.Ty
