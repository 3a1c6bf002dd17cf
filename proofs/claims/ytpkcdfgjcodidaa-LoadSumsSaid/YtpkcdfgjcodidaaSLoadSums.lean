/- LoadSums, as it is read: no memory in sight. -/
import Derived.Test.YtpkcdfgjcodidaaSLoad
namespace Go.Proofs.Ytpkcdfgjcodidaa.Ty
open Go Go.RowKit Go.Proofs.Ytpkcdfgjcodidaa.Den
set_option linter.unusedSimpArgs false
set_option linter.unusedVariables false
set_option maxRecDepth 100000

theorem sum_set : ∀ (l : List Int) (i : Nat) (v : Int), i < l.length → (l.set i v).sum = l.sum - l.getD i 0 + v
  | [], i, v, h => by simp at h
  | x :: l, 0, v, h => by simp; omega
  | x :: l, i + 1, v, h => by
    have := sum_set l i v (by simpa using h)
    simp only [List.set_cons_succ, List.sum_cons, List.getD_cons_succ, this]; omega
theorem sum_nn : ∀ l : List Int, (∀ x ∈ l, 0 ≤ x) → 0 ≤ l.sum
  | [], _ => by simp
  | y :: l, h => by
    have := h y (by simp)
    have := sum_nn l fun z hz => h z (by simp [hz])
    simp only [List.sum_cons]; omega
/-- the sum of one block -/
def blk (s : List Int) (h b : Nat) : Int := ((s.drop (b * h)).take h).sum
theorem blk_set {s : List Int} {h q r : Nat} (hr : r < h) (hl : q * h + r < s.length) (v : Int) (b : Nat) : blk (s.set (q * h + r) v) h b = if b = q then blk s h b - s.getD (q * h + r) 0 + v else blk s h b := by
  unfold blk
  rw [List.drop_set]
  by_cases e : b = q
  · subst e
    rw [if_neg (by omega), if_pos rfl, List.take_set, sum_set _ _ _ (by simp; omega)]
    have e1 : b * h + r - b * h = r := by omega
    rw [e1]
    congr 2
    simp [List.getD, List.getElem?_take, hr]
  · rw [if_neg e]
    split
    · rfl
    · rename_i h1
      have hb : b < q := by
        rcases Nat.lt_or_ge b q with h2 | h2
        · exact h2
        · have h3 : (q + 1) * h ≤ b * h := Nat.mul_le_mul_right h (by omega)
          rw [Nat.add_mul] at h3; omega
      have h3 : (b + 1) * h ≤ q * h := Nat.mul_le_mul_right h hb
      rw [Nat.add_mul] at h3
      rw [List.take_set, List.set_eq_of_length_le (by simp; omega)]
def K (m b : Nat) (v : Int) : Prop := v ≤ 16 ∧ (m ≤ 16 * b → v ≤ 0) ∧ (16 * b ≤ m → v ≤ (m : Int) - 16 * (b : Int))
structure InvP (h m : Nat) (s : List Int) : Prop where
  len : s.length = h * h
  pos : ∀ x ∈ s, 0 ≤ x ∧ x ≤ (m : Int)
  blk : ∀ b, b < h → K m b (blk s h b)
theorem invP_keep {h m : Nat} {s : List Int} (hI : InvP h m s) : InvP h (m + 1) s := by
  refine ⟨hI.len, fun x hx => by have := hI.pos x hx; omega, fun b hb => ?_⟩
  obtain ⟨k1, k2, k3⟩ := hI.blk b hb
  refine ⟨k1, fun h => k2 (by omega), fun h => ?_⟩
  by_cases h9 : 16 * b ≤ m
  · have := k3 h9; omega
  · have := k2 (by omega); omega
theorem invP_step {h m : Nat} {s : List Int} (hI : InvP h m s) {r : Nat} (hr : r < h) (hq : m / 16 < h) : m / 16 * h + r < s.length ∧ InvP h (m + 1) (s.set (m / 16 * h + r) (s.getD (m / 16 * h + r) 0 + 1)) := by
  have hlt : m / 16 * h + r < s.length := by
    have h3 : (m / 16 + 1) * h ≤ h * h := Nat.mul_le_mul_right h hq
    rw [Nat.add_mul] at h3
    rw [hI.len]; omega
  refine ⟨hlt, by rw [List.length_set, hI.len], fun x hx => ?_, fun b hb => ?_⟩
  · rcases List.mem_or_eq_of_mem_set hx with h1 | h1
    · have := hI.pos x h1; omega
    · have := hI.pos (s.getD (m / 16 * h + r) 0) (by rw [List.getD, List.getElem?_eq_getElem hlt]; exact List.getElem_mem hlt)
      omega
  · have hk := (invP_keep hI).blk b hb
    rw [blk_set hr hlt]
    split
    · rename_i e
      obtain ⟨k1, k2, k3⟩ := hI.blk b hb
      have hm : 16 * (m / 16) ≤ m ∧ m < 16 * (m / 16) + 16 := by omega
      subst e
      have := k3 hm.1
      refine ⟨by omega, fun h => by omega, fun h => by omega⟩
    · exact hk
theorem s_Pairs {n : T_Net} (hn : netGood n) (hc : t_net_Check n = some 0) : ∃ p, t_load_Pairs n = some (p, 0) ∧ ∃ m, m ≤ 1000 ∧ InvP n.Topo.Hosts.length m p := by
  have hM : maxI = 9223372036854775807 := rfl
  have hnh := hn.topo.nh
  have hmul : n.Topo.Hosts.length * n.Topo.Hosts.length ≤ 64 := Nat.mul_le_mul hnh hnh
  unfold t_load_Pairs
  rw [hc, Option.bind_some, if_neg (by decide)]
  have e0 : (n.Topo.Hosts.length : Int) * (n.Topo.Hosts.length : Int) = ((n.Topo.Hosts.length * n.Topo.Hosts.length : Nat) : Int) := by simp
  have ew : wr ((n.Topo.Hosts.length : Int) * (n.Topo.Hosts.length : Int)) = ((n.Topo.Hosts.length * n.Topo.Hosts.length : Nat) : Int) := by
    rw [e0]; exact wr_id (by omega) (by omega)
  have ho : omake (wr ((n.Topo.Hosts.length : Int) * (n.Topo.Hosts.length : Int))) (wr ((n.Topo.Hosts.length : Int) * (n.Topo.Hosts.length : Int))) 0 = some (List.replicate (n.Topo.Hosts.length * n.Topo.Hosts.length) (0 : Int)) := by
    rw [ew]
    unfold omake
    rw [if_pos ⟨rfl, by omega, by omega⟩, Int.toNat_natCast]
  rw [ho, Option.bind_some, s_fates hn, Option.bind_some]
  have hlen := fatesV_len n
  have main : ∃ p, loopI (fatesV n) (fun (i29 : Int) x30 (s25 : (List Int)) k26 =>
      (t_slices_IndexFunc_api_Host_api_Host n.Topo.Hosts (fun (a38 : T_Host) => t_load_Pairs_1 a38 x30)).bind fun r40 =>
      (if (decide (0 ≤ r40)) = true then (
      need (decide (0 ≤ (wr ((wr ((wr (Int.tdiv i29 16)) * (List.length n.Topo.Hosts : Int))) + r40))) && decide ((wr ((wr ((wr (Int.tdiv i29 16)) * (List.length n.Topo.Hosts : Int))) + r40)) < (List.length s25 : Int))) (
      (idx s25 (wr ((wr ((wr (Int.tdiv i29 16)) * (List.length n.Topo.Hosts : Int))) + r40))).bind fun r56 =>
      need (decide (0 ≤ (wr ((wr ((wr (Int.tdiv i29 16)) * (List.length n.Topo.Hosts : Int))) + r40))) && decide ((wr ((wr ((wr (Int.tdiv i29 16)) * (List.length n.Topo.Hosts : Int))) + r40)) < (List.length s25 : Int))) (
      (oset s25 (wr ((wr ((wr (Int.tdiv i29 16)) * (List.length n.Topo.Hosts : Int))) + r40)) (wr (r56 + 1))).bind fun r62 =>
      some (r62)))) else (
      some (s25))).bind fun (s44 : (List Int)) =>
      k26 (s44)) (fun (s25 : (List Int)) =>
      some (s25)) (List.replicate (n.Topo.Hosts.length * n.Topo.Hosts.length) (0 : Int)) = some p ∧ ∃ m, m ≤ 1000 ∧ InvP n.Topo.Hosts.length m p := by
    refine loopI_ex (Q := fun p => ∃ m, m ≤ 1000 ∧ InvP n.Topo.Hosts.length m p) (fun i l s => ∃ m : Nat, i = (m : Int) ∧ m + l.length = 16 * n.Topo.Hosts.length ∧ InvP n.Topo.Hosts.length m s) (by omega) ⟨0, rfl, by omega, by simp, fun x hx => ?_, fun b hb => ?_⟩ (fun i s hI => ?_) (fun i f l s k hI hk => ?_)
    · have := (List.mem_replicate.1 hx).2; omega
    · have : blk (List.replicate (n.Topo.Hosts.length * n.Topo.Hosts.length) (0 : Int)) n.Topo.Hosts.length b = 0 := by
        unfold blk
        rw [List.drop_replicate, List.take_replicate]
        simp
      rw [this]
      exact ⟨by omega, fun _ => by omega, fun _ => by omega⟩
    · obtain ⟨m, _, hm, h⟩ := hI
      exact ⟨s, rfl, m, by simp at hm; omega, h⟩
    · obtain ⟨m, rfl, hm, hS⟩ := hI
      simp only [List.length_cons] at hm
      obtain ⟨r, e1, e2⟩ := s_IndexHost n.Topo.Hosts hnh (fun a38 => (decide (f.How = 1)) && (decide (a38.Name = f.Host))) (fun (a38 : T_Host) => t_load_Pairs_1 a38 f) (fun x => rfl)
      rw [e1, Option.bind_some]
      have e9 : (m : Int) + 1 = ((m + 1 : Nat) : Int) := by omega
      by_cases hr : r < 0
      · rw [if_neg (by simp; omega), Option.bind_some]
        exact hk s ⟨m + 1, e9, by omega, invP_keep hS⟩
      · obtain ⟨hr0, hr1⟩ := e2.resolve_left hr
        obtain ⟨r', rfl⟩ : ∃ r' : Nat, r = (r' : Int) := ⟨r.toNat, by omega⟩
        obtain ⟨h1, h2⟩ := invP_step hS (r := r') (by omega) (by omega)
        have hle := hS.len
        have et : Int.tdiv (m : Int) 16 = ((m / 16 : Nat) : Int) := by
          rw [Int.tdiv_eq_ediv_of_nonneg (by omega)]; omega
        have hmul2 : m / 16 * n.Topo.Hosts.length ≤ 64 := Nat.le_trans (Nat.mul_le_mul_right _ (by omega : m / 16 ≤ n.Topo.Hosts.length)) hmul
        have ei : wr ((wr ((wr (Int.tdiv (m : Int) 16)) * (n.Topo.Hosts.length : Int))) + (r' : Int)) = ((m / 16 * n.Topo.Hosts.length + r' : Nat) : Int) := by
          rw [et, wr_id (x := ((m / 16 : Nat) : Int)) (by omega) (by omega)]
          have e3 : ((m / 16 : Nat) : Int) * (n.Topo.Hosts.length : Int) = ((m / 16 * n.Topo.Hosts.length : Nat) : Int) := by simp
          rw [e3, wr_id (x := ((m / 16 * n.Topo.Hosts.length : Nat) : Int)) (by omega) (by omega), wr_id (by omega) (by omega)]
          omega
        generalize hj : m / 16 * n.Topo.Hosts.length + r' = j at h1 h2 ei
        have hg : s.getD j 0 = s[j] := by simp [List.getD, h1]
        have hp := hS.pos s[j] (List.getElem_mem h1)
        rw [hg] at h2
        rw [if_pos (by simp), ei, need_pos (by simp; omega), idx_nat, List.getElem?_eq_getElem h1, Option.bind_some, need_pos (by simp; omega), oset_eq' (by omega) (by omega), wr_id (by omega) (by omega), Option.bind_some, Option.bind_some]
        exact hk _ ⟨m + 1, e9, by omega, h2⟩
  obtain ⟨p, hp, hp2⟩ := main
  rw [hp]
  exact ⟨p, rfl, hp2⟩
/-! what is never used -/
def zc (c : List Int) : Nat := c.countP fun x => decide (x = 0)
theorem zc_le (c : List Int) : zc c ≤ c.length := List.countP_le_length
def zall : List (List Int) → Nat
  | [] => 0
  | c :: l => zc c + zall l
theorem never1 : ∀ (c : List Int) (i s : Int), 0 ≤ s → s + c.length ≤ 1000000 → goI (fun (i169 : Int) x170 (s165 : Int) k166 => (if (decide (x170 = 0)) = true then (some (wr (s165 + 1))) else (some (s165))).bind fun (s185 : Int) => k166 (s185)) (fun (s165 : Int) => some (s165)) i c s = some (s + (zc c : Int))
  | [], i, s, _, _ => by simp [goI, zc]
  | x :: c, i, s, h0, h => by
    simp only [List.length_cons] at h
    rw [goI]
    by_cases hx : x = 0
    · rw [if_pos (by simpa using hx), Option.bind_some, wr_id (by omega) (by omega)]
      refine (never1 c (i + 1) (s + 1) (by omega) (by omega)).trans ?_
      simp [zc, hx]; omega
    · rw [if_neg (by simpa using hx), Option.bind_some]
      refine (never1 c (i + 1) s h0 (by omega)).trans ?_
      simp [zc, hx]
theorem never2 : ∀ (r : List (List Int)) (i s : Int), (∀ c ∈ r, c.length ≤ 12) → 0 ≤ s → s + 12 * r.length ≤ 100000 → goI (fun (i145 : Int) x146 (s141 : Int) k142 =>
    ((loopI x146 (fun (i169 : Int) x170 (s165 : Int) k166 => (if (decide (x170 = 0)) = true then (some (wr (s165 + 1))) else (some (s165))).bind fun (s185 : Int) => k166 (s185)) (fun (s165 : Int) => some (s165)) (s141)).bind fun (s160 : Int) => some (s160)).bind fun (s154 : Int) => k142 (s154)) (fun (s141 : Int) => some (s141)) i r s = some (s + (zall r : Int))
  | [], i, s, _, _, _ => by simp [goI, zall]
  | c :: r, i, s, hc, h0, h => by
    have hM : maxI = 9223372036854775807 := rfl
    have hl := hc c (by simp)
    have hz := zc_le c
    simp only [List.length_cons] at h
    rw [goI, loopI_eq (by omega), never1 c 0 s h0 (by omega)]
    simp only [Option.bind_some]
    refine (never2 r (i + 1) (s + (zc c : Int)) (fun d hd => hc d (by simp [hd])) (by omega) (by omega)).trans ?_
    simp only [zall]
    congr 1; omega
theorem unused1 (n : T_Net) (i22 : Int) {t : List T_Rule} (ht : idx n.Tables i22 = some t) : ∀ (c : List Int) (j : Nat) (s : List T_Op), j + c.length = t.length → s.length + c.length ≤ 100000 → ∃ u, goI (fun (i48 : Int) x49 (s44 : (List T_Op)) k45 => (if (decide (x49 = 0)) = true then ((idx n.Tables i22).bind fun r67 => (idx r67 i48).bind fun r70 => (app s44 ([(T_Op.mk (i22 + 1) false r70)] : (List T_Op))).bind fun r75 => some (r75)) else (some (s44))).bind fun (s59 : (List T_Op)) => k45 (s59)) (fun (s44 : (List T_Op)) => some (s44)) (j : Int) c s = some u ∧ u.length = s.length + zc c
  | [], j, s, _, _ => ⟨s, rfl, by simp [zc]⟩
  | x :: c, j, s, hj, hs => by
    simp only [List.length_cons] at hj hs
    have hjt : j < t.length := by omega
    have e : (j : Int) + 1 = ((j + 1 : Nat) : Int) := by omega
    rw [goI, e]
    by_cases hx : x = 0
    · rw [if_pos (by simpa using hx), ht, Option.bind_some, idx_nat, List.getElem?_eq_getElem hjt, Option.bind_some, app_eq (by simp; omega), Option.bind_some, Option.bind_some]
      obtain ⟨u, h1, h2⟩ := unused1 n i22 ht c (j + 1) (s ++ [T_Op.mk (i22 + 1) false t[j]]) (by omega) (by simp; omega)
      rw [ht] at h1
      exact ⟨u, h1, by rw [h2]; simp [zc, hx]; omega⟩
    · rw [if_neg (by simpa using hx), Option.bind_some]
      obtain ⟨u, h1, h2⟩ := unused1 n i22 ht c (j + 1) s (by omega) (by omega)
      exact ⟨u, h1, by rw [h2]; simp [zc, hx]⟩
theorem unused2 (n : T_Net) (hT : ∀ t ∈ n.Tables, t.length ≤ 12) : ∀ (r : List (List Int)) (j : Nat) (s : List T_Op), j + r.length = n.Tables.length → (∀ (i : Nat) (c : List Int) (t : List T_Rule), r[i]? = some c → n.Tables[j + i]? = some t → c.length = t.length) → s.length + 12 * r.length ≤ 100000 → ∃ u, goI (fun (i22 : Int) x23 (s18 : (List T_Op)) k19 =>
    ((loopI x23 (fun (i48 : Int) x49 (s44 : (List T_Op)) k45 => (if (decide (x49 = 0)) = true then ((idx n.Tables i22).bind fun r67 => (idx r67 i48).bind fun r70 => (app s44 ([(T_Op.mk (i22 + 1) false r70)] : (List T_Op))).bind fun r75 => some (r75)) else (some (s44))).bind fun (s59 : (List T_Op)) => k45 (s59)) (fun (s44 : (List T_Op)) => some (s44)) (s18)).bind fun (s39 : (List T_Op)) => some (s39)).bind fun (s30 : (List T_Op)) => k19 (s30)) (fun (s18 : (List T_Op)) => some (s18)) (j : Int) r s = some u ∧ u.length = s.length + zall r
  | [], j, s, _, _, _ => ⟨s, rfl, by simp [zall]⟩
  | c :: r, j, s, hj, hl, hs => by
    have hM : maxI = 9223372036854775807 := rfl
    simp only [List.length_cons] at hj hs
    have hjt : j < n.Tables.length := by omega
    have ht := List.getElem?_eq_getElem hjt
    have hct := hl 0 c _ rfl ht
    have h12 := hT _ (List.getElem_mem hjt)
    have hz := zc_le c
    have e : (j : Int) + 1 = ((j + 1 : Nat) : Int) := by omega
    rw [goI, e, loopI_eq (by omega)]
    obtain ⟨u, h1, h2⟩ := unused1 n (j : Int) (t := n.Tables[j]) (by rw [idx_nat]; exact ht) c 0 s (by omega) (by omega)
    have h1' : goI (fun (i48 : Int) x49 (s44 : (List T_Op)) k45 => (if (decide (x49 = 0)) = true then ((idx n.Tables (j : Int)).bind fun r67 => (idx r67 i48).bind fun r70 => (app s44 ([(T_Op.mk ((j : Int) + 1) false r70)] : (List T_Op))).bind fun r75 => some (r75)) else (some (s44))).bind fun (s59 : (List T_Op)) => k45 (s59)) (fun (s44 : (List T_Op)) => some (s44)) 0 c s = some u := h1
    rw [← e, h1']
    simp only [Option.bind_some]
    rw [e]
    obtain ⟨w, g1, g2⟩ := unused2 n hT r (j + 1) u (by omega) (fun i c' t' h3 h4 => hl (i + 1) c' t' (by simpa using h3) (by rw [show j + (i + 1) = j + 1 + i by omega]; exact h4)) (by omega)
    exact ⟨w, g1, by rw [g2, h2]; simp only [zall]; omega⟩
/-! a net of one switch -/
def T1 : T_Topo := ⟨1, [], [⟨ByteArray.mk #[97], ⟨1, 3⟩⟩, ⟨ByteArray.mk #[98], ⟨1, 4⟩⟩]⟩
theorem line_1 : t_raillaw4_line 1 = some T1 := by kernel_rfl
def nS : T_Net := ⟨T1, [[⟨1, ⟨0, 0⟩, 4, 0, 0⟩]]⟩
theorem nS_names : ∀ h ∈ nS.Topo.Hosts, (h.Name.size : Int) ≤ maxI := by
  intro h hh
  simp [nS, T1] at hh
  rcases hh with rfl | rfl <;> decide
theorem nS_chk : t_net_Check nS = some 0 := by kernel_rfl
theorem nS_good : netGood nS := by
  obtain ⟨c, h1, h2⟩ := s_netCheck nS nS_names
  rw [nS_chk] at h1
  exact h2 (Option.some.inj h1).symm
theorem nS_a : ∀ (i : Fin 16) (n : Nat), tfix (ofF nS) (n + 3) ⟨0, noT, [] ++ [⟨⟨1, 3⟩, (i.val : Int)⟩]⟩ = some ⟨1, ByteArray.mk #[98], [⟨⟨1, 3⟩, (i.val : Int)⟩]⟩
  | ⟨0, _⟩, n => by kernel_rfl
  | ⟨1, _⟩, n => by kernel_rfl
  | ⟨2, _⟩, n => by kernel_rfl
  | ⟨3, _⟩, n => by kernel_rfl
  | ⟨4, _⟩, n => by kernel_rfl
  | ⟨5, _⟩, n => by kernel_rfl
  | ⟨6, _⟩, n => by kernel_rfl
  | ⟨7, _⟩, n => by kernel_rfl
  | ⟨8, _⟩, n => by kernel_rfl
  | ⟨9, _⟩, n => by kernel_rfl
  | ⟨10, _⟩, n => by kernel_rfl
  | ⟨11, _⟩, n => by kernel_rfl
  | ⟨12, _⟩, n => by kernel_rfl
  | ⟨13, _⟩, n => by kernel_rfl
  | ⟨14, _⟩, n => by kernel_rfl
  | ⟨15, _⟩, n => by kernel_rfl
  | ⟨m + 16, h⟩, n => absurd h (by omega)
theorem nS_b : ∀ (i : Fin 16) (n : Nat), tfix (ofF nS) (n + 3) ⟨0, noT, [] ++ [⟨⟨1, 4⟩, (i.val : Int)⟩]⟩ = some ⟨1, ByteArray.mk #[98], [⟨⟨1, 4⟩, (i.val : Int)⟩]⟩
  | ⟨0, _⟩, n => by kernel_rfl
  | ⟨1, _⟩, n => by kernel_rfl
  | ⟨2, _⟩, n => by kernel_rfl
  | ⟨3, _⟩, n => by kernel_rfl
  | ⟨4, _⟩, n => by kernel_rfl
  | ⟨5, _⟩, n => by kernel_rfl
  | ⟨6, _⟩, n => by kernel_rfl
  | ⟨7, _⟩, n => by kernel_rfl
  | ⟨8, _⟩, n => by kernel_rfl
  | ⟨9, _⟩, n => by kernel_rfl
  | ⟨10, _⟩, n => by kernel_rfl
  | ⟨11, _⟩, n => by kernel_rfl
  | ⟨12, _⟩, n => by kernel_rfl
  | ⟨13, _⟩, n => by kernel_rfl
  | ⟨14, _⟩, n => by kernel_rfl
  | ⟨15, _⟩, n => by kernel_rfl
  | ⟨m + 16, h⟩, n => absurd h (by omega)
def hostS (x : T_Host) : List T_Fate := (List.range 16).map fun j : Nat => ⟨1, ByteArray.mk #[98], [⟨x.At, (j : Int)⟩]⟩
theorem nS_hosts : ∀ x ∈ nS.Topo.Hosts, hostFates nS x = hostS x := by
  obtain ⟨N, hN⟩ : ∃ n, bigN = n + 3 := ⟨bigN - 3, by have := bigN_gt; omega⟩
  intro x hx
  unfold hostFates hostS
  apply List.map_congr_left
  intro j hj
  have hj := List.mem_range.1 hj
  unfold fateV
  rw [s_Of, hN]
  simp [nS, T1] at hx
  rcases hx with rfl | rfl
  · rw [nS_a ⟨j, hj⟩ N]; rfl
  · rw [nS_b ⟨j, hj⟩ N]; rfl
theorem nS_fates : fatesV nS = nS.Topo.Hosts.flatMap hostS := by
  unfold fatesV
  have : ∀ l : List T_Host, (∀ x ∈ l, x ∈ nS.Topo.Hosts) → l.flatMap (hostFates nS) = l.flatMap hostS := by
    intro l
    induction l with
    | nil => intro _; rfl
    | cons x l ih => intro h; rw [List.flatMap_cons, List.flatMap_cons, nS_hosts x (h x (by simp)), ih fun y hy => h y (by simp [hy])]
  exact this _ fun _ h => h
theorem nS_cnt : cntF nS (nS.Topo.Hosts.flatMap hostS) (zerosV nS) = some [[32]] := by kernel_rfl
theorem nS_rules : t_load_Rules nS = some ([[32]], 0) := by
  unfold t_load_Rules
  rw [nS_chk, Option.bind_some, if_neg (by decide), s_count_eq nS (fun t ht => (nS_good.tabs t ht).1) (by decide) (s_fates nS_good), nS_fates, nS_cnt]
  rfl
theorem outer_sum {p : List Int} {h i : Nat} (hp : p.length = h * h) (hb : ∀ x ∈ p, 0 ≤ x ∧ x ≤ 100000) (hi : i < h) (hh : h ≤ 8) : ∀ (l : List T_Host) (k : Nat) (s : Int), k + l.length = h → 0 ≤ s → s ≤ 100000 * (k : Int) → goI (fun (i238 : Int) x239 (s234 : Int) k235 => (idx p (wr ((wr ((i : Int) * (h : Int))) + i238))).bind fun r247 => k235 (wr (s234 + r247))) (fun (s234 : Int) => some (s234)) (k : Int) l s = some (s + ((p.drop (i * h + k)).take l.length).sum)
  | [], k, s, _, _, _ => by simp [goI]
  | x :: l, k, s, hk, h0, hs => by
    simp only [List.length_cons] at hk
    have h3 : (i + 1) * h ≤ h * h := Nat.mul_le_mul_right h hi
    rw [Nat.add_mul] at h3
    have h4 : h * h ≤ 64 := Nat.mul_le_mul hh hh
    have hlt : i * h + k < p.length := by omega
    have e1 : (i : Int) * (h : Int) = ((i * h : Nat) : Int) := by simp
    have e2 : (k : Int) + 1 = ((k + 1 : Nat) : Int) := by omega
    have e3 : ((i * h : Nat) : Int) + (k : Int) = ((i * h + k : Nat) : Int) := by omega
    have hx := hb p[i * h + k] (List.getElem_mem hlt)
    rw [goI, e1, wr_id (x := ((i * h : Nat) : Int)) (by omega) (by omega), wr_id (by omega) (by omega), e3, idx_nat, List.getElem?_eq_getElem hlt, Option.bind_some, e2, wr_id (by omega) (by omega)]
    have ih := outer_sum hp hb hi hh l (k + 1) (s + p[i * h + k]) (by omega) (by omega) (by omega)
    rw [e1, wr_id (x := ((i * h : Nat) : Int)) (by omega) (by omega)] at ih
    refine ih.trans ?_
    rw [List.length_cons, List.drop_eq_getElem_cons hlt, List.take_succ_cons, List.sum_cons, show i * h + (k + 1) = i * h + k + 1 by omega]
    congr 1; omega
theorem walk_LoadSums (a0 : T_Net) (u0 : a0.wf maxLen) : t_raillaw4_LoadSums a0 = some true := by
  have hM : maxI = 9223372036854775807 := rfl
  have hML : maxLen = 9223372036854775807 := rfl
  have hn : ∀ h ∈ a0.Topo.Hosts, (h.Name.size : Int) ≤ maxI := fun h hh => by
    have := (u0.1.2.2.2 h hh).1
    unfold wS at this; omega
  unfold t_raillaw4_LoadSums
  rw [line_1]
  simp only [Option.bind_some]
  rw [show (T_Net.mk T1 ([([(T_Rule.mk 1 (T_Cube.mk 0 0) 4 0 0)] : (List T_Rule))] : (List (List T_Rule)))) = nS from rfl, nS_rules]
  have f1 : decide (((List.length [[(32 : Int)]] : Nat) : Int) ≠ 1) = false := rfl
  have f2 : decide (((List.length [(32 : Int)] : Nat) : Int) ≠ 1) = false := rfl
  have f3 : decide ((32 : Int) ≠ 32) = false := rfl
  simp only [Option.bind_some, decide_true, Bool.not_true, Bool.false_or, f1, Bool.not_false, gd_true, show idx [[(32 : Int)]] 0 = some [32] from rfl, f2, Bool.or_self, show idx [(32 : Int)] 0 = some 32 from rfl, f3, Bool.false_eq_true, if_false]
  obtain ⟨c, hc, hg⟩ := s_netCheck a0 hn
  by_cases h0 : c = 0
  · subst h0
    have hG := hg rfl
    have hnh := hG.topo.nh
    have hsw := hG.topo.sw
    have hln := hG.len
    obtain ⟨p, hp, m, hm, hP⟩ := s_Pairs hG hc
    obtain ⟨s, hs, hS⟩ := s_count hG
    obtain ⟨l1, l2⟩ := hS.at
    have hT : ∀ t ∈ a0.Tables, t.length ≤ 12 := fun t ht => (hG.tabs t ht).1
    have hS12 : ∀ c ∈ s, c.length ≤ 12 := fun c hc => by
      obtain ⟨i, hi⟩ := List.getElem?_of_mem hc
      have hlt : i < a0.Tables.length := by rw [← l1]; exact (List.getElem?_eq_some_iff.1 hi).1
      rw [l2 i c _ hi (List.getElem?_eq_getElem hlt)]
      exact hT _ (List.getElem_mem hlt)
    have hR : t_load_Rules a0 = some (s, 0) := by
      unfold t_load_Rules
      rw [hc, Option.bind_some, if_neg (by decide), hs]; rfl
    obtain ⟨u, hu1, hu2⟩ := unused2 a0 hT s 0 [] (by omega) (fun i c t h1 h2 => l2 i c t h1 (by simpa using h2)) (by simp; omega)
    have hU : t_load_Unused a0 = some (u, 0) := by
      unfold t_load_Unused
      rw [hc, Option.bind_some, if_neg (by decide), hs, Option.bind_some, loopI_eq (by omega)]
      exact (congrArg (fun z : Option (List T_Op) => z.bind fun s13 => some (s13, (0 : Int))) hu1).trans rfl
    rw [hp, hR, hU]
    simp only [Option.bind_some, decide_true, Bool.not_true, Bool.or_self, Bool.false_eq_true, if_false]
    have hmul : a0.Topo.Hosts.length * a0.Topo.Hosts.length ≤ 64 := Nat.mul_le_mul hnh hnh
    have e0 : (a0.Topo.Hosts.length : Int) * (a0.Topo.Hosts.length : Int) = ((a0.Topo.Hosts.length * a0.Topo.Hosts.length : Nat) : Int) := by simp
    have ew : wr ((a0.Topo.Hosts.length : Int) * (a0.Topo.Hosts.length : Int)) = ((a0.Topo.Hosts.length * a0.Topo.Hosts.length : Nat) : Int) := by
      rw [e0]; exact wr_id (by omega) (by omega)
    have d1 : decide (((p.length : Nat) : Int) ≠ wr ((a0.Topo.Hosts.length : Int) * (a0.Topo.Hosts.length : Int))) = false := by rw [ew, hP.len]; simp
    have d2 : decide (((s.length : Nat) : Int) ≠ ((a0.Tables.length : Nat) : Int)) = false := by rw [l1]; simp
    simp only [d1, d2, Bool.or_self, Bool.false_eq_true, if_false, join_eq]
    have hend : ((loopI s (fun (i145 : Int) x146 (s141 : Int) k142 =>
        ((loopI x146 (fun (i169 : Int) x170 (s165 : Int) k166 => (if (decide (x170 = 0)) = true then (some (wr (s165 + 1))) else (some (s165))).bind fun (s185 : Int) => k166 (s185)) (fun (s165 : Int) => some (s165)) (s141)).bind fun (s160 : Int) => some (s160)).bind fun (s154 : Int) => k142 (s154)) (fun (s141 : Int) => some (s141)) (0)).bind fun (s134 : Int) => some (decide (s134 = (List.length u : Int)))) = some true := by
      rw [loopI_eq (by omega), never2 s 0 0 hS12 (by omega) (by omega), Option.bind_some, hu2]
      simp
    rw [loopI_eq (by omega)]
    have hbm : ∀ x ∈ p, 0 ≤ x ∧ x ≤ 100000 := fun x hx => by have := hP.pos x hx; omega
    have outer : ∀ (l : List T_Host) (i : Nat), i + l.length = a0.Topo.Hosts.length → goI (fun (i207 : Int) x208 (s203 : Unit) k204 =>
        (loopI a0.Topo.Hosts (fun (i238 : Int) x239 (s234 : Int) k235 => (idx p (wr ((wr (i207 * (List.length a0.Topo.Hosts : Int))) + i238))).bind fun r247 => k235 (wr (s234 + r247))) (fun (s234 : Int) => some (s234)) (0)).bind fun (s221 : Int) =>
        if ((decide (s221 < 0)) || (decide (16 < s221))) = true then (some false) else (k204 ())) (fun (s203 : Unit) => some true) (i : Int) l () = some true := by
      intro l
      induction l with
      | nil => intro i _; rfl
      | cons x l ih =>
        intro i hi
        simp only [List.length_cons] at hi
        have hsum := outer_sum hP.len hbm (i := i) (by omega) hnh a0.Topo.Hosts 0 0 (by omega) (by omega) (by omega)
        have hsum' : goI (fun (i238 : Int) x239 (s234 : Int) k235 => (idx p (wr ((wr ((i : Int) * (List.length a0.Topo.Hosts : Int))) + i238))).bind fun r247 => k235 (wr (s234 + r247))) (fun (s234 : Int) => some (s234)) 0 a0.Topo.Hosts 0 = some (blk p a0.Topo.Hosts.length i) := by
          refine hsum.trans ?_
          simp [blk]
        have hk := (hP.blk i (by omega)).1
        have hnn : 0 ≤ blk p a0.Topo.Hosts.length i := sum_nn _ fun y hy => (hP.pos y (List.mem_of_mem_drop (List.mem_of_mem_take hy))).1
        have e : (i : Int) + 1 = ((i + 1 : Nat) : Int) := by omega
        rw [goI, loopI_eq (by omega), hsum', Option.bind_some, if_neg (by simp; omega), e]
        exact ih (i + 1) (by omega)
    refine Eq.trans ?_ (outer a0.Topo.Hosts 0 (by omega))
    have hfin : ∀ (A B : Unit → Option Bool), A () = B () → A = B := fun A B h => funext fun _ => h
    congr 1
    exact hfin _ _ hend
  · have hx : (!decide (c = 0)) = true := by simp [h0]
    have hP : t_load_Pairs a0 = some ([], c) := by unfold t_load_Pairs; rw [hc, Option.bind_some, if_pos hx]
    have hR : t_load_Rules a0 = some ([], c) := by unfold t_load_Rules; rw [hc, Option.bind_some, if_pos hx]
    have hU : t_load_Unused a0 = some ([], c) := by unfold t_load_Unused; rw [hc, Option.bind_some, if_pos hx]
    rw [hP, hR, hU]
    simp [h0]
end Go.Proofs.Ytpkcdfgjcodidaa.Ty
