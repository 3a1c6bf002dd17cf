/- What a host sends, as it is read. -/
import Derived.Test.YtpkcdfgjcodidaaSWalk
import Derived.Test.YtpkcdfgjcodidaaSLoops
namespace Go.Proofs.Ytpkcdfgjcodidaa.Ty
open Go Go.RowKit Go.Proofs.Ytpkcdfgjcodidaa.Den
set_option linter.unusedSimpArgs false
set_option linter.unusedVariables false
set_option maxRecDepth 100000

/-- hosts have names of their own -/
theorem host_names {T : T_Topo} (hn : ∀ h ∈ T.Hosts, (h.Name.size : Int) ≤ maxI) (hc : t_topo_Check T = some 0) : (T.Hosts.map fun h => h.Name).Nodup := by
  have hM : maxI = 9223372036854775807 := rfl
  have key : ∃ c, t_topo_Check T = some c ∧ (c = 0 → (T.Hosts.map fun h => h.Name).Nodup) := by
    unfold t_topo_Check
    split
    · exact ⟨1, rfl, fun h => by cases h⟩
    split
    · exact ⟨4, rfl, fun h => by cases h⟩
    rename_i h1 h2
    simp only [Bool.or_eq_true, decide_eq_true_eq, not_or, Int.not_lt] at h2
    simp only [join_eq]
    refine loopI_ex (fun _ l _ => True) (by omega) trivial (fun i s hI => ?_) (fun i x l s k hI hk => ?_)
    · refine loopI_ex (fun _ l (s : List (T_Spot × Bool) × List (ByteArray × Bool)) => ∃ pre : List T_Host, T.Hosts = pre ++ l ∧ (pre.map fun h : T_Host => h.Name).Nodup ∧ ∀ nm : ByteArray, mget s.2 nm false = pre.any fun h : T_Host => decide (h.Name = nm)) (by omega) ⟨[], rfl, by simp, fun nm => by simp [mget, mfind]⟩ (fun i s hJ => ?_) (fun i x l s k hJ hk => ?_)
      · obtain ⟨pre, h3, h4, _⟩ := hJ
        exact ⟨0, rfl, fun _ => by rw [h3, List.append_nil]; exact h4⟩
      · obtain ⟨pre, h3, h4, h5⟩ := hJ
        obtain ⟨b, e1, _⟩ := s_Name x.Name (hn x (by rw [h3]; simp))
        obtain ⟨b2, e2, _⟩ := s_Spot T x.At
        rw [e1, e2]
        simp only [Option.bind_some]
        split
        · exact ⟨2, rfl, fun h => by cases h⟩
        split
        · exact ⟨1, rfl, fun h => by cases h⟩
        split
        · exact ⟨7, rfl, fun h => by cases h⟩
        · rename_i hm
          have hnx : ¬ x.Name ∈ pre.map fun h : T_Host => h.Name := fun h => hm (by
            obtain ⟨y, hy, hy2⟩ := List.mem_map.1 h
            rw [h5]
            simp only [Bool.or_eq_true, List.any_eq_true]
            exact .inl ⟨y, hy, decide_eq_true hy2⟩)
          refine hk _ ⟨pre ++ [x], by rw [h3]; simp, ?_, fun nm => ?_⟩
          · rw [List.map_append, List.nodup_append]
            exact ⟨h4, by simp, fun a ha b hb => by simp at hb; subst hb; exact fun e => hnx (by rw [← e]; exact ha)⟩
          · rw [mget_mput, h5]
            by_cases e : nm = x.Name
            · simp [e]
            · have e' : ¬ x.Name = nm := fun h => e h.symm
              simp [e, e']
    · obtain ⟨b, e1, _⟩ := s_Spot T x.A
      obtain ⟨b2, e2, _⟩ := s_Spot T x.B
      rw [e1, e2]
      simp only [Option.bind_some]
      have hg : ∃ b3, gd (!!b) default (some b2) = some b3 := by cases b <;> exact ⟨_, rfl⟩
      obtain ⟨b3, hg⟩ := hg
      rw [hg]
      simp only [Option.bind_some]
      split
      · exact ⟨1, rfl, fun h => by cases h⟩
      split
      · exact ⟨7, rfl, fun h => by cases h⟩
      · exact hk _ trivial
  obtain ⟨c, e1, e2⟩ := key
  rw [hc] at e1
  exact e2 (Option.some.inj e1).symm
theorem nodup_eq {α β : Type} {f : α → β} : ∀ {l : List α}, (l.map f).Nodup → ∀ x ∈ l, ∀ y ∈ l, f x = f y → x = y
  | [], _, x, hx, _, _, _ => by cases hx
  | a :: l, h, x, hx, y, hy, e => by
    rw [List.map_cons, List.nodup_cons] at h
    rcases List.mem_cons.1 hx with h1 | h1
    · rcases List.mem_cons.1 hy with h2 | h2
      · rw [h1, h2]
      · exact absurd (by rw [← h1, e]; exact List.mem_map_of_mem h2) h.1
    · rcases List.mem_cons.1 hy with h2 | h2
      · exact absurd (by rw [← h2, ← e]; exact List.mem_map_of_mem h1) h.1
      · exact nodup_eq h.2 x h1 y h2 e
/-- where a host is -/
theorem s_WhereT {T : T_Topo} (hn : ∀ h ∈ T.Hosts, (h.Name.size : Int) ≤ maxI) (nm : ByteArray) : ∃ r, t_topo_Where T nm = some r ∧ (r.2 = 0 → t_topo_Check T = some 0 ∧ ∃ x ∈ T.Hosts, x.Name = nm ∧ r.1 = x.At) ∧ (t_topo_Check T = some 0 → (∃ x ∈ T.Hosts, x.Name = nm) → r.2 = 0) := by
  obtain ⟨c, e1, e2⟩ := s_topoCheck T hn
  unfold t_topo_Where
  rw [e1]
  simp only [Option.bind_some]
  by_cases hc : c = 0
  · subst hc
    have hg := e2 rfl
    simp only [decide_true, Bool.not_true, Bool.false_eq_true, if_false]
    have : ∃ i, t_slices_IndexFunc_api_Host_api_Host T.Hosts (fun a => t_topo_Where_1 a nm) = some i ∧ ((i < 0 ∧ ∀ x ∈ T.Hosts, x.Name ≠ nm) ∨ (0 ≤ i ∧ ∃ x, idx T.Hosts i = some x ∧ x ∈ T.Hosts ∧ x.Name = nm)) := by
      unfold t_slices_IndexFunc_api_Host_api_Host
      simp only [join_eq]
      have := hg.nh
      refine loopI_ex (fun i l _ => 0 ≤ i ∧ ∃ pre, T.Hosts = pre ++ l ∧ (pre.length : Int) = i ∧ ∀ x ∈ pre, x.Name ≠ nm) (by omega) ⟨Int.le_refl _, [], rfl, rfl, by simp⟩ (fun i s hI => ?_) (fun i x l s k hI hk => ?_)
      · obtain ⟨_, pre, h1, _, h3⟩ := hI
        exact ⟨-1, rfl, .inl ⟨by decide, by rw [h1, List.append_nil]; exact h3⟩⟩
      · obtain ⟨h0, pre, h1, h2, h3⟩ := hI
        simp only [t_topo_Where_1, Option.bind_some]
        by_cases hx : x.Name = nm
        · rw [if_pos (by simpa using hx)]
          refine ⟨i, rfl, .inr ⟨h0, x, ?_, by rw [h1]; simp, hx⟩⟩
          rw [← h2, idx_nat, h1]
          simp
        · rw [if_neg (by simpa using hx)]
          refine hk () ⟨by omega, pre ++ [x], by rw [h1]; simp, by simp; omega, fun y hy => ?_⟩
          rcases List.mem_append.1 hy with h | h
          · exact h3 y h
          · simp at h; subst h; exact hx
    obtain ⟨i, f1, f2⟩ := this
    rw [f1]
    simp only [Option.bind_some]
    rcases f2 with ⟨i0, h⟩ | ⟨i0, x, hx, hm, hx2⟩
    · rw [if_pos (by simpa using i0)]
      exact ⟨_, rfl, fun h => (by cases h), fun _ ⟨x, hm, hx⟩ => absurd hx (h x hm)⟩
    · rw [if_neg (by simp; omega), hx]
      exact ⟨_, rfl, fun _ => ⟨trivial, x, hm, hx2, rfl⟩, fun _ _ => rfl⟩
  · rw [if_pos (by simp [hc])]
    exact ⟨_, rfl, fun h => absurd h hc, fun h => absurd (Option.some.inj h) hc⟩
/-- what a net makes of what a host sends -/
noncomputable def fateV (n : T_Net) (x : T_Host) (h : Int) : T_Fate := (t_net_Of n x.At h).getD ⟨0, noT, []⟩
theorem s_fateV {n : T_Net} (hn : netGood n) {x : T_Host} (hx : x ∈ n.Topo.Hosts) {h : Int} (hh : 0 ≤ h ∧ h < 16) : t_net_Of n x.At h = some (fateV n x h) ∧ (fateV n x h).Hops.length ≤ 24 ∧ ∃ m, (fateV n x h).Hops = ⟨x.At, h⟩ :: m := by
  obtain ⟨f, q, z, m, h1, h2, h3⟩ := run_ex hn 23 [] ⟨x.At, h⟩ bigN rfl (Nat.lt_trans (by decide) bigN_gt) ⟨fun i a b _ hb => by simp at hb, by simp, fun y hy => by simp at hy; subst hy; exact ⟨(hn.topo.hosts x hx).2, hh⟩, by simp⟩
  have e : t_net_Of n x.At h = some f := by rw [s_Of, h1]
  unfold fateV
  rw [e]
  refine ⟨rfl, ?_, m, ?_⟩
  · show f.Hops.length ≤ 24
    rw [h2.hops]
    exact h2.inv.len
  · show f.Hops = _
    rw [h2.hops, h3]
    rfl
theorem goI_postM {α β σ : Type} {step : Int → α → σ → (σ → Option β) → Option β} {fin : σ → Option β} {Q : β → Prop} (L : List α) (hfin : ∀ s v, fin s = some v → Q v)
    (hstep : ∀ i x s k, x ∈ L → (∀ s' v, k s' = some v → Q v) → ∀ v, step i x s k = some v → Q v) : ∀ (l : List α) (i : Int) (s : σ) (v : β), (∀ x ∈ l, x ∈ L) → goI step fin i l s = some v → Q v
  | [], i, s, v, _, h => hfin s v h
  | x :: l, i, s, v, hl, h => hstep i x s _ (hl x (by simp)) (fun s' v' h' => goI_postM L hfin hstep l (i + 1) s' v' (fun y hy => hl y (by simp [hy])) h') v h
theorem loopI_postM {α β σ : Type} {step : Int → α → σ → (σ → Option β) → Option β} {fin : σ → Option β} (Q : β → Prop) {l : List α} {s : σ} {v : β} (h : loopI l step fin s = some v) (hfin : ∀ s v, fin s = some v → Q v)
    (hstep : ∀ i x s k, x ∈ l → (∀ s' v, k s' = some v → Q v) → ∀ v, step i x s k = some v → Q v) : Q v := by
  unfold loopI at h
  rw [need_some] at h
  exact goI_postM l hfin hstep l 0 s v (fun _ h => h) h.2
/-- what comes of what is sent -/
theorem s_other_link (T : T_Topo) (s : T_Spot) {o : T_Spot × Bool} (h : t_topo_Other T s = some o) (h2 : o.2 = true) : ∃ l ∈ T.Links, l.A = o.1 ∨ l.B = o.1 := by
  unfold t_topo_Other at h
  simp only [join_eq] at h
  refine loopI_postM (fun v => v.2 = true → ∃ l ∈ T.Links, l.A = v.1 ∨ l.B = v.1) h ?_ ?_ h2
  · intro s v hv hv2
    obtain rfl := Option.some.inj hv
    cases hv2
  · intro i x s k hx hk v hv hv2
    split at hv
    · obtain rfl := Option.some.inj hv
      exact ⟨x, hx, .inr rfl⟩
    · split at hv
      · obtain rfl := Option.some.inj hv
        exact ⟨x, hx, .inl rfl⟩
      · exact hk _ _ hv hv2
structure Sent (n : T_Net) (f : T_Fate) : Prop where
  good : netGood n
  chk : t_net_Check n = some 0
  len : 1 ≤ f.Hops.length ∧ f.Hops.length ≤ 24
  over : ∀ y ∈ f.Hops.drop 1, ∃ l ∈ n.Topo.Links, l.A = y.At ∨ l.B = y.At
theorem fin_sent {n : T_Net} (hn : netGood n) (hc : t_net_Check n = some 0) {f : T_Fate} {q : List T_Hop} {z : T_Hop} (h : Fin_ n f q z) : Sent n f := by
  refine ⟨hn, hc, ?_, fun y hy => ?_⟩
  · rw [h.hops]
    exact ⟨by simp, h.inv.len⟩
  · rw [h.hops] at hy
    obtain ⟨j, hj⟩ := List.getElem?_of_mem hy
    rw [List.getElem?_drop] at hj
    have hlt : j < (q ++ [z]).length := by have := (List.getElem?_eq_some_iff.1 hj).1; omega
    have ha := List.getElem?_eq_getElem hlt
    rw [Nat.add_comm] at hj
    obtain ⟨k1, k2⟩ := h.inv.walk j _ y ha hj
    have hx := h.inv.ok _ (List.getElem_mem hlt)
    have ho := s_other hn (outV (tblV n (q ++ [z])[j]) (q ++ [z])[j].At (q ++ [z])[j].Header).1
    unfold kd at k1 k2
    split at k1
    · rename_i g1
      rw [if_pos g1] at k2
      split at k1
      · cases k1
      · rename_i g2
        rw [if_neg g2] at k2
        split at k1
        · rename_i g3
          rw [if_pos g3] at k2
          obtain ⟨l, hl, h9⟩ := s_other_link n.Topo _ ho.1 g3
          refine ⟨l, hl, ?_⟩
          rw [← k2]
          exact h9
        · cases k1
    · cases k1
theorem s_SendG (n : T_Net) (hn : ∀ h ∈ n.Topo.Hosts, (h.Name.size : Int) ≤ maxI) (nm : ByteArray) (h : Int) : ∃ r, t_net_Send n nm h = some r ∧ (r.2 = 0 → Sent n r.1) := by
  obtain ⟨c, e1, e2⟩ := s_netCheck n hn
  unfold t_net_Send
  rw [e1]
  simp only [Option.bind_some]
  by_cases hc : c = 0
  · subst hc
    have hg := e2 rfl
    simp only [decide_true, Bool.not_true, Bool.false_eq_true, if_false]
    obtain ⟨r, w1, w2, _⟩ := s_WhereT (T := n.Topo) hn nm
    rw [w1]
    simp only [Option.bind_some]
    by_cases hr : r.2 = 0
    · simp only [hr, decide_true, Bool.not_true, Bool.false_eq_true, if_false]
      obtain ⟨b, b1, b2⟩ := s_Header h
      rw [b1]
      simp only [Option.bind_some]
      cases b with
      | false => exact ⟨_, rfl, fun h => by cases h⟩
      | true =>
        simp only [Bool.not_true, Bool.false_eq_true, if_false]
        obtain ⟨_, x, hx, _, hx2⟩ := w2 hr
        obtain ⟨f, q, z, m, h1, h2, h3⟩ := run_ex hg 23 [] ⟨r.1, h⟩ bigN rfl (Nat.lt_trans (by decide) bigN_gt) ⟨fun i a b _ hb => by simp at hb, by simp, fun y hy => by simp at hy; subst hy; exact ⟨by rw [hx2]; exact (hg.topo.hosts x hx).2, b2.1 rfl⟩, by simp⟩
        rw [s_Of, h1]
        exact ⟨_, rfl, fun _ => fin_sent hg e1 h2⟩
    · have : (!decide (r.2 = 0)) = true := by simp [hr]
      rw [if_pos this]
      exact ⟨_, rfl, fun h => absurd h hr⟩
  · have : (!decide (c = 0)) = true := by simp [hc]
    rw [if_pos this]
    exact ⟨_, rfl, fun h => absurd h hc⟩
end Go.Proofs.Ytpkcdfgjcodidaa.Ty
