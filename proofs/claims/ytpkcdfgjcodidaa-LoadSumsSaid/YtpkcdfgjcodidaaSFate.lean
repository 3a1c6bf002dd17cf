/- What becomes of what a host sends, as it is read. -/
import Derived.Test.YtpkcdfgjcodidaaSWalk
import Derived.Test.YtpkcdfgjcodidaaSLoops
namespace Go.Proofs.Ytpkcdfgjcodidaa.Ty
open Go Go.RowKit Go.Proofs.Ytpkcdfgjcodidaa.Den
set_option linter.unusedSimpArgs false
set_option linter.unusedVariables false
set_option maxRecDepth 100000

/-- hosts have names of their own -/
theorem host_names {T : T_Topo} (hn : ∀ h ∈ T.Hosts, (h.Name.size : Int) ≤ maxI) (hc : t_topo_Check T = some 0) : (T.Hosts.map fun h => h.Name).Nodup := by
  have hM : maxI = 9223372036854775807 := rfl
  have key : ∃ c, t_topo_Check T = some c ∧ (c = 0 → (T.Hosts.map fun h => h.Name).Nodup) := by
    unfold t_topo_Check
    split
    · exact ⟨1, rfl, fun h => by cases h⟩
    split
    · exact ⟨4, rfl, fun h => by cases h⟩
    rename_i h1 h2
    simp only [Bool.or_eq_true, decide_eq_true_eq, not_or, Int.not_lt] at h2
    simp only [join_eq]
    refine loopI_ex (fun _ l _ => True) (by omega) trivial (fun i s hI => ?_) (fun i x l s k hI hk => ?_)
    · refine loopI_ex (fun _ l (s : List (T_Spot × Bool) × List (ByteArray × Bool)) => ∃ pre : List T_Host, T.Hosts = pre ++ l ∧ (pre.map fun h : T_Host => h.Name).Nodup ∧ ∀ nm : ByteArray, mget s.2 nm false = pre.any fun h : T_Host => decide (h.Name = nm)) (by omega) ⟨[], rfl, by simp, fun nm => by simp [mget, mfind]⟩ (fun i s hJ => ?_) (fun i x l s k hJ hk => ?_)
      · obtain ⟨pre, h3, h4, _⟩ := hJ
        exact ⟨0, rfl, fun _ => by rw [h3, List.append_nil]; exact h4⟩
      · obtain ⟨pre, h3, h4, h5⟩ := hJ
        obtain ⟨b, e1, _⟩ := s_Name x.Name (hn x (by rw [h3]; simp))
        obtain ⟨b2, e2, _⟩ := s_Spot T x.At
        rw [e1, e2]
        simp only [Option.bind_some]
        split
        · exact ⟨2, rfl, fun h => by cases h⟩
        split
        · exact ⟨1, rfl, fun h => by cases h⟩
        split
        · exact ⟨7, rfl, fun h => by cases h⟩
        · rename_i hm
          have hnx : ¬ x.Name ∈ pre.map fun h : T_Host => h.Name := fun h => hm (by
            obtain ⟨y, hy, hy2⟩ := List.mem_map.1 h
            rw [h5]
            simp only [Bool.or_eq_true, List.any_eq_true]
            exact .inl ⟨y, hy, decide_eq_true hy2⟩)
          refine hk _ ⟨pre ++ [x], by rw [h3]; simp, ?_, fun nm => ?_⟩
          · rw [List.map_append, List.nodup_append]
            exact ⟨h4, by simp, fun a ha b hb => by simp at hb; subst hb; exact fun e => hnx (by rw [← e]; exact ha)⟩
          · rw [mget_mput, h5]
            by_cases e : nm = x.Name
            · simp [e]
            · have e' : ¬ x.Name = nm := fun h => e h.symm
              simp [e, e']
    · obtain ⟨b, e1, _⟩ := s_Spot T x.A
      obtain ⟨b2, e2, _⟩ := s_Spot T x.B
      rw [e1, e2]
      simp only [Option.bind_some]
      have hg : ∃ b3, gd (!!b) default (some b2) = some b3 := by cases b <;> exact ⟨_, rfl⟩
      obtain ⟨b3, hg⟩ := hg
      rw [hg]
      simp only [Option.bind_some]
      split
      · exact ⟨1, rfl, fun h => by cases h⟩
      split
      · exact ⟨7, rfl, fun h => by cases h⟩
      · exact hk _ trivial
  obtain ⟨c, e1, e2⟩ := key
  rw [hc] at e1
  exact e2 (Option.some.inj e1).symm
theorem nodup_eq {α β : Type} {f : α → β} : ∀ {l : List α}, (l.map f).Nodup → ∀ x ∈ l, ∀ y ∈ l, f x = f y → x = y
  | [], _, x, hx, _, _, _ => by cases hx
  | a :: l, h, x, hx, y, hy, e => by
    rw [List.map_cons, List.nodup_cons] at h
    rcases List.mem_cons.1 hx with h1 | h1
    · rcases List.mem_cons.1 hy with h2 | h2
      · rw [h1, h2]
      · exact absurd (by rw [← h1, e]; exact List.mem_map_of_mem h2) h.1
    · rcases List.mem_cons.1 hy with h2 | h2
      · exact absurd (by rw [← h2, ← e]; exact List.mem_map_of_mem h1) h.1
      · exact nodup_eq h.2 x h1 y h2 e
/-- what a net makes of what a host sends -/
noncomputable def fateV (n : T_Net) (x : T_Host) (h : Int) : T_Fate := (t_net_Of n x.At h).getD ⟨0, noT, []⟩
theorem s_fateV {n : T_Net} (hn : netGood n) {x : T_Host} (hx : x ∈ n.Topo.Hosts) {h : Int} (hh : 0 ≤ h ∧ h < 16) : t_net_Of n x.At h = some (fateV n x h) ∧ (fateV n x h).Hops.length ≤ 24 ∧ ∃ m, (fateV n x h).Hops = ⟨x.At, h⟩ :: m := by
  obtain ⟨f, q, z, m, h1, h2, h3⟩ := run_ex hn 23 [] ⟨x.At, h⟩ bigN rfl (Nat.lt_trans (by decide) bigN_gt) ⟨fun i a b _ hb => by simp at hb, by simp, fun y hy => by simp at hy; subst hy; exact ⟨(hn.topo.hosts x hx).2, hh⟩, by simp⟩
  have e : t_net_Of n x.At h = some f := by rw [s_Of, h1]
  unfold fateV
  rw [e]
  refine ⟨rfl, ?_, m, ?_⟩
  · show f.Hops.length ≤ 24
    rw [h2.hops]
    exact h2.inv.len
  · show f.Hops = _
    rw [h2.hops, h3]
    rfl
end Go.Proofs.Ytpkcdfgjcodidaa.Ty
