/- Wishes, as they are read. -/
import Derived.Test.YtpjadjoekdcjiaaDoorSWalk
import Derived.Test.YtpjadjoekdcjiaaDoorSLoops
namespace Go.Proofs.YtpjadjoekdcjiaaDoor.Ty
open Go Go.RowKit Go.Proofs.YtpjadjoekdcjiaaDoor.Den
set_option linter.unusedSimpArgs false
set_option linter.unusedVariables false
set_option maxRecDepth 100000

/-! no check tells 9 -/
theorem n9_cube {c : T_Cube} {v : Int} (h : t_cube_Check c = some v) : v ≠ 9 := by
  unfold t_cube_Check at h
  obtain ⟨b1, e1, _⟩ := s_Header c.Mask
  obtain ⟨b2, e2, _⟩ := s_Header c.Bits
  rw [e1, e2] at h
  cases b1 <;> cases b2 <;> simp only [gd, Bool.not_true, Bool.not_false, if_true, Option.bind_some, Bool.or_self, Bool.or_true, Bool.true_or, Bool.false_eq_true, if_false, Option.some.injEq] at h
  all_goals first | (subst h; decide) | (split at h <;> (simp only [Option.some.injEq] at h; subst h; decide))
theorem n9_rule {r : T_Rule} {v : Int} (h : t_rule_Check r = some v) : v ≠ 9 := by
  unfold t_rule_Check at h
  obtain ⟨x, e1, h⟩ := Option.bind_eq_some_iff.1 h
  obtain ⟨y, e2, h⟩ := Option.bind_eq_some_iff.1 h
  split at h
  · simp only [Option.some.injEq] at h; subst h; decide
  · obtain ⟨z, e3, h⟩ := Option.bind_eq_some_iff.1 h
    split at h
    · simp only [Option.some.injEq] at h; subst h; exact n9_cube e3
    · split at h <;> (simp only [Option.some.injEq] at h; subst h; decide)
theorem n9_table {t : List T_Rule} {v : Int} (h : t_rule_Table t = some v) : v ≠ 9 := by
  unfold t_rule_Table at h
  split at h
  · simp only [Option.some.injEq] at h; subst h; decide
  · simp only [join_eq] at h
    refine loopI_post (fun v => v ≠ 9) h (fun s v h => by simp only [Option.some.injEq] at h; subst h; decide) (fun i x s k hk v h => ?_)
    obtain ⟨z, e1, h⟩ := Option.bind_eq_some_iff.1 h
    split at h
    · simp only [Option.some.injEq] at h; subst h; exact n9_rule e1
    · obtain ⟨z2, e2, h⟩ := Option.bind_eq_some_iff.1 h
      obtain ⟨z3, e3, h⟩ := Option.bind_eq_some_iff.1 h
      split at h
      · simp only [Option.some.injEq] at h; subst h; decide
      · exact hk () v h
theorem n9_topo {T : T_Topo} {v : Int} (h : t_topo_Check T = some v) : v ≠ 9 := by
  unfold t_topo_Check at h
  split at h
  · simp only [Option.some.injEq] at h; subst h; decide
  split at h
  · simp only [Option.some.injEq] at h; subst h; decide
  simp only [join_eq] at h
  refine loopI_post (fun v => v ≠ 9) h (fun s v h => ?_) (fun i x s k hk v h => ?_)
  · refine loopI_post (fun v => v ≠ 9) h (fun s v h => by simp only [Option.some.injEq] at h; subst h; decide) (fun i x s k hk v h => ?_)
    obtain ⟨z, e1, h⟩ := Option.bind_eq_some_iff.1 h
    split at h
    · simp only [Option.some.injEq] at h; subst h; decide
    obtain ⟨z, e1, h⟩ := Option.bind_eq_some_iff.1 h
    split at h
    · simp only [Option.some.injEq] at h; subst h; decide
    split at h
    · simp only [Option.some.injEq] at h; subst h; decide
    · exact hk _ v h
  · obtain ⟨z, e1, h⟩ := Option.bind_eq_some_iff.1 h
    obtain ⟨z, e1, h⟩ := Option.bind_eq_some_iff.1 h
    split at h
    · simp only [Option.some.injEq] at h; subst h; decide
    split at h
    · simp only [Option.some.injEq] at h; subst h; decide
    · exact hk _ v h
theorem n9_net {n : T_Net} {v : Int} (h : t_net_Check n = some v) : v ≠ 9 := by
  unfold t_net_Check at h
  obtain ⟨z, e1, h⟩ := Option.bind_eq_some_iff.1 h
  split at h
  · simp only [Option.some.injEq] at h; subst h; exact n9_topo e1
  split at h
  · simp only [Option.some.injEq] at h; subst h; decide
  simp only [join_eq] at h
  refine loopI_post (fun v => v ≠ 9) h (fun s v h => by simp only [Option.some.injEq] at h; subst h; decide) (fun i x s k hk v h => ?_)
  obtain ⟨z, e1, h⟩ := Option.bind_eq_some_iff.1 h
  split at h
  · simp only [Option.some.injEq] at h; subst h; exact n9_table e1
  · exact hk () v h
theorem n9_where {T : T_Topo} {nm : ByteArray} {r : T_Spot × Int} (h : t_topo_Where T nm = some r) : r.2 ≠ 9 := by
  unfold t_topo_Where at h
  obtain ⟨z, e1, h⟩ := Option.bind_eq_some_iff.1 h
  split at h
  · simp only [Option.some.injEq] at h; subst h; exact n9_topo e1
  obtain ⟨z, e2, h⟩ := Option.bind_eq_some_iff.1 h
  split at h
  · simp only [Option.some.injEq] at h; subst h; decide
  obtain ⟨z, e3, h⟩ := Option.bind_eq_some_iff.1 h
  simp only [Option.some.injEq] at h; subst h; exact (by decide : (0 : Int) ≠ 9)
theorem n9_one {T : T_Topo} {w : T_Wish} {v : Int} (h : t_wish_one T w = some v) : v ≠ 9 := by
  unfold t_wish_one at h
  obtain ⟨z, e1, h⟩ := Option.bind_eq_some_iff.1 h
  obtain ⟨z, e1, h⟩ := Option.bind_eq_some_iff.1 h
  split at h
  · simp only [Option.some.injEq] at h; subst h; decide
  split at h
  · simp only [Option.some.injEq] at h; subst h; decide
  split at h
  · simp only [Option.some.injEq] at h; subst h; decide
  simp only [join_eq] at h
  refine loopI_post (fun v => v ≠ 9) h (fun s v h => by simp only [Option.some.injEq] at h; subst h; decide) (fun i x s k hk v h => ?_)
  obtain ⟨z, e1, h⟩ := Option.bind_eq_some_iff.1 h
  split at h
  · simp only [Option.some.injEq] at h; subst h; exact n9_where e1
  · exact hk () v h
theorem n9_wishes {T : T_Topo} {l : List T_Wish} {v : Int} (h : t_wish_Check T l = some v) : v ≠ 9 := by
  unfold t_wish_Check at h
  obtain ⟨z, e1, h⟩ := Option.bind_eq_some_iff.1 h
  split at h
  · simp only [Option.some.injEq] at h; subst h; exact n9_topo e1
  split at h
  · simp only [Option.some.injEq] at h; subst h; decide
  simp only [join_eq] at h
  refine loopI_post (fun v => v ≠ 9) h (fun s v h => by simp only [Option.some.injEq] at h; subst h; decide) (fun i x s k hk v h => ?_)
  obtain ⟨z, e1, h⟩ := Option.bind_eq_some_iff.1 h
  split at h
  · simp only [Option.some.injEq] at h; subst h; exact n9_one e1
  · exact hk () v h

/-- hosts have names of their own -/
theorem host_names {T : T_Topo} (hn : ∀ h ∈ T.Hosts, (h.Name.size : Int) ≤ maxI) (hc : t_topo_Check T = some 0) : (T.Hosts.map fun h => h.Name).Nodup := by
  have hM : maxI = 9223372036854775807 := rfl
  have key : ∃ c, t_topo_Check T = some c ∧ (c = 0 → (T.Hosts.map fun h => h.Name).Nodup) := by
    unfold t_topo_Check
    split
    · exact ⟨1, rfl, fun h => by cases h⟩
    split
    · exact ⟨4, rfl, fun h => by cases h⟩
    rename_i h1 h2
    simp only [Bool.or_eq_true, decide_eq_true_eq, not_or, Int.not_lt] at h2
    simp only [join_eq]
    refine loopI_ex (fun _ l _ => True) (by omega) trivial (fun i s hI => ?_) (fun i x l s k hI hk => ?_)
    · refine loopI_ex (fun _ l (s : List (T_Spot × Bool) × List (ByteArray × Bool)) => ∃ pre : List T_Host, T.Hosts = pre ++ l ∧ (pre.map fun h : T_Host => h.Name).Nodup ∧ ∀ nm : ByteArray, mget s.2 nm false = pre.any fun h : T_Host => decide (h.Name = nm)) (by omega) ⟨[], rfl, by simp, fun nm => by simp [mget, mfind]⟩ (fun i s hJ => ?_) (fun i x l s k hJ hk => ?_)
      · obtain ⟨pre, h3, h4, _⟩ := hJ
        exact ⟨0, rfl, fun _ => by rw [h3, List.append_nil]; exact h4⟩
      · obtain ⟨pre, h3, h4, h5⟩ := hJ
        obtain ⟨b, e1, _⟩ := s_Name x.Name (hn x (by rw [h3]; simp))
        obtain ⟨b2, e2, _⟩ := s_Spot T x.At
        rw [e1, e2]
        simp only [Option.bind_some]
        split
        · exact ⟨2, rfl, fun h => by cases h⟩
        split
        · exact ⟨1, rfl, fun h => by cases h⟩
        split
        · exact ⟨7, rfl, fun h => by cases h⟩
        · rename_i hm
          have hnx : ¬ x.Name ∈ pre.map fun h : T_Host => h.Name := fun h => hm (by
            obtain ⟨y, hy, hy2⟩ := List.mem_map.1 h
            rw [h5]
            simp only [Bool.or_eq_true, List.any_eq_true]
            exact .inl ⟨y, hy, decide_eq_true hy2⟩)
          refine hk _ ⟨pre ++ [x], by rw [h3]; simp, ?_, fun nm => ?_⟩
          · rw [List.map_append, List.nodup_append]
            exact ⟨h4, by simp, fun a ha b hb => by simp at hb; subst hb; exact fun e => hnx (by rw [← e]; exact ha)⟩
          · rw [mget_mput, h5]
            by_cases e : nm = x.Name
            · simp [e]
            · have e' : ¬ x.Name = nm := fun h => e h.symm
              simp [e, e']
    · obtain ⟨b, e1, _⟩ := s_Spot T x.A
      obtain ⟨b2, e2, _⟩ := s_Spot T x.B
      rw [e1, e2]
      simp only [Option.bind_some]
      have hg : ∃ b3, gd (!!b) default (some b2) = some b3 := by cases b <;> exact ⟨_, rfl⟩
      obtain ⟨b3, hg⟩ := hg
      rw [hg]
      simp only [Option.bind_some]
      split
      · exact ⟨1, rfl, fun h => by cases h⟩
      split
      · exact ⟨7, rfl, fun h => by cases h⟩
      · exact hk _ trivial
  obtain ⟨c, e1, e2⟩ := key
  rw [hc] at e1
  exact e2 (Option.some.inj e1).symm
theorem nodup_eq {α β : Type} {f : α → β} : ∀ {l : List α}, (l.map f).Nodup → ∀ x ∈ l, ∀ y ∈ l, f x = f y → x = y
  | [], _, x, hx, _, _, _ => by cases hx
  | a :: l, h, x, hx, y, hy, e => by
    rw [List.map_cons, List.nodup_cons] at h
    rcases List.mem_cons.1 hx with h1 | h1
    · rcases List.mem_cons.1 hy with h2 | h2
      · rw [h1, h2]
      · exact absurd (by rw [← h1, e]; exact List.mem_map_of_mem h2) h.1
    · rcases List.mem_cons.1 hy with h2 | h2
      · exact absurd (by rw [← h2, ← e]; exact List.mem_map_of_mem h1) h.1
      · exact nodup_eq h.2 x h1 y h2 e
/-- where a host is -/
theorem s_WhereT {T : T_Topo} (hn : ∀ h ∈ T.Hosts, (h.Name.size : Int) ≤ maxI) (nm : ByteArray) : ∃ r, t_topo_Where T nm = some r ∧ (r.2 = 0 → t_topo_Check T = some 0 ∧ ∃ x ∈ T.Hosts, x.Name = nm ∧ r.1 = x.At) ∧ (t_topo_Check T = some 0 → (∃ x ∈ T.Hosts, x.Name = nm) → r.2 = 0) := by
  obtain ⟨c, e1, e2⟩ := s_topoCheck T hn
  unfold t_topo_Where
  rw [e1]
  simp only [Option.bind_some]
  by_cases hc : c = 0
  · subst hc
    have hg := e2 rfl
    simp only [decide_true, Bool.not_true, Bool.false_eq_true, if_false]
    have : ∃ i, t_slices_IndexFunc_api_Host_api_Host T.Hosts (fun a => t_topo_Where_1 a nm) = some i ∧ ((i < 0 ∧ ∀ x ∈ T.Hosts, x.Name ≠ nm) ∨ (0 ≤ i ∧ ∃ x, idx T.Hosts i = some x ∧ x ∈ T.Hosts ∧ x.Name = nm)) := by
      unfold t_slices_IndexFunc_api_Host_api_Host
      simp only [join_eq]
      have := hg.nh
      refine loopI_ex (fun i l _ => 0 ≤ i ∧ ∃ pre, T.Hosts = pre ++ l ∧ (pre.length : Int) = i ∧ ∀ x ∈ pre, x.Name ≠ nm) (by omega) ⟨Int.le_refl _, [], rfl, rfl, by simp⟩ (fun i s hI => ?_) (fun i x l s k hI hk => ?_)
      · obtain ⟨_, pre, h1, _, h3⟩ := hI
        exact ⟨-1, rfl, .inl ⟨by decide, by rw [h1, List.append_nil]; exact h3⟩⟩
      · obtain ⟨h0, pre, h1, h2, h3⟩ := hI
        simp only [t_topo_Where_1, Option.bind_some]
        by_cases hx : x.Name = nm
        · rw [if_pos (by simpa using hx)]
          refine ⟨i, rfl, .inr ⟨h0, x, ?_, by rw [h1]; simp, hx⟩⟩
          rw [← h2, idx_nat, h1]
          simp
        · rw [if_neg (by simpa using hx)]
          refine hk () ⟨by omega, pre ++ [x], by rw [h1]; simp, by simp; omega, fun y hy => ?_⟩
          rcases List.mem_append.1 hy with h | h
          · exact h3 y h
          · simp at h; subst h; exact hx
    obtain ⟨i, f1, f2⟩ := this
    rw [f1]
    simp only [Option.bind_some]
    rcases f2 with ⟨i0, h⟩ | ⟨i0, x, hx, hm, hx2⟩
    · rw [if_pos (by simpa using i0)]
      exact ⟨_, rfl, fun h => (by cases h), fun _ ⟨x, hm, hx⟩ => absurd hx (h x hm)⟩
    · rw [if_neg (by simp; omega), hx]
      exact ⟨_, rfl, fun _ => ⟨trivial, x, hm, hx2, rfl⟩, fun _ _ => rfl⟩
  · rw [if_pos (by simp [hc])]
    exact ⟨_, rfl, fun h => absurd h hc, fun h => absurd (Option.some.inj h) hc⟩
/-- whether a fate fits -/
def fitV (w : T_Wish) (from_ : ByteArray) (f : T_Fate) : Bool :=
  if w.What = 4 then decide (f.How ≠ 4)
  else if ¬ from_ = w.From then true
  else if w.What = 1 then decide (f.How = 1) && decide (f.Host = w.To)
  else if w.What = 2 then !(decide (f.How = 1) && decide (f.Host = w.To))
  else if w.What = 3 then !(decide (f.How = 1) && decide (f.Host = w.To)) || f.Hops.any fun h => decide (h.At.Switch = w.Via)
  else true
theorem s_anyHop (l : List T_Hop) (hl : (l.length : Int) ≤ maxI) (w : T_Wish) : t_slices_ContainsFunc_api_Hop_api_Hop l (fun a52 => t_wish_Fits_1 a52 w) = some (l.any fun h => decide (h.At.Switch = w.Via)) := by
  unfold t_slices_ContainsFunc_api_Hop_api_Hop
  have : ∃ j, t_slices_IndexFunc_api_Hop_api_Hop l (fun a52 => t_wish_Fits_1 a52 w) = some j ∧ decide (0 ≤ j) = l.any fun h => decide (h.At.Switch = w.Via) := by
    unfold t_slices_IndexFunc_api_Hop_api_Hop
    simp only [join_eq]
    refine loopI_ex (fun i m _ => 0 ≤ i ∧ (l.any fun h => decide (h.At.Switch = w.Via)) = m.any fun h => decide (h.At.Switch = w.Via)) hl ⟨Int.le_refl _, rfl⟩ (fun i s hI => ⟨-1, rfl, by rw [hI.2]; rfl⟩) (fun i y m s k hI hk => ?_)
    simp only [t_wish_Fits_1, Option.bind_some]
    obtain ⟨i0, i1⟩ := hI
    rw [List.any_cons] at i1
    cases hb : decide (y.At.Switch = w.Via) with
    | true => exact ⟨i, rfl, by rw [i1, hb]; simpa using i0⟩
    | false =>
      rw [if_neg (by decide)]
      exact hk () ⟨by omega, by rw [i1, hb]; rfl⟩
  obtain ⟨j, e1, e2⟩ := this
  rw [e1, Option.bind_some, e2]
theorem s_Fits (w : T_Wish) (from_ : ByteArray) (f : T_Fate) (hl : (f.Hops.length : Int) ≤ maxI) : t_wish_Fits w from_ f = some (fitV w from_ f) := by
  unfold t_wish_Fits fitV
  by_cases h1 : w.What = 4
  · simp [h1]
  by_cases h2 : from_ = w.From
  · by_cases h3 : w.What = 1
    · simp [h2, h3]
    by_cases h4 : w.What = 2
    · simp [h2, h4]
    by_cases h5 : w.What = 3
    · simp only [h5, h2, decide_true, Bool.not_true, Bool.false_eq_true, if_false, if_true, not_true_eq_false, if_neg (show ¬ (3 : Int) = 4 by decide), if_neg (show ¬ (3 : Int) = 1 by decide), if_neg (show ¬ (3 : Int) = 2 by decide), decide_eq_true_eq]
      rw [s_anyHop _ hl]
      cases (decide (f.How = 1) && decide (f.Host = w.To)) <;> simp [gd]
    · simp [h1, h2, h3, h4, h5]
  · simp [h1, h2]
/-- what a net makes of what a host sends -/
noncomputable def fateV (n : T_Net) (x : T_Host) (h : Int) : T_Fate := (t_net_Of n x.At h).getD ⟨0, noT, []⟩
theorem s_fateV {n : T_Net} (hn : netGood n) {x : T_Host} (hx : x ∈ n.Topo.Hosts) {h : Int} (hh : 0 ≤ h ∧ h < 16) : t_net_Of n x.At h = some (fateV n x h) ∧ (fateV n x h).Hops.length ≤ 24 ∧ ∃ m, (fateV n x h).Hops = ⟨x.At, h⟩ :: m := by
  obtain ⟨f, q, z, m, h1, h2, h3⟩ := run_ex hn 23 [] ⟨x.At, h⟩ bigN rfl (Nat.lt_trans (by decide) bigN_gt) ⟨fun i a b _ hb => by simp at hb, by simp, fun y hy => by simp at hy; subst hy; exact ⟨(hn.topo.hosts x hx).2, hh⟩, by simp⟩
  have e : t_net_Of n x.At h = some f := by rw [s_Of, h1]
  unfold fateV
  rw [e]
  refine ⟨rfl, ?_, m, ?_⟩
  · show f.Hops.length ≤ 24
    rw [h2.hops]
    exact h2.inv.len
  · show f.Hops = _
    rw [h2.hops, h3]
    rfl
/-- whether a wish asks of a host -/
def asks (w : T_Wish) (x : T_Host) : Prop := w.What = 4 ∨ x.Name = w.From
structure Broken (n : T_Net) (l : List T_Wish) (p : T_PProof) : Prop where
  ex : ∃ (i : Nat) (w : T_Wish) (x : T_Host) (h : Int), l[i]? = some w ∧ x ∈ n.Topo.Hosts ∧ asks w x ∧ (0 ≤ h ∧ h < 16) ∧ fitV w x.Name (fateV n x h) = false ∧ p = ⟨(i : Int), x.Name, h⟩
def Fit (n : T_Net) (w : T_Wish) (x : T_Host) : Prop := asks w x → ∀ h, 0 ≤ h ∧ h < 16 → fitV w x.Name (fateV n x h) = true
theorem s_anyFate (f : T_Fate) (w : T_Wish) (x : T_Host) (hl : (f.Hops.length : Int) ≤ maxI) : t_slices_ContainsFunc_api_Fate_api_Fate [f] (fun a101 => t_wish_Seek_1 a101 w x) = some (!fitV w x.Name f) := by
  unfold t_slices_ContainsFunc_api_Fate_api_Fate t_slices_IndexFunc_api_Fate_api_Fate
  simp only [join_eq]
  rw [loopI_eq (by have : maxI = 9223372036854775807 := rfl; simp; omega)]
  simp only [goI, t_wish_Seek_1, s_Fits w x.Name f hl, Option.bind_some]
  cases fitV w x.Name f <;> rfl
theorem s_Seek {n : T_Net} (hn : netGood n) (l : List T_Wish) (hl : l.length ≤ 8) : ∃ r, t_wish_Seek n.Topo l (fun a21 a22 => t_wish_Holds_1 a21 a22 n) = some r ∧ (r.2 = true → Broken n l r.1) ∧ (r.2 = false → ∀ w ∈ l, ∀ x ∈ n.Topo.Hosts, Fit n w x) := by
  have hM : maxI = 9223372036854775807 := rfl
  have hnh := hn.topo.nh
  unfold t_wish_Seek
  simp only [join_eq]
  refine loopI_ex (fun i m _ => 0 ≤ i ∧ (∃ pre, l = pre ++ m ∧ (pre.length : Int) = i) ∧ ∀ w ∈ l, w ∈ m ∨ ∀ x ∈ n.Topo.Hosts, Fit n w x) (by omega) ⟨Int.le_refl _, ⟨[], rfl, rfl⟩, fun w hw => .inl hw⟩ (fun i s hI => ?_) (fun i w m s k hI hk => ?_)
  · exact ⟨_, rfl, fun h => (by cases h), fun _ w hw => (hI.2.2 w hw).resolve_left (by simp)⟩
  · obtain ⟨i0, ⟨pre, hp, hpi⟩, hI⟩ := hI
    have hwi : l[pre.length]? = some w := by rw [hp]; simp
    refine loopI_ex (fun _ m2 _ => (∀ x ∈ m2, x ∈ n.Topo.Hosts) ∧ ∀ x ∈ n.Topo.Hosts, x ∈ m2 ∨ Fit n w x) (by omega) ⟨fun _ h => h, fun x hx => .inl hx⟩ (fun j s hJ => ?_) (fun j x m2 s k2 hJ hk2 => ?_)
    · refine hk s ⟨by omega, ⟨pre ++ [w], by rw [hp]; simp, by simp; omega⟩, fun w' hw' => ?_⟩
      rcases hI w' hw' with h | h
      · rcases List.mem_cons.1 h with rfl | h
        · exact .inr fun x hx => (hJ.2 x hx).resolve_left (by simp)
        · exact .inl h
      · exact .inr h
    · have hx := hJ.1 x (by simp)
      have next : (asks w x → ∀ h, 0 ≤ h ∧ h < 16 → fitV w x.Name (fateV n x h) = true) → (∀ y ∈ m2, y ∈ n.Topo.Hosts) ∧ ∀ y ∈ n.Topo.Hosts, y ∈ m2 ∨ Fit n w y := fun hf => ⟨fun y hy => hJ.1 y (by simp [hy]), fun y hy => by
        rcases hJ.2 y hy with h | h
        · rcases List.mem_cons.1 h with rfl | h
          · exact .inr hf
          · exact .inl h
        · exact .inr h⟩
      by_cases ha : asks w x
      · have hc : ¬ (decide (w.What ≠ 4) && !decide (x.Name = w.From)) = true := by
          unfold asks at ha
          rcases ha with h | h <;> simp [h]
        rw [if_neg hc, loopU_eq (by omega) (by omega), show ((16 : Int) - 0).toNat = 16 from rfl]
        refine goU_ex (I := fun m i _ => (m : Int) + i = 16 ∧ 0 ≤ i ∧ ∀ h, 0 ≤ h ∧ h < i → fitV w x.Name (fateV n x h) = true) (fun i s hK => ?_) (fun m3 i3 s k3 hK hk3 => ?_) 16 0 () ⟨rfl, Int.le_refl _, fun h hh => by omega⟩
        · refine hk2 _ (next fun _ h hh => hK.2.2 h (by have := hK.1; omega))
        · obtain ⟨q1, q2, q3⟩ := hK
          have hh : 0 ≤ i3 ∧ i3 < 16 := ⟨q2, by omega⟩
          obtain ⟨f1, f2, _⟩ := s_fateV hn hx hh
          have hg : t_wish_Holds_1 x i3 n = some [fateV n x i3] := by
            unfold t_wish_Holds_1
            rw [f1]
            rfl
          rw [hg]
          simp only [Option.bind_some]
          rw [s_anyFate _ w x (by omega)]
          simp only [Option.bind_some]
          cases hfit : fitV w x.Name (fateV n x i3) with
          | false =>
            rw [if_pos (by rfl)]
            exact ⟨_, rfl, fun _ => ⟨pre.length, w, x, i3, hwi, hx, ha, hh, hfit, by rw [hpi]⟩, fun h => by cases h⟩
          | true =>
            rw [if_neg (by decide)]
            refine hk3 () ⟨by omega, by omega, fun h hh2 => ?_⟩
            by_cases e : h = i3
            · rw [e]; exact hfit
            · exact q3 h ⟨hh2.1, by omega⟩
      · have hc : (decide (w.What ≠ 4) && !decide (x.Name = w.From)) = true := by
          unfold asks at ha
          simp only [not_or] at ha
          simp [ha.1, ha.2]
        rw [if_pos hc]
        exact hk2 _ (next fun h => absurd h ha)
theorem s_one {T : T_Topo} (hn : ∀ h ∈ T.Hosts, (h.Name.size : Int) ≤ maxI) (w : T_Wish) : ∃ c, t_wish_one T w = some c ∧ (c = 0 → w.What ≠ 4 → t_topo_Check T = some 0 ∧ ∃ x ∈ T.Hosts, x.Name = w.From) := by
  unfold t_wish_one
  have hb : ∃ b, t_wish_kind w.What = some b := ⟨_, rfl⟩
  obtain ⟨b, hb⟩ := hb
  rw [hb]
  simp only [Option.bind_some]
  have h2 : ∃ s9 : Bool, (if (!b) = true then some (!b) else (if (decide (w.What = 3) && (decide (w.Via < 1) || decide (T.Switches < w.Via))) = true then some (decide (w.What = 3) && (decide (w.Via < 1) || decide (T.Switches < w.Via))) else some (decide (w.What ≠ 3) && decide (w.Via ≠ 0))).bind fun s110 => some s110) = some s9 := by
    split
    · exact ⟨_, rfl⟩
    · split <;> exact ⟨_, rfl⟩
  obtain ⟨s9, h2⟩ := h2
  rw [h2]
  simp only [Option.bind_some]
  split
  · exact ⟨1, rfl, fun h => by cases h⟩
  split
  · exact ⟨3, rfl, fun h => by cases h⟩
  split
  · rename_i h4
    exact ⟨0, rfl, fun _ h => absurd (by simpa using h4) h⟩
  simp only [join_eq]
  rw [loopI_eq (by have : maxI = 9223372036854775807 := rfl; simp; omega)]
  simp only [goI]
  obtain ⟨r1, f1, f2, _⟩ := s_WhereT hn w.From
  obtain ⟨r2, k1, _, _⟩ := s_WhereT hn w.To
  rw [f1]
  simp only [Option.bind_some]
  by_cases hr : r1.2 = 0
  · rw [if_neg (by simp [hr]), k1]
    simp only [Option.bind_some]
    obtain ⟨h5, x, hx, hx2, _⟩ := f2 hr
    split
    · exact ⟨_, rfl, fun _ _ => ⟨h5, x, hx, hx2⟩⟩
    · exact ⟨_, rfl, fun _ _ => ⟨h5, x, hx, hx2⟩⟩
  · rw [if_pos (by simp [hr])]
    exact ⟨_, rfl, fun h => absurd h hr⟩
theorem s_wishCheck {T : T_Topo} (hn : ∀ h ∈ T.Hosts, (h.Name.size : Int) ≤ maxI) (l : List T_Wish) : ∃ c, t_wish_Check T l = some c ∧ (c = 0 → l.length ≤ 8 ∧ ∀ w ∈ l, w.What ≠ 4 → ∃ x ∈ T.Hosts, x.Name = w.From) := by
  have hM : maxI = 9223372036854775807 := rfl
  unfold t_wish_Check
  obtain ⟨c, e1, _⟩ := s_topoCheck T hn
  rw [e1]
  simp only [Option.bind_some]
  split
  · rename_i hc
    exact ⟨c, rfl, fun h => by simp [h] at hc⟩
  split
  · exact ⟨4, rfl, fun h => by cases h⟩
  rename_i h8
  simp only [decide_eq_true_eq, Int.not_lt] at h8
  simp only [join_eq]
  refine loopI_ex (fun _ m _ => ∀ w ∈ l, w ∈ m ∨ (w.What ≠ 4 → ∃ x ∈ T.Hosts, x.Name = w.From)) (by omega) (fun w hw => .inl hw) (fun i s hI => ⟨0, rfl, fun _ => ⟨by omega, fun w hw => (hI w hw).resolve_left (by simp)⟩⟩) (fun i w m s k hI hk => ?_)
  obtain ⟨c2, f1, f2⟩ := s_one hn w
  rw [f1]
  simp only [Option.bind_some]
  split
  · rename_i hc
    exact ⟨c2, rfl, fun h => by simp [h] at hc⟩
  · rename_i hc
    have hc : c2 = 0 := by simpa using hc
    refine hk () fun w' hw' => ?_
    rcases hI w' hw' with h | h
    · rcases List.mem_cons.1 h with rfl | h
      · exact .inr fun h4 => (f2 hc h4).2
      · exact .inl h
    · exact .inr h
/-- what is told of wishes -/
theorem s_Holds (n : T_Net) (hn : ∀ h ∈ n.Topo.Hosts, (h.Name.size : Int) ≤ maxI) (l : List T_Wish) : ∃ r, t_wish_Holds n l = some r ∧ ((r.2 ≠ 0 ∧ r.2 ≠ 9) ∨ (netGood n ∧ t_net_Check n = some 0 ∧ (∀ w ∈ l, w.What ≠ 4 → ∃ x ∈ n.Topo.Hosts, x.Name = w.From) ∧ ((r.2 = 9 ∧ Broken n l r.1) ∨ (r.2 = 0 ∧ ∀ w ∈ l, ∀ x ∈ n.Topo.Hosts, Fit n w x)))) := by
  unfold t_wish_Holds
  obtain ⟨c, e1, e2⟩ := s_netCheck n hn
  rw [e1]
  simp only [Option.bind_some]
  by_cases hc : c = 0
  · subst hc
    have hg := e2 rfl
    simp only [decide_true, Bool.not_true, Bool.false_eq_true, if_false]
    obtain ⟨d, f1, f2⟩ := s_wishCheck hn l
    rw [f1]
    simp only [Option.bind_some]
    by_cases hd : d = 0
    · subst hd
      obtain ⟨g1, g2⟩ := f2 rfl
      simp only [decide_true, Bool.not_true, Bool.false_eq_true, if_false]
      obtain ⟨r, k1, k2, k3⟩ := s_Seek hg l g1
      rw [k1]
      simp only [Option.bind_some]
      cases hr : r.2 with
      | true => exact ⟨_, rfl, .inr ⟨hg, trivial, g2, .inl ⟨rfl, k2 hr⟩⟩⟩
      | false => exact ⟨_, rfl, .inr ⟨hg, trivial, g2, .inr ⟨rfl, k3 hr⟩⟩⟩
    · rw [if_pos (by simp [hd])]
      exact ⟨_, rfl, .inl ⟨hd, n9_wishes f1⟩⟩
  · rw [if_pos (by simp [hc])]
    exact ⟨_, rfl, .inl ⟨hc, n9_net e1⟩⟩
end Go.Proofs.YtpjadjoekdcjiaaDoor.Ty
