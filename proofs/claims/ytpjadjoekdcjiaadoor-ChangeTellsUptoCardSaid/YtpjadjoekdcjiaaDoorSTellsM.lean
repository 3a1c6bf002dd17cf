/- ChangeTells, as it is read: no memory in sight. -/
import Derived.Test.YtpjadjoekdcjiaaDoorSBase
import Derived.Test.YtpjadjoekdcjiaaDoorTyA
import Derived.Test.YtpjadjoekdcjiaaDoorVcS
import Derived.Test.YtpjadjoekdcjiaaDoorTablePlain
import Derived.Test.YtpjadjoekdcjiaaDoorDDTy
import Derived.Test.YtpjadjoekdcjiaaDoorPlain
namespace Go.Proofs.YtpjadjoekdcjiaaDoor.Ty
open Go Go.RowKit Go.Proofs.YtpjadjoekdcjiaaDoor.Den
set_option linter.unusedSimpArgs false
set_option linter.unusedVariables false
set_option maxRecDepth 100000

section
variable {α β σ : Type}
/-- a loop comes to something that has Q -/
theorem goI_ex {step : Int → α → σ → (σ → Option β) → Option β} {fin : σ → Option β} {I : Int → List α → σ → Prop} {Q : β → Prop} (hfin : ∀ i s, I i [] s → ∃ v, fin s = some v ∧ Q v)
    (hstep : ∀ i x l s k, I i (x :: l) s → (∀ s', I (i + 1) l s' → ∃ v, k s' = some v ∧ Q v) → ∃ v, step i x s k = some v ∧ Q v) : ∀ (l : List α) (i : Int) (s : σ), I i l s → ∃ v, goI step fin i l s = some v ∧ Q v
  | [], i, s, h => hfin i s h
  | x :: l, i, s, h => hstep i x l s _ h fun s' h' => goI_ex hfin hstep l (i + 1) s' h'
theorem loopI_ex {step : Int → α → σ → (σ → Option β) → Option β} {fin : σ → Option β} (I : Int → List α → σ → Prop) {Q : β → Prop} {l : List α} {s : σ} (hl : (l.length : Int) ≤ 9223372036854775807) (h0 : I 0 l s) (hfin : ∀ i s, I i [] s → ∃ v, fin s = some v ∧ Q v)
    (hstep : ∀ i x l s k, I i (x :: l) s → (∀ s', I (i + 1) l s' → ∃ v, k s' = some v ∧ Q v) → ∃ v, step i x s k = some v ∧ Q v) : ∃ v, loopI l step fin s = some v ∧ Q v := by
  rw [loopI_eq hl]; exact goI_ex hfin hstep l 0 s h0
end

def spotOk (T : T_Topo) (s : T_Spot) : Prop := 1 ≤ s.Switch ∧ s.Switch ≤ T.Switches ∧ 1 ≤ s.Port ∧ s.Port ≤ 4
structure topoGood (T : T_Topo) : Prop where
  sw : 1 ≤ T.Switches ∧ T.Switches ≤ 6
  nl : T.Links.length ≤ 200
  nh : T.Hosts.length ≤ 8
  links : ∀ l ∈ T.Links, spotOk T l.A ∧ spotOk T l.B
  hosts : ∀ h ∈ T.Hosts, h.Name ≠ ByteArray.mk #[] ∧ spotOk T h.At
def ruleGood (r : T_Rule) : Prop := (0 ≤ r.Out ∧ r.Out ≤ 4) ∧ (0 ≤ r.Set ∧ r.Set < 16) ∧ 0 ≤ r.Value ∧ r.Value < 16
def tblGood (t : List T_Rule) : Prop := t.length ≤ 12 ∧ ∀ r ∈ t, ruleGood r
structure netGood (n : T_Net) : Prop where
  topo : topoGood n.Topo
  chk : t_topo_Check n.Topo = some 0
  len : (n.Tables.length : Int) = n.Topo.Switches
  tabs : ∀ t ∈ n.Tables, tblGood t
theorem s_Spot (T : T_Topo) (s : T_Spot) : ∃ b, t_topo_Spot T s = some b ∧ (b = true ↔ spotOk T s) :=
  ⟨_, rfl, by simp [spotOk, and_assoc]⟩
theorem s_Header (h : Int) : ∃ b, t_cube_Header h = some b ∧ (b = true ↔ 0 ≤ h ∧ h < 16) := ⟨_, rfl, by simp⟩
theorem s_Name (s : ByteArray) (hs : (s.size : Int) ≤ maxI) : ∃ b, t_topo_Name s = some b ∧ (b = true → s ≠ ByteArray.mk #[]) := by
  unfold t_topo_Name
  rw [need_pos (by simpa using hs), join_eq]
  refine loopI_ex (fun _ _ _ => True) (by rw [numsOf_len]; exact hs) trivial (fun i s' _ => ⟨_, rfl, fun h => ?_⟩) (fun i x l s' k _ hk => ?_)
  · simp only [Bool.and_eq_true, Bool.not_eq_true', decide_eq_false_iff_not] at h
    exact h.1
  · split
    · exact ⟨false, rfl, fun h => by cases h⟩
    · exact hk () trivial
theorem s_topoCheck (T : T_Topo) (hn : ∀ h ∈ T.Hosts, (h.Name.size : Int) ≤ maxI) : ∃ c, t_topo_Check T = some c ∧ (c = 0 → topoGood T) := by
  unfold t_topo_Check
  split
  · exact ⟨1, rfl, fun h => by cases h⟩
  · rename_i h1
    simp only [Bool.or_eq_true, decide_eq_true_eq, not_or, Int.not_lt] at h1
    split
    · exact ⟨4, rfl, fun h => by cases h⟩
    · rename_i h2
      simp only [Bool.or_eq_true, decide_eq_true_eq, not_or, Int.not_lt] at h2
      simp only [join_eq]
      refine loopI_ex (fun _ l _ => ∀ x ∈ T.Links, x ∈ l ∨ (spotOk T x.A ∧ spotOk T x.B)) (by omega) (fun x hx => .inl hx) (fun i s hI => ?_) (fun i x l s k hI hk => ?_)
      · refine loopI_ex (fun _ l _ => (∀ x ∈ l, x ∈ T.Hosts) ∧ ∀ x ∈ T.Hosts, x ∈ l ∨ (x.Name ≠ ByteArray.mk #[] ∧ spotOk T x.At)) (by omega) ⟨fun _ h => h, fun x hx => .inl hx⟩ (fun i s hJ => ?_) (fun i x l s k hJ hk => ?_)
        · refine ⟨0, rfl, fun _ => ⟨h1, by omega, by omega, fun l hl => (hI l hl).resolve_left (by simp), fun h hh => (hJ.2 h hh).resolve_left (by simp)⟩⟩
        · have hx := hJ.1 x (by simp)
          obtain ⟨b, e1, e2⟩ := s_Name x.Name (hn x hx)
          rw [e1]
          simp only [Option.bind_some]
          split
          · exact ⟨2, rfl, fun h => by cases h⟩
          · rename_i hb
            obtain ⟨b2, f1, f2⟩ := s_Spot T x.At
            rw [f1]
            simp only [Option.bind_some]
            split
            · exact ⟨1, rfl, fun h => by cases h⟩
            · rename_i hb2
              split
              · exact ⟨7, rfl, fun h => by cases h⟩
              · refine hk _ ⟨fun y hy => hJ.1 y (by simp [hy]), fun y hy => ?_⟩
                rcases hJ.2 y hy with h | h
                · rcases List.mem_cons.1 h with rfl | h
                  · exact .inr ⟨e2 (by simpa using hb), f2.1 (by simpa using hb2)⟩
                  · exact .inl h
                · exact .inr h
      · obtain ⟨b, e1, e2⟩ := s_Spot T x.A
        obtain ⟨b2, f1, f2⟩ := s_Spot T x.B
        rw [e1, f1]
        simp only [Option.bind_some]
        cases hb1 : b with
        | false => exact ⟨1, by simp [gd], fun h => by cases h⟩
        | true =>
          cases hb2 : b2 with
          | false => exact ⟨1, by simp [gd], fun h => by cases h⟩
          | true =>
            simp only [gd, Bool.not_true, Bool.not_false, if_true, Option.bind_some, Bool.or_self, Bool.false_eq_true, if_false]
            split
            · exact ⟨7, rfl, fun h => by cases h⟩
            · refine hk _ fun y hy => ?_
              rcases hI y hy with h | h
              · rcases List.mem_cons.1 h with rfl | h
                · exact .inr ⟨e2.1 hb1, f2.1 hb2⟩
                · exact .inl h
              · exact .inr h

theorem s_ruleCheck (r : T_Rule) : ∃ c, t_rule_Check r = some c ∧ (c = 0 → ruleGood r) := by
  unfold t_rule_Check
  obtain ⟨b1, e1, f1⟩ := s_Header r.Set
  obtain ⟨b2, e2, f2⟩ := s_Header r.Value
  rw [e1, e2]
  obtain ⟨c, hc⟩ : ∃ c, t_cube_Check r.Cube = some c := by
    unfold t_cube_Check
    obtain ⟨b3, e3, _⟩ := s_Header r.Cube.Mask
    obtain ⟨b4, e4, _⟩ := s_Header r.Cube.Bits
    rw [e3, e4]
    cases b3 <;> cases b4 <;> simp only [gd, Bool.not_true, Bool.not_false, if_true, Bool.or_self, Bool.true_or, Bool.or_true, Bool.false_eq_true, if_false, Option.bind_some] <;> first | exact ⟨_, rfl⟩ | (split <;> exact ⟨_, rfl⟩)
  rw [hc]
  cases hA : (((decide (r.Prio < 0) || decide (99 < r.Prio)) || decide (r.Out < 0)) || decide (4 < r.Out)) with
  | true => exact ⟨1, by simp [gd], fun h => by cases h⟩
  | false =>
    cases hb1 : b1 with
    | false => exact ⟨1, by simp [gd], fun h => by cases h⟩
    | true =>
      cases hb2 : b2 with
      | false => exact ⟨1, by simp [gd], fun h => by cases h⟩
      | true =>
        simp only [Bool.or_eq_false_iff, decide_eq_false_iff_not, Int.not_lt] at hA
        have hg : ruleGood r := ⟨⟨hA.1.2, hA.2⟩, f1.1 hb1, f2.1 hb2⟩
        simp only [gd, Bool.not_false, Bool.not_true, if_true, Option.bind_some, Bool.or_self, Bool.false_eq_true, if_false]
        split
        · exact ⟨_, rfl, fun _ => hg⟩
        · split <;> exact ⟨_, rfl, fun _ => hg⟩
theorem s_ruleTable (t : List T_Rule) : ∃ c, t_rule_Table t = some c ∧ (c = 0 → tblGood t) := by
  unfold t_rule_Table
  split
  · exact ⟨4, rfl, fun h => by cases h⟩
  · rename_i h1
    simp only [decide_eq_true_eq, Int.not_lt] at h1
    simp only [join_eq]
    refine loopI_ex (fun i l _ => 0 ≤ i ∧ i + l.length = t.length ∧ ∀ x ∈ t, x ∈ l ∨ ruleGood x) (by omega) ⟨Int.le_refl _, by omega, fun x hx => .inl hx⟩ (fun i s hI => ⟨0, rfl, fun _ => ⟨by omega, fun r hr => (hI.2.2 r hr).resolve_left (by simp)⟩⟩) (fun i x l s k hI hk => ?_)
    obtain ⟨c, e1, e2⟩ := s_ruleCheck x
    rw [e1]
    simp only [Option.bind_some]
    split
    · rename_i hc
      refine ⟨c, rfl, fun h => ?_⟩
      simp [h] at hc
    · rename_i hc
      obtain ⟨i0, il, ia⟩ := hI
      have hs : slc_hi t i = some (t.take i.toNat) := if_pos ⟨i0, by simp at il; omega⟩
      rw [hs]
      simp only [Option.bind_some]
      have hfn : ∀ (l : List T_Rule), l.length ≤ 12 → ∃ j, t_slices_IndexFunc_api_Table_api_Rule l (fun a33 => t_rule_Table_1 a33 x) = some j ∧ True := fun l hl => by
        unfold t_slices_IndexFunc_api_Table_api_Rule
        simp only [join_eq]
        refine loopI_ex (fun _ _ _ => True) (by omega) trivial (fun _ _ _ => ⟨_, rfl, trivial⟩) (fun i y l s k _ hk => ?_)
        simp only [t_rule_Table_1, t_rule_Key, Option.bind_some]
        split
        · exact ⟨_, rfl, trivial⟩
        · exact hk () trivial
      obtain ⟨j, hj, _⟩ := hfn (t.take i.toNat) (by simp; omega)
      unfold t_slices_ContainsFunc_api_Table_api_Rule
      rw [hj]
      simp only [Option.bind_some]
      split
      · exact ⟨7, rfl, fun h => by cases h⟩
      · refine hk () ⟨by omega, by simp at il; omega, fun y hy => ?_⟩
        rcases ia y hy with h | h
        · rcases List.mem_cons.1 h with rfl | h
          · exact .inr (e2 (by simpa using hc))
          · exact .inl h
        · exact .inr h
theorem s_netCheck (n : T_Net) (hn : ∀ h ∈ n.Topo.Hosts, (h.Name.size : Int) ≤ maxI) : ∃ c, t_net_Check n = some c ∧ (c = 0 → netGood n) := by
  unfold t_net_Check
  obtain ⟨c, e1, e2⟩ := s_topoCheck n.Topo hn
  rw [e1]
  simp only [Option.bind_some]
  split
  · rename_i hc
    refine ⟨c, rfl, fun h => ?_⟩
    simp [h] at hc
  · rename_i hc
    have hc : c = 0 := by simpa using hc
    subst hc
    have hg := e2 rfl
    split
    · exact ⟨3, rfl, fun h => by cases h⟩
    · rename_i hl
      have hl : (n.Tables.length : Int) = n.Topo.Switches := by simpa using hl
      simp only [join_eq]
      have := hg.sw
      refine loopI_ex (fun _ l _ => ∀ x ∈ n.Tables, x ∈ l ∨ tblGood x) (by omega) (fun x hx => .inl hx) (fun i s hI => ⟨0, rfl, fun _ => ⟨hg, e1, hl, fun t ht => (hI t ht).resolve_left (by simp)⟩⟩) (fun i x l s k hI hk => ?_)
      obtain ⟨c, f1, f2⟩ := s_ruleTable x
      rw [f1]
      simp only [Option.bind_some]
      split
      · rename_i hc
        refine ⟨c, rfl, fun h => ?_⟩
        simp [h] at hc
      · rename_i hc
        refine hk () fun y hy => ?_
        rcases hI y hy with h | h
        · rcases List.mem_cons.1 h with rfl | h
          · exact .inr (f2 (by simpa using hc))
          · exact .inl h
        · exact .inr h
theorem s_cubeCheckV (c : T_Cube) : t_cube_Check c = some (Go.Proofs.YtpjadjoekdcjiaaDoor.cchk c.Mask c.Bits) := by
  unfold t_cube_Check Go.Proofs.YtpjadjoekdcjiaaDoor.cchk t_cube_Header
  by_cases h1 : 0 ≤ c.Mask ∧ c.Mask < 16
  · by_cases h2 : 0 ≤ c.Bits ∧ c.Bits < 16
    · by_cases h3 : bits .andNot .i64 c.Bits c.Mask = 0 <;> simp [h1, h2, h3, gd_true]
    · have : ¬ (0 ≤ c.Bits) ∨ ¬ (c.Bits < 16) := by omega
      rcases this with h | h <;> simp [h1, h2, h, gd_true]
  · have : ¬ (0 ≤ c.Mask) ∨ ¬ (c.Mask < 16) := by omega
    rcases this with h | h <;> simp [h1, h, gd_false]
theorem s_ruleCheckV (r : T_Rule) : t_rule_Check r = some (rlOf r).chk := by
  unfold t_rule_Check Rl.chk Go.Proofs.YtpjadjoekdcjiaaDoor.rchk t_cube_Header
  rw [s_cubeCheckV]
  show _ = some (if 0 ≤ r.Prio ∧ r.Prio ≤ 99 ∧ 0 ≤ r.Out ∧ r.Out ≤ 4 ∧ (0 ≤ r.Set ∧ r.Set < 16) ∧ (0 ≤ r.Value ∧ r.Value < 16) then (if Go.Proofs.YtpjadjoekdcjiaaDoor.cchk r.Cube.Mask r.Cube.Bits = 0 then (if bits .andNot .i64 r.Value r.Set = 0 ∧ ¬ (r.Out = 0 ∧ r.Set ≠ 0) then 0 else 3) else Go.Proofs.YtpjadjoekdcjiaaDoor.cchk r.Cube.Mask r.Cube.Bits) else 1)
  have hR1 : (0 ≤ r.Prio ∧ r.Prio ≤ 99 ∧ 0 ≤ r.Out ∧ r.Out ≤ 4 ∧ (0 ≤ r.Set ∧ r.Set < 16) ∧ (0 ≤ r.Value ∧ r.Value < 16)) → (if 0 ≤ r.Prio ∧ r.Prio ≤ 99 ∧ 0 ≤ r.Out ∧ r.Out ≤ 4 ∧ (0 ≤ r.Set ∧ r.Set < 16) ∧ (0 ≤ r.Value ∧ r.Value < 16) then (if Go.Proofs.YtpjadjoekdcjiaaDoor.cchk r.Cube.Mask r.Cube.Bits = 0 then (if bits .andNot .i64 r.Value r.Set = 0 ∧ ¬ (r.Out = 0 ∧ r.Set ≠ 0) then 0 else 3) else Go.Proofs.YtpjadjoekdcjiaaDoor.cchk r.Cube.Mask r.Cube.Bits) else 1) = (if Go.Proofs.YtpjadjoekdcjiaaDoor.cchk r.Cube.Mask r.Cube.Bits = 0 then (if bits .andNot .i64 r.Value r.Set = 0 ∧ ¬ (r.Out = 0 ∧ r.Set ≠ 0) then 0 else 3) else Go.Proofs.YtpjadjoekdcjiaaDoor.cchk r.Cube.Mask r.Cube.Bits) := fun h => if_pos h
  have hR0 : ¬ (0 ≤ r.Prio ∧ r.Prio ≤ 99 ∧ 0 ≤ r.Out ∧ r.Out ≤ 4 ∧ (0 ≤ r.Set ∧ r.Set < 16) ∧ (0 ≤ r.Value ∧ r.Value < 16)) → (if 0 ≤ r.Prio ∧ r.Prio ≤ 99 ∧ 0 ≤ r.Out ∧ r.Out ≤ 4 ∧ (0 ≤ r.Set ∧ r.Set < 16) ∧ (0 ≤ r.Value ∧ r.Value < 16) then (if Go.Proofs.YtpjadjoekdcjiaaDoor.cchk r.Cube.Mask r.Cube.Bits = 0 then (if bits .andNot .i64 r.Value r.Set = 0 ∧ ¬ (r.Out = 0 ∧ r.Set ≠ 0) then 0 else 3) else Go.Proofs.YtpjadjoekdcjiaaDoor.cchk r.Cube.Mask r.Cube.Bits) else 1) = 1 := fun h => if_neg h
  generalize (if 0 ≤ r.Prio ∧ r.Prio ≤ 99 ∧ 0 ≤ r.Out ∧ r.Out ≤ 4 ∧ (0 ≤ r.Set ∧ r.Set < 16) ∧ (0 ≤ r.Value ∧ r.Value < 16) then (if Go.Proofs.YtpjadjoekdcjiaaDoor.cchk r.Cube.Mask r.Cube.Bits = 0 then (if bits .andNot .i64 r.Value r.Set = 0 ∧ ¬ (r.Out = 0 ∧ r.Set ≠ 0) then 0 else 3) else Go.Proofs.YtpjadjoekdcjiaaDoor.cchk r.Cube.Mask r.Cube.Bits) else 1) = R at hR1 hR0
  cases hA : (((decide (r.Prio < 0) || decide (99 < r.Prio)) || decide (r.Out < 0)) || decide (4 < r.Out)) with
  | true =>
    rw [hR0 (by simp only [Bool.or_eq_true, decide_eq_true_eq] at hA; omega)]
    simp [gd]
  | false =>
    simp only [Bool.or_eq_false_iff, decide_eq_false_iff_not, Int.not_lt] at hA
    by_cases h1 : 0 ≤ r.Set ∧ r.Set < 16
    · by_cases h2 : 0 ≤ r.Value ∧ r.Value < 16
      · rw [hR1 ⟨hA.1.1.1, hA.1.1.2, hA.1.2, hA.2, h1, h2⟩]
        have e1 : (decide (0 ≤ r.Set) && decide (r.Set < 16)) = true := by simp [h1]
        have e2 : (decide (0 ≤ r.Value) && decide (r.Value < 16)) = true := by simp [h2]
        simp only [Bool.not_false, gd_true, e1, e2, Option.bind_some, Bool.not_true, Bool.or_self, Bool.false_eq_true, if_false]
        by_cases h3 : Go.Proofs.YtpjadjoekdcjiaaDoor.cchk r.Cube.Mask r.Cube.Bits = 0
        · rw [if_neg (by simpa using h3), if_pos h3]
          generalize bits .andNot .i64 r.Value r.Set = B
          by_cases h4 : B = 0 <;> by_cases h5 : r.Out = 0 <;> by_cases h6 : r.Set = 0 <;> simp [h4, h5, h6]
        · rw [if_pos (by simpa using h3), if_neg h3]
      · rw [hR0 (by omega)]
        have e1 : (decide (0 ≤ r.Set) && decide (r.Set < 16)) = true := by simp [h1]
        have e2 : (decide (0 ≤ r.Value) && decide (r.Value < 16)) = false := by simp; omega
        simp only [Bool.not_false, gd_true, e1, e2, Option.bind_some, Bool.not_true, Bool.or_self, Bool.false_eq_true, if_false, Bool.or_true, if_true]
    · rw [hR0 (by omega)]
      have e1 : (decide (0 ≤ r.Set) && decide (r.Set < 16)) = false := by simp; omega
      simp [gd, e1]
theorem s_cfV (x : T_Rule) (l : List T_Rule) (hl : (l.length : Int) ≤ maxI) : t_slices_ContainsFunc_api_Table_api_Rule l (fun a33 => t_rule_Table_1 a33 x) = some (l.any fun y => (rlOf y).key (rlOf x)) := by
  unfold t_slices_ContainsFunc_api_Table_api_Rule t_slices_IndexFunc_api_Table_api_Rule
  rw [join_eq, loopI_eq hl]
  have hk : ∀ y : T_Rule, t_rule_Table_1 y x = some ((rlOf y).key (rlOf x)) := fun y => by
    unfold t_rule_Table_1 t_rule_Key
    simp only [Option.bind_some, Option.some.injEq]
    show (decide (y.Prio = x.Prio) && decide (y.Cube = x.Cube)) = decide (y.Prio = x.Prio ∧ y.Cube.Mask = x.Cube.Mask ∧ y.Cube.Bits = x.Cube.Bits)
    rw [Bool.eq_iff_iff]
    simp [T_Cube.ext_iff2]
  have : ∀ (l : List T_Rule) (i : Int), 0 ≤ i → ∃ j, goI (fun (i13 : Int) x14 (s9 : Unit) k10 => (t_rule_Table_1 x14 x).bind fun r22 => if r22 = true then (some i13) else (k10 ())) (fun _ => some (-1 : Int)) i l () = some j ∧ (decide (0 ≤ j)) = l.any fun y => (rlOf y).key (rlOf x) := by
    intro l
    induction l with
    | nil => intro i _; exact ⟨-1, rfl, rfl⟩
    | cons y l ih =>
      intro i hi
      rw [goI, hk, Option.bind_some]
      cases h : (rlOf y).key (rlOf x) with
      | true => exact ⟨i, if_pos rfl, by simp [h, hi]⟩
      | false =>
        obtain ⟨j, h1, h2⟩ := ih (i + 1) (by omega)
        refine ⟨j, ?_, by rw [h2]; simp [h]⟩
        rw [if_neg (by simp)]; exact h1
  obtain ⟨j, h1, h2⟩ := this l 0 (Int.le_refl _)
  rw [h1, Option.bind_some, h2]
theorem s_rTableV (t : List T_Rule) : t_rule_Table t = some (tchk (t.map rlOf)) := by
  have hM : maxI = 9223372036854775807 := rfl
  unfold t_rule_Table tchk
  rw [List.length_map]
  by_cases h1 : t.length > 12
  · rw [if_pos (by simp; omega), if_pos h1]
  · rw [if_neg (by simp; omega), if_neg h1, join_eq, loopI_eq (by omega)]
    have : ∀ (l p : List T_Rule), t = p ++ l → goI (fun (i17 : Int) x18 (s13 : Unit) k14 =>
        (t_rule_Check x18).bind fun r28 =>
        if (!decide (r28 = 0)) = true then (some r28) else (
        (slc_hi t i17).bind fun r32 =>
        (t_slices_ContainsFunc_api_Table_api_Rule r32 (fun (a33 : T_Rule) => t_rule_Table_1 a33 x18)).bind fun r35 =>
        if r35 = true then (some 7) else (k14 ()))) (fun (s13 : Unit) => some 0) (p.length : Int) l () = some (tfaultFrom (p.map rlOf) (l.map rlOf)) := by
      intro l
      induction l with
      | nil => intro p _; rfl
      | cons x l ih =>
        intro p hp
        have hpl : p.length ≤ t.length := by rw [hp]; simp
        rw [goI, s_ruleCheckV, Option.bind_some, List.map_cons, tfaultFrom]
        by_cases h2 : (rlOf x).chk = 0
        · have hs : slc_hi t (p.length : Int) = some p := by
            unfold slc_hi
            rw [if_pos ⟨by omega, by omega⟩, Int.toNat_natCast, hp]; simp
          rw [if_neg (by simpa using h2), if_neg (by simpa using h2), hs, Option.bind_some, s_cfV x p (by omega), Option.bind_some]
          have ha : (p.any fun y => (rlOf y).key (rlOf x)) = ((p.map rlOf).any fun y => y.key (rlOf x)) := by rw [List.any_map]; rfl
          rw [ha]
          cases hk : (p.map rlOf).any fun y => y.key (rlOf x) with
          | true => rfl
          | false =>
            rw [if_neg (by simp), if_neg (by simp)]
            have := ih (p ++ [x]) (by rw [hp]; simp)
            simp only [List.length_append, List.length_singleton, List.map_append, List.map_cons, List.map_nil] at this
            have e : (p.length : Int) + 1 = ((p.length + 1 : Nat) : Int) := by omega
            rw [e]; exact this
        · rw [if_pos (by simpa using h2), if_pos h2]
    exact this t [] rfl
/-- a change that is right makes a table that is right -/
theorem do_tok {t : List T_Rule} {add : Bool} {r : T_Rule} (h : doF t add r = 0) : Tok (t.map rlOf) ∧ Tok ((doV t add r).map rlOf) := by
  have h' : tdoF (t.map rlOf) add (rlOf r) = 0 := h
  have ht : Tok (t.map rlOf) := by
    refine tchk_iff.1 ?_
    by_cases h0 : tchk (t.map rlOf) = 0
    · exact h0
    · unfold tdoF at h'
      rw [if_pos h0] at h'
      exact h'
  have hv : (doV t add r).map rlOf = tdoR (t.map rlOf) add (rlOf r) := by
    unfold doV
    rw [tdoV_ok h', List.map_map]; exact List.map_id _
  refine ⟨ht, ?_⟩
  rw [hv]
  cases add with
  | true =>
    have := tdo_add_tok h'
    unfold tdoR
    rw [if_pos rfl]; exact this
  | false =>
    unfold tdoR
    rw [if_neg (by simp)]
    exact ht.sub (List.eraseIdx_sublist _ _)

def nilNet : T_Net := T_Net.mk (T_Topo.mk 0 [] []) []
/-- a net that is right -/
structure NOk (n : T_Net) : Prop where
  sw : 1 ≤ n.Topo.Switches ∧ n.Topo.Switches ≤ 6
  chk : t_topo_Check n.Topo = some 0
  nl : n.Topo.Links.length ≤ 200
  nh : n.Topo.Hosts.length ≤ 8
  len : (n.Tables.length : Int) = n.Topo.Switches
  tabs : ∀ t ∈ n.Tables, Tok (t.map rlOf)
theorem netCheck_first (n : T_Net) (hg : topoGood n.Topo) (hc : t_topo_Check n.Topo = some 0) (hl : (n.Tables.length : Int) = n.Topo.Switches) : t_net_Check n = some (firstF (fun t => tchk (t.map rlOf)) n.Tables) := by
  have hM : maxI = 9223372036854775807 := rfl
  have := hg.sw
  unfold t_net_Check
  rw [hc, Option.bind_some, if_neg (by simp), if_neg (by simpa using hl), join_eq, loopI_eq (by omega)]
  refine goI_first rfl _ _ fun x _ i k => ?_
  rw [s_rTableV, Option.bind_some]
  by_cases h : tchk (x.map rlOf) = 0
  · rw [if_neg (by simpa using h), if_neg (by simpa using h)]
  · rw [if_pos (by simpa using h), if_pos h]
theorem netCheck_ok {n : T_Net} (hn : ∀ h ∈ n.Topo.Hosts, (h.Name.size : Int) ≤ maxI) : t_net_Check n = some 0 ↔ NOk n := by
  constructor
  · intro h
    obtain ⟨c, h1, h2⟩ := s_netCheck n hn
    rw [h] at h1
    obtain rfl := Option.some.inj h1
    have hg := h2 rfl
    refine ⟨hg.topo.sw, hg.chk, hg.topo.nl, hg.topo.nh, hg.len, ?_⟩
    rw [netCheck_first n hg.topo hg.chk hg.len] at h
    exact fun t ht => tchk_iff.1 (firstF_0.1 (Option.some.inj h) t ht)
  · intro h
    obtain ⟨c, h1, h2⟩ := s_topoCheck n.Topo hn
    rw [h.chk] at h1
    obtain rfl := Option.some.inj h1
    rw [netCheck_first n (h2 rfl) h.chk h.len, firstF_0.2 fun t ht => tchk_iff.2 (h.tabs t ht)]
theorem s_Own (n : T_Net) (h : NOk n) : t_change_Own n = some n := by
  have hM : maxI = 9223372036854775807 := rfl
  have h1 := h.sw
  have h2 := h.nl
  have h3 := h.nh
  have h4 := h.len
  have hc : ∀ {α : Type} (l : List α), l.length ≤ 4294967296 → cln l = some l := fun l hl => if_pos hl
  unfold t_change_Own
  rw [hc _ (by omega), Option.bind_some, hc _ (by omega), Option.bind_some]
  have ho : omake (n.Tables.length : Int) (n.Tables.length : Int) ([] : List T_Rule) = some (List.replicate n.Tables.length []) := by
    unfold omake
    rw [if_pos ⟨rfl, by omega, by omega⟩, Int.toNat_natCast]
  rw [ho, Option.bind_some, loopI_eq (by omega)]
  have : ∀ (l p : List (List T_Rule)), n.Tables = p ++ l → goI (fun (i46 : Int) x47 (s42 : (List (List T_Rule))) k43 =>
      (cln x47).bind fun r55 => need (decide (0 ≤ i46) && decide (i46 < (List.length s42 : Int))) ((oset s42 i46 r55).bind fun r60 => k43 (r60))) (fun (s42 : (List (List T_Rule))) => some (s42)) (p.length : Int) l (p ++ List.replicate l.length []) = some (p ++ l) := by
    intro l
    induction l with
    | nil => intro p _; simp [goI]
    | cons x l ih =>
      intro p hp
      have hx : x.length ≤ 12 := by
        have := (h.tabs x (by rw [hp]; simp)).len
        simpa using this
      rw [goI, hc x (by omega), Option.bind_some, need_pos (by simp; omega)]
      have hs : oset (p ++ List.replicate (x :: l).length []) (p.length : Int) x = some (p ++ [x] ++ List.replicate l.length []) := by
        unfold oset
        rw [if_pos ⟨by omega, by simp; omega⟩, Int.toNat_natCast, List.length_cons, List.replicate_succ]
        simp
      rw [hs, Option.bind_some]
      have := ih (p ++ [x]) (by rw [hp]; simp)
      simp only [List.length_append, List.length_singleton] at this
      have e : (p.length : Int) + 1 = ((p.length + 1 : Nat) : Int) := by omega
      rw [e]
      refine this.trans ?_
      simp
  have := this n.Tables [] rfl
  simp only [List.length_nil, List.nil_append] at this
  refine (congrArg (fun X : Option (List (List T_Rule)) => X.bind fun s31 => some (T_Net.mk (T_Topo.mk n.Topo.Switches n.Topo.Links n.Topo.Hosts) s31)) this).trans ?_
  rfl
/-- the table of a switch -/
def tabAt (s : T_Net) (x : Int) : List T_Rule := s.Tables.getD (x - 1).toNat []
def opF (s : T_Net) (x : T_Op) : Int := if x.Switch < 1 ∨ s.Topo.Switches < x.Switch then 1 else doF (tabAt s x.Switch) x.Add x.Rule
def opR (s : T_Net) (x : T_Op) : T_Net := ⟨s.Topo, s.Tables.set (x.Switch - 1).toNat (doV (tabAt s x.Switch) x.Add x.Rule)⟩
def appL : List T_Op → T_Net → T_Net × Int
  | [], s => (s, 0)
  | x :: l, s => if opF s x ≠ 0 then (nilNet, opF s x) else appL l (opR s x)
theorem tabAt_mem {s : T_Net} (h : (s.Tables.length : Int) = s.Topo.Switches) {x : Int} (h1 : 1 ≤ x) (h2 : x ≤ s.Topo.Switches) : tabAt s x ∈ s.Tables ∧ idx s.Tables (x - 1) = some (tabAt s x) := by
  have hlt : (x - 1).toNat < s.Tables.length := by omega
  unfold tabAt
  rw [List.getD, List.getElem?_eq_getElem hlt]
  refine ⟨List.getElem_mem hlt, ?_⟩
  unfold idx
  rw [if_pos (by omega), List.getElem?_eq_getElem hlt]; rfl
theorem opR_ok {s : T_Net} (hs : NOk s) {x : T_Op} (h : opF s x = 0) : NOk (opR s x) := by
  unfold opF at h
  split at h
  · cases h
  · rename_i hr
    have hd := do_tok h
    refine ⟨hs.sw, hs.chk, hs.nl, hs.nh, ?_, fun t ht => ?_⟩
    · show ((s.Tables.set _ _).length : Int) = _
      rw [List.length_set]; exact hs.len
    · rcases List.mem_or_eq_of_mem_set ht with h | h
      · exact hs.tabs t h
      · rw [h]; exact hd.2
theorem appL_ok : ∀ (l : List T_Op) {s : T_Net}, NOk s → (appL l s).2 = 0 → NOk (appL l s).1 ∧ (appL l s).1.Topo = s.Topo
  | [], s, hs, _ => ⟨hs, rfl⟩
  | x :: l, s, hs, h => by
    unfold appL at h ⊢
    by_cases h0 : opF s x = 0
    · rw [if_neg (by simpa using h0)] at h ⊢
      exact appL_ok l (opR_ok hs h0) h
    · rw [if_pos h0] at h
      exact absurd h h0
theorem appGo : ∀ (l : List T_Op) (i : Int) (s : T_Net), NOk s → goI (fun (i38 : Int) x39 (s34 : T_Net) k35 =>
     if ((decide (x39.Switch < 1)) || (decide (s34.Topo.Switches < x39.Switch))) = true then (some ((T_Net.mk (T_Topo.mk 0 [] []) []), 1)) else (
     need (decide (0 ≤ (wr (x39.Switch - 1))) && decide ((wr (x39.Switch - 1)) < (List.length s34.Tables : Int))) (
     (idx s34.Tables (wr (x39.Switch - 1))).bind fun r75 =>
     (t_table_Do r75 x39.Add x39.Rule).bind fun r80 =>
     if (!decide (r80.2 = 0)) = true then (some ((T_Net.mk (T_Topo.mk 0 [] []) []), r80.2)) else (
     need (decide (0 ≤ (wr (x39.Switch - 1))) && decide ((wr (x39.Switch - 1)) < (List.length s34.Tables : Int))) (
     (oset s34.Tables (wr (x39.Switch - 1)) r80.1).bind fun r94 =>
     k35 (T_Net.mk s34.Topo r94)))))) (fun (s34 : T_Net) => some (s34, (0 : Int))) i l s = some (appL l s)
  | [], i, s, _ => rfl
  | x :: l, i, s, hs => by
    have h1 := hs.sw
    have h2 := hs.len
    rw [goI]
    unfold appL
    by_cases hr : x.Switch < 1 ∨ s.Topo.Switches < x.Switch
    · have hf : opF s x = 1 := if_pos hr
      rw [if_pos (by simpa using hr), if_pos (by rw [hf]; decide), hf]; rfl
    · have hf : opF s x = doF (tabAt s x.Switch) x.Add x.Rule := if_neg hr
      rw [if_neg (by simpa using hr), wr_id (by omega) (by omega)]
      have hb : (decide (0 ≤ x.Switch - 1) && decide (x.Switch - 1 < (s.Tables.length : Int))) = true := by simp; omega
      obtain ⟨hm, hi⟩ := tabAt_mem h2 (x := x.Switch) (by omega) (by omega)
      rw [need_pos hb, hi, Option.bind_some]
      unfold t_table_Do
      rw [Option.bind_some]
      simp only []
      by_cases h0 : opF s x = 0
      · have ho : oset s.Tables (x.Switch - 1) (doV (tabAt s x.Switch) x.Add x.Rule) = some (opR s x).Tables := if_pos ⟨by omega, by omega⟩
        rw [if_neg (by rw [← hf]; simpa using h0), if_neg (by simpa using h0), need_pos hb, ho, Option.bind_some]
        exact appGo l (i + 1) (opR s x) (opR_ok hs h0)
      · rw [if_pos (by rw [← hf]; simpa using h0), if_pos h0, hf]; rfl
theorem s_Apply (n : T_Net) (l : List T_Op) (hn : ∀ h ∈ n.Topo.Hosts, (h.Name.size : Int) ≤ maxI) : ∃ c, t_net_Check n = some c ∧ (c = 0 ↔ NOk n) ∧ t_change_Apply n l = some (if c ≠ 0 then (nilNet, c) else if 200 < l.length then (nilNet, 4) else appL l n) := by
  have hM : maxI = 9223372036854775807 := rfl
  obtain ⟨c, h1, _⟩ := s_netCheck n hn
  have hc : c = 0 ↔ NOk n := by rw [← netCheck_ok hn, h1]; simp
  refine ⟨c, h1, hc, ?_⟩
  unfold t_change_Apply
  rw [h1, Option.bind_some]
  by_cases h0 : c = 0
  · rw [if_neg (by simpa using h0), if_neg (show ¬ c ≠ 0 by simpa using h0)]
    have hk := hc.1 h0
    by_cases hl : 200 < l.length
    · rw [if_pos (by simp; omega), if_pos hl]; rfl
    · rw [if_neg (by simp; omega), if_neg hl, s_Own n hk, Option.bind_some, join_eq, loopI_eq (by omega)]
      exact appGo l 0 n hk
  · rw [if_pos (by simpa using h0), if_pos h0]; rfl
theorem same_go {α : Type} [DecidableEq α] {F : Option Bool} {b : List α} : ∀ (l p : List α), b = p ++ l → goI (fun i x (s : Unit) k => (idx b i).bind fun r => if (!decide (x = r)) = true then (some false) else (k ())) (fun _ => F) (p.length : Int) l () = F
  | [], p, _ => rfl
  | x :: l, p, h => by
    have hx : b[p.length]? = some x := by rw [h]; simp
    rw [goI, idx_nat, hx, Option.bind_some, if_neg (by simp)]
    have := same_go (F := F) (b := b) l (p ++ [x]) (by rw [h]; simp)
    simp only [List.length_append, List.length_singleton] at this
    have e : (p.length : Int) + 1 = ((p.length + 1 : Nat) : Int) := by omega
    rw [e]; exact this
theorem same_loop {α : Type} [DecidableEq α] {F : Option Bool} (b : List α) (hb : (b.length : Int) ≤ maxI) : loopI b (fun i x (s : Unit) k => (idx b i).bind fun r => if (!decide (x = r)) = true then (some false) else (k ())) (fun _ => F) () = F := by
  rw [loopI_eq hb]; exact same_go b [] rfl
theorem s_sameTopo (T : T_Topo) (h1 : T.Links.length ≤ 200) (h2 : T.Hosts.length ≤ 8) : t_railsame_Topo T T = some true := by
  have hM : maxI = 9223372036854775807 := rfl
  unfold t_railsame_Topo
  rw [show (((decide (T.Switches ≠ T.Switches)) || (decide ((List.length T.Links : Int) ≠ (List.length T.Links : Int)))) || (decide ((List.length T.Hosts : Int) ≠ (List.length T.Hosts : Int)))) = false by simp, Option.bind_some, if_neg (by simp), join_eq, join_eq, same_loop T.Links (by omega), same_loop T.Hosts (by omega)]
theorem s_sameTable (t : List T_Rule) (h : (t.length : Int) ≤ maxI) : t_railsame_Table t t = some true := by
  unfold t_railsame_Table
  rw [if_neg (by simp), join_eq, same_loop t h]
theorem s_sameNet {n : T_Net} (h : NOk n) : t_railsame_Net n n = some true := by
  have hM : maxI = 9223372036854775807 := rfl
  have h1 := h.sw
  have h2 := h.len
  unfold t_railsame_Net
  rw [s_sameTopo _ h.nl h.nh, Option.bind_some, if_neg (by simp), join_eq, loopI_eq (by omega)]
  have : ∀ (l p : List (List T_Rule)), n.Tables = p ++ l → goI (fun (i40 : Int) x41 (s36 : Unit) k37 => (idx n.Tables i40).bind fun r53 => (t_railsame_Table x41 r53).bind fun r56 => if (!r56) = true then (some false) else (k37 ())) (fun (s36 : Unit) => some true) (p.length : Int) l () = some true := by
    intro l
    induction l with
    | nil => intro p _; rfl
    | cons x l ih =>
      intro p hp
      have hx : n.Tables[p.length]? = some x := by rw [hp]; simp
      have hm : x ∈ n.Tables := by rw [hp]; simp
      have hxl := (h.tabs x hm).len
      rw [List.length_map] at hxl
      rw [goI, idx_nat, hx, Option.bind_some, s_sameTable x (by omega), Option.bind_some, if_neg (by simp)]
      have := ih (p ++ [x]) (by rw [hp]; simp)
      simp only [List.length_append, List.length_singleton] at this
      have e : (p.length : Int) + 1 = ((p.length + 1 : Nat) : Int) := by omega
      rw [e]; exact this
  exact this n.Tables [] rfl

def tog (x : T_Op) : T_Op := T_Op.mk x.Switch (!x.Add) x.Rule
def turnL (l : List T_Op) : List T_Op := l.reverse.map tog
noncomputable def revF (k11 : List T_Op × Int × Int → Option (List T_Op)) (s10 : List T_Op × Int × Int) : Option (List T_Op) :=
 if (decide (s10.2.1 < s10.2.2)) = true then (
 need (decide (0 ≤ s10.2.2) && decide (s10.2.2 < (List.length s10.1 : Int))) (
 (idx s10.1 s10.2.2).bind fun r20 =>
 need (decide (0 ≤ s10.2.1) && decide (s10.2.1 < (List.length s10.1 : Int))) (
 (idx s10.1 s10.2.1).bind fun r24 =>
 need (decide (0 ≤ s10.2.1) && decide (s10.2.1 < (List.length s10.1 : Int))) (
 (oset s10.1 s10.2.1 r20).bind fun r29 =>
 need (decide (0 ≤ s10.2.2) && decide (s10.2.2 < (List.length r29 : Int))) (
 (oset r29 s10.2.2 r24).bind fun r34 =>
 k11 (r34, (wr (s10.2.1 + 1)), (wr (s10.2.2 - 1)))))))) else (
 some (s10.1))
theorem revF_run (l : List T_Op) (hl : l.length ≤ 1048576) : ∀ (N i j : Nat) (s : List T_Op), i + j + 1 = l.length → i ≤ j + 1 → j + 3 ≤ N + i → s.length = l.length → (∀ k, s[k]? = if k < i ∨ j < k then l.reverse[k]? else l[k]?) → tfix revF N (s, (i : Int), (j : Int)) = some l.reverse
  | 0, i, j, s, h, hij, hN, hs, hk => by
    exfalso
    omega
  | N + 1, i, j, s, h, hij0, hN, hs, hk => by
    show revF (tfix revF N) _ = _
    unfold revF
    by_cases hij : i < j
    · have hi : i < l.length := by omega
      have hj : j < l.length := by omega
      have e1 : idx s (j : Int) = some l[j] := by rw [idx_nat, hk, if_neg (by omega), List.getElem?_eq_getElem hj]
      have e2 : idx s (i : Int) = some l[i] := by rw [idx_nat, hk, if_neg (by omega), List.getElem?_eq_getElem hi]
      have o1 : oset s (i : Int) l[j] = some (s.set i l[j]) := by unfold oset; rw [if_pos ⟨by omega, by omega⟩, Int.toNat_natCast]
      have o2 : oset (s.set i l[j]) (j : Int) l[i] = some ((s.set i l[j]).set j l[i]) := by unfold oset; rw [if_pos ⟨by omega, by simp; omega⟩, Int.toNat_natCast]
      simp only []
      rw [if_pos (by simpa using hij), need_pos (by simp; omega), e1, Option.bind_some, need_pos (by simp; omega), e2, Option.bind_some, need_pos (by simp; omega), o1, Option.bind_some, need_pos (by simp; omega), o2, Option.bind_some, wr_id (by omega) (by omega), wr_id (by omega) (by omega)]
      have ei : (i : Int) + 1 = ((i + 1 : Nat) : Int) := by omega
      have ej : (j : Int) - 1 = ((j - 1 : Nat) : Int) := by omega
      rw [ei, ej]
      refine revF_run l hl N (i + 1) (j - 1) _ (by omega) (by omega) (by omega) (by simp [hs]) fun k => ?_
      rw [List.getElem?_set, List.getElem?_set]
      by_cases hkj : j = k
      · subst hkj
        rw [if_pos rfl, if_pos (by simp; omega), if_pos (by omega), List.getElem?_reverse hj, show l.length - 1 - j = i by omega, List.getElem?_eq_getElem hi]
      · rw [if_neg hkj]
        by_cases hki : i = k
        · subst hki
          rw [if_pos rfl, if_pos (by omega), if_pos (by omega), List.getElem?_reverse hi, show l.length - 1 - i = j by omega, List.getElem?_eq_getElem hj]
        · rw [if_neg hki, hk]
          by_cases hc : k < i ∨ j < k
          · rw [if_pos hc, if_pos (by omega)]
          · rw [if_neg hc, if_neg (by omega)]
    · rw [if_neg (by simpa using hij)]
      congr 1
      refine List.ext_getElem? fun k => ?_
      rw [hk]
      by_cases hc : k < i ∨ j < k
      · rw [if_pos hc]
      · rw [if_neg hc, List.getElem?_reverse (by omega), show l.length - 1 - k = k by omega]
theorem s_Reverse (l : List T_Op) (hl : l.length ≤ 1048576) : t_slices_Reverse_api_Op_api_Op l = some l.reverse := by
  unfold t_slices_Reverse_api_Op_api_Op
  rw [bind_some_id]
  by_cases h0 : l = []
  · subst h0
    obtain ⟨N, hN⟩ : ∃ m, bigN = m + 1 := ⟨bigN - 1, by have := bigN_gt; omega⟩
    rw [hN]
    rfl
  · have hp : 0 < l.length := List.length_pos_iff.2 h0
    rw [wr_id (by omega) (by omega)]
    have e : (l.length : Int) - 1 = ((l.length - 1 : Nat) : Int) := by omega
    rw [e]
    have hb : l.length + 3 ≤ bigN := by
      have := bigN_gt
      omega
    refine revF_run l hl bigN 0 (l.length - 1) l (by omega) (by omega) (by omega) rfl fun k => ?_
    by_cases hc : k < 0 ∨ l.length - 1 < k
    · rw [if_pos hc, List.getElem?_eq_none (by omega), List.getElem?_eq_none (by simp; omega)]
    · rw [if_neg hc]
theorem s_Turn (l : List T_Op) (hl : l.length ≤ 1048576) : t_change_Turn l = some (turnL l) := by
  have hM : maxI = 9223372036854775807 := rfl
  unfold t_change_Turn
  have hc : cln l = some l := if_pos (by omega)
  rw [hc, Option.bind_some, s_Reverse l hl, Option.bind_some, bind_some_id, loopI_eq (by simp; omega)]
  unfold turnL
  generalize hr : l.reverse = r
  have : ∀ (m p : List T_Op), r = p ++ m → goI (fun (i19 : Int) x20 (s15 : (List T_Op)) k16 =>
      need (decide (0 ≤ i19) && decide (i19 < (List.length s15 : Int))) (
      (idx s15 i19).bind fun r29 =>
      need (decide (0 ≤ i19) && decide (i19 < (List.length s15 : Int))) (
      (oupd s15 i19 (fun a_ : T_Op => (T_Op.mk a_.Switch (!r29.Add) a_.Rule))).bind fun r36 =>
      k16 (r36)))) (fun (s15 : (List T_Op)) => some (s15)) (p.length : Int) m (p.map tog ++ m) = some ((p ++ m).map tog) := by
    intro m
    induction m with
    | nil => intro p _; simp [goI]
    | cons x m ih =>
      intro p hp
      have hx : idx (p.map tog ++ x :: m) (p.length : Int) = some x := by rw [idx_nat]; simp
      have hu : oupd (p.map tog ++ x :: m) (p.length : Int) (fun a_ : T_Op => (T_Op.mk a_.Switch (!x.Add) a_.Rule)) = some ((p ++ [x]).map tog ++ m) := by
        unfold oupd
        rw [hx, Option.map_some, Int.toNat_natCast]
        congr 1
        rw [List.set_append_right _ _ (by simp)]
        simp [tog]
      rw [goI, need_pos (by simp; omega), hx, Option.bind_some, need_pos (by simp; omega), hu, Option.bind_some]
      have := ih (p ++ [x]) (by rw [hp]; simp)
      simp only [List.length_append, List.length_singleton] at this
      have e : (p.length : Int) + 1 = ((p.length + 1 : Nat) : Int) := by omega
      rw [e]
      refine this.trans ?_
      simp
  exact this r [] rfl

/-- the table i of a net -/
def R (s : T_Net) (i : Nat) : List Rl := (s.Tables.getD i []).map rlOf
structure Eqv (a b : T_Net) : Prop where
  topo : a.Topo = b.Topo
  mem : ∀ i x, x ∈ R a i ↔ x ∈ R b i
theorem Eqv.refl (a : T_Net) : Eqv a a := ⟨rfl, fun _ _ => Iff.rfl⟩
theorem Eqv.trans {a b c : T_Net} (h : Eqv a b) (k : Eqv b c) : Eqv a c := ⟨h.topo.trans k.topo, fun i x => (h.mem i x).trans (k.mem i x)⟩
theorem NOk.tok {s : T_Net} (h : NOk s) {i : Nat} (hi : i < s.Tables.length) : Tok (R s i) := by
  unfold R
  rw [List.getD, List.getElem?_eq_getElem hi]
  exact h.tabs _ (List.getElem_mem hi)
theorem lens {a b : T_Net} (ha : NOk a) (hb : NOk b) (h : a.Topo = b.Topo) : a.Tables.length = b.Tables.length := by
  have h1 := ha.len
  have h2 := hb.len
  rw [h] at h1
  omega
def setSw (i : Nat) (o : T_Op) : T_Op := T_Op.mk ((i : Int) + 1) o.Add o.Rule
def diffAll : List (List T_Rule) → List (List T_Rule) → Nat → List T_Op
  | [], _, _ => []
  | t :: ts, us, i => (diffV t (us.getD i [])).map (setSw i) ++ diffAll ts us (i + 1)
theorem diffE_ok {t u : List T_Rule} (ht : Tok (t.map rlOf)) (hu : Tok (u.map rlOf)) : diffE t u = 0 := t2chk_of ht hu
theorem diffV_ok {t u : List T_Rule} (ht : Tok (t.map rlOf)) (hu : Tok (u.map rlOf)) : (diffV t u).map opOf = tdiff (t.map rlOf) (u.map rlOf) := by
  unfold diffV
  rw [if_pos (diffE_ok ht hu), List.map_map]; exact List.map_id _
theorem diffV_len {t u : List T_Rule} (ht : Tok (t.map rlOf)) (hu : Tok (u.map rlOf)) : (diffV t u).length ≤ 24 := by
  have h := congrArg List.length (diffV_ok ht hu)
  rw [List.length_map] at h
  rw [h]
  unfold tdiff
  rw [List.length_append]
  have h1 := lacks_le (t.map rlOf) (u.map rlOf) false
  have h2 := lacks_le (u.map rlOf) (t.map rlOf) true
  have h3 := ht.len
  have h4 := hu.len
  omega
theorem app_go (i : Nat) {fin : List T_Op → Option (List T_Op)} (hf : ∀ s, fin s = some s) : ∀ (l : List T_Op) (j : Int) (s : List T_Op), s.length + l.length ≤ 4294967296 → goI (fun (i53 : Int) x54 (s49 : (List T_Op)) k50 =>
     (app s49 ([(T_Op.mk ((i : Int) + 1) x54.Add x54.Rule)] : (List T_Op))).bind fun r67 => k50 (r67)) fin j l s = some (s ++ l.map (setSw i))
  | [], j, s, _ => by rw [goI, hf]; simp
  | x :: l, j, s, h => by
    simp only [List.length_cons] at h
    rw [goI, app_eq (by simp; omega), Option.bind_some]
    refine (app_go i hf l (j + 1) _ (by simp; omega)).trans ?_
    simp [setSw]
theorem s_cdiff {a b : T_Net} (ha : NOk a) (hb : NOk b) (hl : a.Tables.length = b.Tables.length) : t_change_diff a b = some (diffAll a.Tables b.Tables 0, 0) := by
  have hM : maxI = 9223372036854775807 := rfl
  have h1 := ha.sw
  have h2 := ha.len
  unfold t_change_diff
  rw [join_eq, loopI_eq (by omega)]
  have : ∀ (l p : List (List T_Rule)) (s : List T_Op), a.Tables = p ++ l → s.length + 24 * l.length ≤ 10000 → goI (fun (i16 : Int) x17 (s12 : (List T_Op)) k13 =>
     join (fun (s24 : (List T_Op)) => k13 (s24)) fun j25 =>
     (idx b.Tables i16).bind fun r33 =>
     (t_table_Diff x17 r33).bind fun r36 =>
     if (!decide (r36.2 = 0)) = true then (some ([], r36.2)) else (
     (loopI r36.1 (fun (i53 : Int) x54 (s49 : (List T_Op)) k50 =>
     (app s49 ([(T_Op.mk (i16 + 1) x54.Add x54.Rule)] : (List T_Op))).bind fun r67 => k50 (r67)) (fun (s49 : (List T_Op)) => some (s49)) (s12)).bind fun (s44 : (List T_Op)) =>
     j25 (s44))) (fun (s12 : (List T_Op)) => some (s12, (0 : Int))) (p.length : Int) l s = some (s ++ diffAll l b.Tables p.length, 0) := by
    intro l
    induction l with
    | nil => intro p s _ _; simp [goI, diffAll]
    | cons t l ih =>
      intro p s hp hs
      simp only [List.length_cons] at hs
      have hpl : p.length < a.Tables.length := by rw [hp]; simp
      have hb' : p.length < b.Tables.length := by omega
      have hx : idx b.Tables (p.length : Int) = some (b.Tables.getD p.length []) := by rw [idx_nat, List.getD, List.getElem?_eq_getElem hb']; rfl
      have ht : Tok (t.map rlOf) := ha.tabs t (by rw [hp]; simp)
      have hu : Tok ((b.Tables.getD p.length []).map rlOf) := hb.tok hb'
      generalize hu' : b.Tables.getD p.length [] = u at hx hu
      have hd := diffV_len ht hu
      rw [goI, join_eq, hx, Option.bind_some]
      unfold t_table_Diff
      rw [Option.bind_some]
      simp only []
      rw [diffE_ok ht hu, if_neg (by simp), loopI_eq (by omega), app_go p.length (fun _ => rfl) _ 0 s (by omega), Option.bind_some]
      have := ih (p ++ [t]) (s ++ (diffV t u).map (setSw p.length)) (by rw [hp]; simp) (by rw [List.length_append, List.length_map]; omega)
      simp only [List.length_append, List.length_singleton] at this
      have e : (p.length : Int) + 1 = ((p.length + 1 : Nat) : Int) := by omega
      rw [e]
      refine this.trans ?_
      rw [diffAll, hu', List.append_assoc]
  have := this a.Tables [] [] rfl (by simp; omega)
  simpa using this
theorem diffAll_len : ∀ (ts us : List (List T_Rule)) (i : Nat), (∀ t ∈ ts, Tok (t.map rlOf)) → (∀ j, i ≤ j → j < i + ts.length → Tok ((us.getD j []).map rlOf)) → (diffAll ts us i).length ≤ 24 * ts.length
  | [], _, _, _, _ => by simp [diffAll]
  | t :: ts, us, i, h1, h2 => by
    have := diffAll_len ts us (i + 1) (fun t ht => h1 t (by simp [ht])) (fun j hj hj2 => h2 j (by omega) (by simp only [List.length_cons]; omega))
    have h3 := diffV_len (h1 t (by simp)) (h2 i (Nat.le_refl _) (by simp))
    rw [diffAll, List.length_append, List.length_map, List.length_cons]
    omega
theorem eq_go {α : Type} [DecidableEq α] (b : List α) : ∀ (l : List α) (i : Nat), i + l.length = b.length → goI (fun (i17 : Int) x18 (s13 : Unit) k14 => (idx b i17).bind fun r26 => if (!decide (x18 = r26)) = true then (some false) else (k14 ())) (fun _ => some true) (i : Int) l () = some (decide (l = b.drop i))
  | [], i, h => by
    rw [List.drop_eq_nil_of_le (by simp at h; omega)]
    simp [goI]
  | x :: l, i, h => by
    simp only [List.length_cons] at h
    have hi : i < b.length := by omega
    rw [goI, idx_nat, List.getElem?_eq_getElem hi, Option.bind_some, List.drop_eq_getElem_cons hi]
    have e : (i : Int) + 1 = ((i + 1 : Nat) : Int) := by omega
    rw [e]
    have ih := eq_go b l (i + 1) (by omega)
    by_cases hx : x = b[i]
    · rw [if_neg (by simpa using hx)]
      refine ih.trans ?_
      simp only [List.cons.injEq, hx, true_and]
    · rw [if_pos (by simpa using hx)]
      simp only [List.cons.injEq, hx, false_and, decide_false]
theorem s_EqLink (a b : List T_Link) (h : (a.length : Int) ≤ maxI) : t_slices_Equal_api_Link_api_Link a b = some (decide (a = b)) := by
  unfold t_slices_Equal_api_Link_api_Link
  by_cases hl : a.length = b.length
  · rw [if_neg (by simp [hl]), join_eq, loopI_eq h]
    have := eq_go b a 0 (by omega)
    simpa using this
  · rw [if_pos (by simp; omega)]
    have : a ≠ b := fun e => hl (by rw [e])
    simp [this]
theorem s_EqHost (a b : List T_Host) (h : (a.length : Int) ≤ maxI) : t_slices_Equal_api_Host_api_Host a b = some (decide (a = b)) := by
  unfold t_slices_Equal_api_Host_api_Host
  by_cases hl : a.length = b.length
  · rw [if_neg (by simp [hl]), join_eq, loopI_eq h]
    have := eq_go b a 0 (by omega)
    simpa using this
  · rw [if_pos (by simp; omega)]
    have : a ≠ b := fun e => hl (by rw [e])
    simp [this]
theorem s_Alike {a b : T_Net} (ha : NOk a) : ∃ v, t_change_Alike a b = some v ∧ (v = true ↔ a.Topo = b.Topo) := by
  have hM : maxI = 9223372036854775807 := rfl
  have h1 := ha.nl
  have h2 := ha.nh
  have he : a.Topo = b.Topo ↔ a.Topo.Switches = b.Topo.Switches ∧ a.Topo.Links = b.Topo.Links ∧ a.Topo.Hosts = b.Topo.Hosts := by
    cases a.Topo; cases b.Topo; simp
  unfold t_change_Alike
  rw [s_EqLink _ _ (by omega), s_EqHost _ _ (by omega)]
  refine ⟨decide (a.Topo.Switches = b.Topo.Switches) && decide (a.Topo.Links = b.Topo.Links) && decide (a.Topo.Hosts = b.Topo.Hosts), ?_, by rw [he]; simp [and_assoc]⟩
  by_cases c1 : a.Topo.Switches = b.Topo.Switches
  · by_cases c2 : a.Topo.Links = b.Topo.Links
    · by_cases c3 : a.Topo.Hosts = b.Topo.Hosts <;> simp [he, c1, c2, c3, gd_true]
    · simp [he, c1, c2, gd_true, gd_false]
  · simp [he, c1, gd_false]
section
variable {α β σ : Type}
end
section
variable {α β σ τ : Type}
/-- two loops that go alike -/
theorem goI_sim {step : Int → α → σ → (σ → Option β) → Option β} {step' : Int → α → τ → (τ → Option β) → Option β} {fin : σ → Option β} {fin' : τ → Option β} (I : Int → List α → σ → τ → Prop) (hfin : ∀ i s t, I i [] s t → fin s = fin' t)
    (hstep : ∀ i x l s t k k', I i (x :: l) s t → (∀ s' t', I (i + 1) l s' t' → k s' = k' t') → step i x s k = step' i x t k') : ∀ (l : List α) (i : Int) (s : σ) (t : τ), I i l s t → goI step fin i l s = goI step' fin' i l t
  | [], i, s, t, h => hfin i s t h
  | x :: l, i, s, t, h => hstep i x l s t _ _ h fun s' t' h' => goI_sim I hfin hstep l (i + 1) s' t' h'
theorem loopI_sim {step : Int → α → σ → (σ → Option β) → Option β} {step' : Int → α → τ → (τ → Option β) → Option β} {fin : σ → Option β} {fin' : τ → Option β} (I : Int → List α → σ → τ → Prop) {l : List α} {s : σ} {t : τ} (h0 : I 0 l s t) (hfin : ∀ i s t, I i [] s t → fin s = fin' t)
    (hstep : ∀ i x l s t k k', I i (x :: l) s t → (∀ s' t', I (i + 1) l s' t' → k s' = k' t') → step i x s k = step' i x t k') : loopI l step fin s = loopI l step' fin' t := by
  unfold loopI; rw [goI_sim I hfin hstep l 0 s t h0]
theorem loopI_any {step : Int → α → Unit → (Unit → Option β) → Option β} {f : Option β} (p : α → Bool) {r : β} {l : List α} (hl : (l.length : Int) ≤ maxI) (h : ∀ x i k, step i x () k = if p x = true then some r else k ()) : loopI l step (fun _ => f) () = if l.any p = true then some r else f := by
  rw [loopI_eq hl, goI_any (p := p) (r := r) l 0 fun x _ i k => h x i k]
theorem goU_any {l : List α} {p : α → Bool} {r : β} {step : Int → Unit → (Unit → Option β) → Option β} {f : Option β} (h : ∀ (j : Nat) x k, l[j]? = some x → step (j : Int) () k = if p x = true then some r else k ()) : ∀ (m i : Nat), i + m ≤ l.length → goU step (fun _ _ => f) m (i : Int) () = if ((l.drop i).take m).any p = true then some r else f
  | 0, i, _ => by simp [goU]
  | m + 1, i, hm => by
    have hi : i < l.length := by omega
    rw [goU, h i l[i] _ (List.getElem?_eq_getElem hi), List.drop_eq_getElem_cons hi, List.take_succ_cons, List.any_cons]
    have e : (i : Int) + 1 = ((i + 1 : Nat) : Int) := by omega
    rw [e, goU_any h m (i + 1) (by omega)]
    cases p l[i] <;> simp
theorem loopU_any {l : List α} (p : α → Bool) {r : β} {step : Int → Unit → (Unit → Option β) → Option β} {f : Option β} {i : Int} (h0 : 0 ≤ i) (h1 : i ≤ l.length) (h2 : i ≤ maxI) (h : ∀ (j : Nat) x k, l[j]? = some x → step (j : Int) () k = if p x = true then some r else k ()) : loopU 0 i step (fun _ _ => f) () = if (l.take i.toNat).any p = true then some r else f := by
  rw [loopU_eq (Int.le_refl 0) h2, Int.sub_zero]
  have := goU_any (f := f) h i.toNat 0 (by omega)
  simpa using this
end
section
variable {K α : Type} [DecidableEq K]
theorem mfind_off : ∀ (l : List (K × α)) (a : K) (i : Nat), mfind l a i = (mfind l a 0).map fun p => (p.1 + i, p.2)
  | [], _, _ => rfl
  | (b, u) :: r, a, i => by
    simp only [mfind]
    split
    · simp
    · rw [mfind_off r a (i + 1), mfind_off r a (0 + 1)]
      cases mfind r a 0 with
      | none => rfl
      | some p => simp; omega
theorem mget_cons (b : K) (u : α) (r : List (K × α)) (a : K) (d : α) : mget ((b, u) :: r) a d = if a = b then u else mget r a d := by
  unfold mget
  simp only [mfind]
  by_cases h : a = b
  · simp [h]
  · rw [if_neg h, if_neg h, mfind_off r a (0 + 1)]
    cases mfind r a 0 <;> rfl
theorem mput_cons (b : K) (u : α) (r : List (K × α)) (a : K) (v : α) : mput ((b, u) :: r) a v = if a = b then (a, v) :: r else (b, u) :: mput r a v := by
  unfold mput
  simp only [mfind]
  by_cases h : a = b
  · simp [h]
  · rw [if_neg h, if_neg h, mfind_off r a (0 + 1)]
    cases mfind r a 0 <;> simp
theorem mget_mput : ∀ (l : List (K × α)) (a : K) (v : α) (b : K) (d : α), mget (mput l a v) b d = if b = a then v else mget l b d
  | [], a, v, b, d => by
    show mget ([(a, v)]) b d = _
    rw [mget_cons]
  | (c, u) :: r, a, v, b, d => by
    rw [mput_cons]
    by_cases h : a = c
    · subst h
      rw [if_pos rfl, mget_cons, mget_cons]
      split <;> rfl
    · rw [if_neg h, mget_cons, mget_cons, mget_mput r a v b d]
      by_cases h2 : b = c
      · subst h2
        rw [if_pos rfl, if_neg (fun e => h e.symm), if_pos rfl]
      · rw [if_neg h2, if_neg h2]
omit [DecidableEq K] in
theorem any_two (p q : K → Bool) : ∀ l : List K, (l.any fun y => p y || q y) = (l.any p || l.any q)
  | [] => rfl
  | x :: l => by
    rw [List.any_cons, List.any_cons, List.any_cons, any_two p q l]
    cases p x <;> cases q x <;> cases l.any p <;> rfl
theorem any_is (l : List K) (a : K) : (l.any fun y => decide (y = a)) = decide (a ∈ l) := by
  rw [Bool.eq_iff_iff]
  simp
end


abbrev cf (c : T_Cube) : Int := cchk c.Mask c.Bits
abbrev hs (c : T_Cube) (h : Int) : Bool := chas c.Mask c.Bits h
theorem and_andNot' {m b : Int} (h : 0 ≤ m ∧ m < 16 ∧ 0 ≤ b ∧ b < 16) : bits .and .i64 b m = b ↔ bits .andNot .i64 b m = 0 := by
  obtain ⟨h1, h2, h3, h4⟩ := h
  obtain ⟨m, rfl⟩ := Int.eq_ofNat_of_zero_le h1
  obtain ⟨b, rfl⟩ := Int.eq_ofNat_of_zero_le h3
  have hm : m < 16 := by omega
  have hb : b < 16 := by omega
  have H : ∀ x y : Fin 16, bits .and .i64 (y.val : Int) (x.val : Int) = (y.val : Int) ↔ bits .andNot .i64 (y.val : Int) (x.val : Int) = 0 := by decide +kernel
  exact H ⟨m, hm⟩ ⟨b, hb⟩
theorem hdr_eq (k : Int) : (decide (0 ≤ k) && decide (k < 16)) = hdr k := by unfold hdr; rw [Bool.eq_iff_iff]; simp
theorem s_cube_Header (k : Int) : t_cube_Header k = some (hdr k) := by rw [t_cube_Header, hdr_eq]
theorem s_rHeader (k : Int) : t_railref1_Header k = some (hdr k) := by rw [t_railref1_Header, hdr_eq]
theorem s_cube_Check (c : T_Cube) : t_cube_Check c = some (cf c) := by
  unfold t_cube_Check cf cchk
  simp only [s_cube_Header, Option.bind_some]
  cases h1 : hdr c.Mask
  · rw [hdr_not] at h1
    simp [gd_false]
    try omega
  · cases h2 : hdr c.Bits
    · rw [hdr_not] at h2
      simp [gd_true, h2]
      try omega
    · rw [hdr_iff] at h1 h2
      rw [if_pos (show 0 ≤ c.Mask ∧ c.Mask < 16 ∧ 0 ≤ c.Bits ∧ c.Bits < 16 by omega)]
      by_cases h3 : bits .andNot .i64 c.Bits c.Mask = 0 <;> simp [gd_true, h3]
theorem s_rCube (c : T_Cube) : t_railref1_Cube c = some (cf c) := by
  unfold t_railref1_Cube cf cchk
  simp only [s_rHeader, Option.bind_some]
  cases h1 : hdr c.Mask
  · rw [hdr_not] at h1
    simp
    omega
  · cases h2 : hdr c.Bits
    · rw [hdr_not] at h2
      simp
      omega
    · rw [hdr_iff] at h1 h2
      rw [if_pos (show 0 ≤ c.Mask ∧ c.Mask < 16 ∧ 0 ≤ c.Bits ∧ c.Bits < 16 by omega)]
      have h3 := and_andNot' ⟨h1.1, h1.2, h2.1, h2.2⟩
      by_cases h : bits .andNot .i64 c.Bits c.Mask = 0 
      · simp [h, h3.2 h]
      · have : ¬ bits .and .i64 c.Bits c.Mask = c.Bits := fun z => h (h3.1 z)
        simp [h, this]

def rchk (p m b o s v : Int) : Int :=
  if 0 ≤ p ∧ p ≤ 99 ∧ 0 ≤ o ∧ o ≤ 4 ∧ (0 ≤ s ∧ s < 16) ∧ (0 ≤ v ∧ v < 16) then
    (if cchk m b = 0 then (if bits .andNot .i64 v s = 0 ∧ ¬ (o = 0 ∧ s ≠ 0) then 0 else 3) else cchk m b)
  else 1
theorem rchk_0 {p m b o s v : Int} (h : rchk p m b o s v = 0) : (0 ≤ p ∧ p ≤ 99 ∧ 0 ≤ o ∧ o ≤ 4 ∧ (0 ≤ s ∧ s < 16) ∧ (0 ≤ v ∧ v < 16)) ∧ cchk m b = 0 ∧ bits .andNot .i64 v s = 0 ∧ ¬ (o = 0 ∧ s ≠ 0) := by
  unfold rchk at h
  split at h
  · rename_i h1
    split at h
    · rename_i h2
      split at h
      · rename_i h3; exact ⟨h1, h2, h3.1, h3.2⟩
      · cases h
    · rename_i h2; exact absurd h h2
  · cases h
def T_Rule.chk (x : T_Rule) : Int := rchk x.Prio x.Cube.Mask x.Cube.Bits x.Out x.Set x.Value
theorem rchk_ite (p m b o s v : Int) (hs hv : Bool) (h1 : hs = true ↔ 0 ≤ s ∧ s < 16) (h2 : hv = true ↔ 0 ≤ v ∧ v < 16) (e : Int) (he : e = cchk m b) :
    (if (((((decide (p < 0) || decide (99 < p)) || decide (o < 0)) || decide (4 < o)) || !hs) || !hv) = true then some (1 : Int) else
      if (!decide (e = 0)) = true then some e else if (decide (bits .andNot .i64 v s ≠ 0) || (decide (o = 0) && decide (s ≠ 0))) = true then some 3 else some 0) = some (rchk p m b o s v) := by
  subst he
  unfold rchk
  by_cases h : 0 ≤ p ∧ p ≤ 99 ∧ 0 ≤ o ∧ o ≤ 4 ∧ (0 ≤ s ∧ s < 16) ∧ (0 ≤ v ∧ v < 16)
  · rw [if_neg (by rw [h1.2 h.2.2.2.2.1, h2.2 h.2.2.2.2.2]; simp; omega), if_pos h]
    by_cases hk : cchk m b = 0
    · rw [if_neg (by simp [hk]), if_pos hk]
      generalize bits .andNot .i64 v s = B
      by_cases h3 : B = 0 <;> by_cases h4 : o = 0 <;> by_cases h5 : s = 0 <;> simp [h3, h4, h5]
    · rw [if_pos (by simp [hk]), if_neg hk]
  · rw [if_neg h, if_pos]
    cases hs <;> cases hv <;> simp at h1 h2 ⊢
    omega
theorem s_rule_Check (r : T_Rule) : t_rule_Check r = some r.chk := by
  have key := rchk_ite r.Prio r.Cube.Mask r.Cube.Bits r.Out r.Set r.Value (hdr r.Set) (hdr r.Value) hdr_iff hdr_iff (cf r.Cube) rfl
  unfold t_rule_Check T_Rule.chk
  simp only [s_cube_Header, s_cube_Check, Option.bind_some]
  rw [← key]
  cases hA : (((decide (r.Prio < 0) || decide (99 < r.Prio)) || decide (r.Out < 0)) || decide (4 < r.Out))
  · cases hB : hdr r.Set
    · simp [gd_true, gd_false]
    · simp only [Bool.false_or, Bool.not_false, Bool.not_true, gd_true, Option.bind_some]
  · simp [gd_false]
theorem s_rRule (r : T_Rule) : t_railref1_Rule r = some r.chk := by
  have key := rchk_ite r.Prio r.Cube.Mask r.Cube.Bits r.Out r.Set r.Value (hdr r.Set) (hdr r.Value) hdr_iff hdr_iff (cf r.Cube) rfl
  unfold t_railref1_Rule T_Rule.chk
  simp only [s_rHeader, s_rCube, Option.bind_some]
  rw [← key]
  by_cases hA : (((((decide (r.Prio < 0) || decide (99 < r.Prio)) || decide (r.Out < 0)) || decide (4 < r.Out)) || !hdr r.Set) || !hdr r.Value) = true
  · rw [if_pos hA, if_pos hA]
  · rw [if_neg hA, if_neg hA]
    have hv : 0 ≤ r.Set ∧ r.Set < 16 ∧ 0 ≤ r.Value ∧ r.Value < 16 := by
      simp only [Bool.or_eq_true, not_or, Bool.not_eq_true', Bool.not_eq_false, hdr_iff] at hA
      omega
    have e2 : cf (⟨r.Set, r.Value⟩ : T_Cube) = if bits .andNot .i64 r.Value r.Set = 0 then 0 else 3 := by
      unfold cf cchk; rw [if_pos hv]
    rw [e2]
    by_cases h0 : cf r.Cube = 0
    · by_cases h3 : bits .andNot .i64 r.Value r.Set = 0 <;> simp [h0, h3, gd_true, gd_false]
    · simp [h0]

theorem numsOf_get {s : ByteArray} {j : Nat} {x : Int} (h : (numsOf s)[j]? = some x) : sidx s (j : Int) = some x := by
  obtain ⟨h1, h2⟩ := List.getElem?_eq_some_iff.1 h
  rw [numsOf_at] at h2
  unfold sidx
  rw [numsOf_len] at h1
  rw [if_pos ⟨by omega, by omega⟩, ← h2]
  rfl
theorem s_rName (s : ByteArray) (hs : (s.size : Int) ≤ maxI) : t_railref1_Name s = t_topo_Name s := by
  unfold t_railref1_Name t_topo_Name
  rw [need_pos (by simpa using hs)]
  simp only [join_eq]
  rw [loopI_any (fun x => decide (x < 97) || decide (122 < x)) (r := false) (by rw [numsOf_len]; exact hs) (fun x i k => rfl)]
  rw [loopU_any (l := numsOf s) (fun x => decide (x < 97) || decide (122 < x)) (r := false) (by omega) (by rw [numsOf_len]; omega) hs (fun j x k hj => ?_)]
  · have ht : (numsOf s).take ((s.size : Int)).toNat = numsOf s := List.take_of_length_le (by rw [numsOf_len]; omega)
    rw [ht]
    generalize (numsOf s).any (fun x => decide (x < 97) || decide (122 < x)) = A
    by_cases h1 : s = ByteArray.mk #[]
    · subst h1
      cases A <;> simp
    · by_cases h2 : (s.size : Int) ≤ 6
      · have : ¬ (6 : Int) < s.size := by omega
        simp [h1, h2, this]
      · have : (6 : Int) < s.size := by omega
        cases A <;> simp [h1, h2, this]
  · rw [numsOf_get hj]
    simp only [Option.bind_some]
    by_cases h1 : x < 97 <;> simp [h1, gd_true, gd_false]
theorem s_rSpot (T : T_Topo) (s : T_Spot) : t_railref1_Spot T s = t_topo_Spot T s := rfl
theorem s_rTopo (T : T_Topo) (hn : ∀ h ∈ T.Hosts, (h.Name.size : Int) ≤ maxI) : t_railref1_Topo T = t_topo_Check T := by
  have hM : maxI = 9223372036854775807 := rfl
  unfold t_railref1_Topo t_topo_Check
  split
  · rfl
  split
  · rfl
  rename_i h1 h2
  simp only [Bool.or_eq_true, decide_eq_true_eq, not_or, Int.not_lt] at h2
  simp only [join_eq]
  refine loopI_sim (fun i l used m => 0 ≤ i ∧ i + l.length = T.Links.length ∧ (used.length : Int) = 2 * i ∧ ∀ s, mget m s false = decide (s ∈ used)) ⟨Int.le_refl _, by omega, rfl, fun s => by simp [mget, mfind]⟩ (fun i used m hI => ?_) (fun i x l used m k k' hI hk => ?_)
  · obtain ⟨i0, i1, i2, i3⟩ := hI
    simp only [List.length_nil] at i1
    refine loopI_sim (fun j l used (t : List (T_Spot × Bool) × List (ByteArray × Bool)) => 0 ≤ j ∧ l = T.Hosts.drop j.toNat ∧ (used.length : Int) ≤ 400 + j ∧ (∀ s, mget t.1 s false = decide (s ∈ used)) ∧ ∀ s, mget t.2 s false = (T.Hosts.take j.toNat).any fun h => decide (h.Name = s)) ⟨Int.le_refl _, rfl, by omega, i3, fun s => by simp [mget, mfind]⟩ (fun _ _ _ _ => rfl) (fun j x l used t k k' hJ hk => ?_)
    obtain ⟨j0, j1, j2, j3, j4⟩ := hJ
    have hx : T.Hosts[j.toNat]? = some x := by
      have := congrArg (fun l => l[0]?) j1
      simpa using this.symm
    have hjl : j.toNat < T.Hosts.length := (List.getElem?_eq_some_iff.1 hx).1
    have hxm : x ∈ T.Hosts := List.mem_of_getElem? hx
    have hl : l = T.Hosts.drop (j.toNat + 1) := by
      rw [List.drop_eq_getElem_cons hjl] at j1
      exact (List.cons.inj j1).2
    rw [s_rName _ (hn x hxm)]
    obtain ⟨b, e1, _⟩ := s_Name x.Name (hn x hxm)
    rw [e1, s_rSpot]
    obtain ⟨b2, e2, _⟩ := s_Spot T x.At
    rw [e2]
    simp only [Option.bind_some]
    split
    · rfl
    split
    · rfl
    rw [loopU_any (l := T.Hosts) (fun h => decide (h.Name = x.Name)) (r := 7) j0 (by omega) (by omega) (fun n y k hy => by rw [idx_nat, hy]; rfl)]
    rw [j3, j4]
    cases (T.Hosts.take j.toNat).any (fun h => decide (h.Name = x.Name)) with
    | true => rfl
    | false =>
      simp only [Bool.false_eq_true, if_false, Bool.false_or]
      rw [loopI_any (fun y => decide (y = x.At)) (r := 7) (by omega) (fun x i k => rfl), any_is]
      by_cases hu : x.At ∈ used
      · simp [hu]
      · rw [if_neg (by simpa using hu), if_neg (by simpa using hu), app_eq (by simp; omega)]
        simp only [Option.bind_some]
        refine hk _ _ ⟨by omega, by rw [hl]; congr 1; omega, by simp; omega, fun s => ?_, fun s => ?_⟩
        · rw [mget_mput, j3]
          by_cases e : s = x.At <;> simp [e]
        · rw [mget_mput, j4]
          have e3 : (j + 1).toNat = j.toNat + 1 := by omega
          rw [e3, List.take_add_one, hx]
          by_cases e : s = x.Name
          · simp [e]
          · have e' : ¬ x.Name = s := fun h => e h.symm
            simp [e, e']
  · obtain ⟨i0, i1, i2, i3⟩ := hI
    simp only [List.length_cons] at i1
    rw [s_rSpot, s_rSpot]
    obtain ⟨b, e1, _⟩ := s_Spot T x.A
    obtain ⟨b2, e2, _⟩ := s_Spot T x.B
    rw [e1, e2]
    simp only [Option.bind_some]
    cases b with
    | false => simp [gd]
    | true =>
      cases b2 with
      | false => simp [gd]
      | true =>
        simp only [gd, Bool.not_true, Bool.not_false, if_true, Option.bind_some, Bool.or_self, Bool.false_eq_true, if_false]
        rw [i3, i3, loopI_any (fun y => decide (y = x.A) || decide (y = x.B)) (r := 7) (by omega) (fun x i k => rfl)]
        have ha : (used.any fun y => decide (y = x.A) || decide (y = x.B)) = (decide (x.A ∈ used) || decide (x.B ∈ used)) := by
          rw [← any_is, ← any_is, any_two]
        rw [ha]
        by_cases h3 : x.A = x.B
        · simp [h3]
        · by_cases h4 : x.A ∈ used
          · simp [h3, h4]
          · by_cases h5 : x.B ∈ used
            · simp [h3, h4, h5]
            · rw [if_neg (by simpa using h3), if_neg (by simp [h4, h5]), if_neg (by simp [h3, h4, h5]), app_eq (by simp; omega), Option.bind_some, app_eq (by simp; omega), Option.bind_some]
              refine hk _ _ ⟨by omega, by omega, by simp; omega, fun s => ?_⟩
              rw [mget_mput, mget_mput, i3]
              by_cases c1 : s = x.B
              · simp [c1]
              · by_cases c2 : s = x.A <;> simp [c1, c2]

/-- what is wrong with a table: of those behind some -/
def tabG : List T_Rule → List T_Rule → Int
  | _, [] => 0
  | p, x :: l => if x.chk ≠ 0 then x.chk else if (p.any fun y => decide (y.Prio = x.Prio) && decide (y.Cube = x.Cube)) = true then 7 else tabG (p ++ [x]) l
def tabF (t : List T_Rule) : Int := if 12 < (t.length : Int) then 4 else tabG [] t
theorem goI_tab {t : List T_Rule} {step : Int → T_Rule → Unit → (Unit → Option Int) → Option Int} {fin : Unit → Option Int} (hf : fin () = some 0) (ht : ¬ 12 < (t.length : Int))
    (h : ∀ (p l : List T_Rule) x k, t = p ++ x :: l → step (p.length : Int) x () k = if x.chk ≠ 0 then some x.chk else if (p.any fun y => decide (y.Prio = x.Prio) && decide (y.Cube = x.Cube)) = true then some 7 else k ()) :
    ∀ (l p : List T_Rule), t = p ++ l → goI step fin (p.length : Int) l () = some (tabG p l)
  | [], p, _ => hf
  | x :: l, p, e => by
    rw [goI, h p l x _ e, tabG]
    have e2 := goI_tab hf ht h l (p ++ [x]) (by rw [e]; simp)
    have e3 : (((p ++ [x]).length : Nat) : Int) = (p.length : Int) + 1 := by simp
    rw [e3] at e2
    rw [e2]
    split
    · rfl
    · split <;> rfl
theorem take_pre {p l : List T_Rule} : (p ++ l).take p.length = p := by simp
theorem s_rTable (t : List T_Rule) : t_railref1_Table t = some (tabF t) := by
  have hM : maxI = 9223372036854775807 := rfl
  unfold t_railref1_Table tabF
  by_cases h : 12 < (t.length : Int)
  · rw [if_pos (decide_eq_true h), if_pos h]
  rw [if_neg (by simpa using h), if_neg h]
  simp only [join_eq]
  rw [loopI_eq (by omega)]
  refine goI_tab (t := t) rfl h (fun p l x k e => ?_) t [] rfl
  rw [s_rRule, Option.bind_some]
  have hp : p.length ≤ t.length := by rw [e]; simp
  rw [loopU_any (l := t) (fun y => decide (y.Prio = x.Prio) && decide (y.Cube = x.Cube)) (r := 7) (by omega) (by omega) (by omega) (fun n y k hy => ?_)]
  · have : ((p.length : Int)).toNat = p.length := rfl
    rw [this, e, take_pre]
    by_cases hx : x.chk = 0 <;> simp [hx]
  · rw [idx_nat, hy]
    simp only [Option.bind_some]
    by_cases h1 : y.Prio = x.Prio <;> simp [h1, gd_true, gd_false]
theorem s_rule_Table (t : List T_Rule) : t_rule_Table t = some (tabF t) := by
  have hM : maxI = 9223372036854775807 := rfl
  unfold t_rule_Table tabF
  by_cases h : 12 < (t.length : Int)
  · rw [if_pos (decide_eq_true h), if_pos h]
  rw [if_neg (by simpa using h), if_neg h]
  simp only [join_eq]
  rw [loopI_eq (by omega)]
  refine goI_tab (t := t) rfl h (fun p l x k e => ?_) t [] rfl
  rw [s_rule_Check, Option.bind_some]
  have hp : p.length ≤ t.length := by rw [e]; simp
  have hs : slc_hi t (p.length : Int) = some p := by
    unfold slc_hi
    rw [if_pos ⟨by omega, by omega⟩]
    have : ((p.length : Int)).toNat = p.length := rfl
    rw [this, e, take_pre]
  rw [hs, Option.bind_some]
  have hc : t_slices_ContainsFunc_api_Table_api_Rule p (fun a33 => t_rule_Table_1 a33 x) = some (p.any fun y => decide (y.Prio = x.Prio) && decide (y.Cube = x.Cube)) := by
    unfold t_slices_ContainsFunc_api_Table_api_Rule
    have : ∃ j, t_slices_IndexFunc_api_Table_api_Rule p (fun a33 => t_rule_Table_1 a33 x) = some j ∧ decide (0 ≤ j) = p.any fun y => decide (y.Prio = x.Prio) && decide (y.Cube = x.Cube) := by
      unfold t_slices_IndexFunc_api_Table_api_Rule
      simp only [join_eq]
      refine loopI_ex (fun i l _ => 0 ≤ i ∧ (p.any fun y => decide (y.Prio = x.Prio) && decide (y.Cube = x.Cube)) = l.any fun y => decide (y.Prio = x.Prio) && decide (y.Cube = x.Cube)) (by omega) ⟨Int.le_refl _, rfl⟩ (fun i s hI => ⟨-1, rfl, by rw [hI.2]; rfl⟩) (fun i y l s k hI hk => ?_)
      simp only [t_rule_Table_1, t_rule_Key, Option.bind_some]
      obtain ⟨i0, i1⟩ := hI
      rw [List.any_cons] at i1
      cases hb : (decide (y.Prio = x.Prio) && decide (y.Cube = x.Cube)) with
      | true => exact ⟨i, rfl, by rw [i1, hb]; simpa using i0⟩
      | false =>
        rw [if_neg (by decide)]
        exact hk () ⟨by omega, by rw [i1, hb]; rfl⟩
    obtain ⟨j, e1, e2⟩ := this
    rw [e1, Option.bind_some, e2]
  rw [hc, Option.bind_some]
  by_cases hx : x.chk = 0 <;> simp [hx]
theorem s_rNet (n : T_Net) (hn : ∀ h ∈ n.Topo.Hosts, (h.Name.size : Int) ≤ maxI) : t_railref1_Net n = t_net_Check n := by
  unfold t_railref1_Net t_net_Check
  simp only [s_rTopo n.Topo hn, s_rTable, s_rule_Table, Option.bind_some]
  congr 1
  funext c
  by_cases hc : c = 0
  · simp only [hc, ne_eq, not_true_eq_false, decide_false, decide_true, Bool.not_true, Bool.false_eq_true, if_false]
    split
    · rfl
    · simp only [join_eq]
      refine loopI_sim (fun _ _ _ _ => True) trivial (fun _ _ _ _ => rfl) (fun i x l s t k k' _ hk => ?_)
      rw [hk s t trivial]
      by_cases hx : tabF x = 0 <;> simp [hx]
  · simp [hc]
theorem chk_eq (r : T_Rule) : T_Rule.chk r = (rlOf r).chk := by
  have h := s_rule_Check r
  rw [s_ruleCheckV] at h
  exact (Option.some.inj h).symm
theorem map_ofRl (t : List T_Rule) : (t.map rlOf).map ofRl = t := by rw [List.map_map]; exact List.map_id _
theorem rkey_iff (x r : T_Rule) : (decide (x.Prio = r.Prio) && decide (x.Cube = r.Cube)) = (rlOf x).key (rlOf r) := by
  show _ = decide (x.Prio = r.Prio ∧ x.Cube.Mask = r.Cube.Mask ∧ x.Cube.Bits = r.Cube.Bits)
  rw [Bool.eq_iff_iff]
  simp [T_Cube.ext_iff2]
/-- where a rule lies, and whether its key is there -/
theorem rDo_go (t : List T_Rule) (r : T_Rule) {fin : Int × Bool → Option (Int × Bool)} (hf : ∀ s, fin s = some s) : ∀ (l p : List T_Rule) (a : Int) (h : Bool), t = p ++ l → h = (p.any fun x => (rlOf x).key (rlOf r)) → ((a = -1 ∧ r ∉ p) ∨ ∃ k : Nat, a = k ∧ t[k]? = some r) →
    ∃ a', goI (fun (i35 : Int) x36 (s31 : (Int × Bool)) k32 =>
     (if ((decide (x36.Prio = r.Prio)) && (decide (x36.Cube = r.Cube))) = true then (
     (if (decide (x36 = r)) = true then (some i35) else (some (s31.1))).bind fun (s82 : Int) => some (s82, true)) else (
     some (s31.1, s31.2))).bind fun (s71 : (Int × Bool)) =>
     k32 (s71.1, s71.2)) fin (p.length : Int) l (a, h) = some (a', t.any fun x => (rlOf x).key (rlOf r)) ∧ ((a' = -1 ∧ r ∉ t) ∨ ∃ k : Nat, a' = k ∧ t[k]? = some r)
  | [], p, a, h, ht, hh, ha => by
    rw [List.append_nil] at ht
    subst ht
    exact ⟨a, by rw [goI, hf, hh], ha⟩
  | x :: l, p, a, h, ht, hh, ha => by
    have hx : t[p.length]? = some x := by rw [ht]; simp
    have e : (p.length : Int) + 1 = (((p ++ [x]).length : Nat) : Int) := by simp
    rw [goI, rkey_iff]
    cases hk : (rlOf x).key (rlOf r) with
    | true =>
      rw [if_pos rfl]
      by_cases hxr : x = r
      · subst hxr
        rw [if_pos (by simp)]
        simp only [Option.bind_some]
        rw [e]
        exact rDo_go t x hf l (p ++ [x]) p.length true (by rw [ht]; simp) (by simp [hk]) (.inr ⟨p.length, rfl, hx⟩)
      · rw [if_neg (by simpa using hxr)]
        simp only [Option.bind_some]
        rw [e]
        refine rDo_go t r hf l (p ++ [x]) a true (by rw [ht]; simp) (by simp [hk]) ?_
        rcases ha with ⟨h1, h2⟩ | h1
        · exact .inl ⟨h1, by simp [h2, Ne.symm hxr]⟩
        · exact .inr h1
    | false =>
      rw [if_neg (by simp)]
      simp only [Option.bind_some]
      rw [e]
      refine rDo_go t r hf l (p ++ [x]) a h (by rw [ht]; simp) (by simp [hk, hh]) ?_
      rcases ha with ⟨h1, h2⟩ | h1
      · refine .inl ⟨h1, ?_⟩
        have : r ≠ x := fun e => by subst e; rw [key_self] at hk; cases hk
        simp [h2, this]
      · exact .inr h1
theorem erase_at : ∀ {l : List Rl} {k : Nat} {x : Rl}, l.Nodup → l[k]? = some x → l.erase x = l.eraseIdx k
  | [], k, x, _, h => by simp at h
  | y :: l, 0, x, _, h => by
    simp at h
    subst h
    simp
  | y :: l, k + 1, x, hn, h => by
    have hx : x ∈ l := List.mem_of_getElem? (by simpa using h)
    have hne : y ≠ x := fun e => (List.nodup_cons.1 hn).1 (e ▸ hx)
    rw [List.erase_cons_tail (by simpa using hne), List.eraseIdx_cons_succ, erase_at (List.nodup_cons.1 hn).2 (by simpa using h)]
theorem s_rDo {t : List T_Rule} (ht : Tok (t.map rlOf)) (add : Bool) {r : T_Rule} (hr : (rlOf r).chk = 0) : t_railref1_Do t add r = some (doV t add r, doF t add r) := by
  have hM : maxI = 9223372036854775807 := rfl
  have hl := ht.len
  rw [List.length_map] at hl
  obtain ⟨a, h1, h2⟩ := rDo_go t r (fin := fun s => some (s.1, s.2)) (fun s => rfl) t [] (-1) false rfl rfl (.inl ⟨rfl, by simp⟩)
  have hmem : rlOf r ∈ t.map rlOf ↔ r ∈ t := by
    constructor
    · intro h
      obtain ⟨x, hx, e⟩ := List.mem_map.1 h
      have : x = r := by have := congrArg ofRl e; exact this
      exact this ▸ hx
    · exact fun h => List.mem_map_of_mem h
  have hF : doF t add r = if add = true then (if (t.any fun x => (rlOf x).key (rlOf r)) = true then 7 else if 12 ≤ t.length then 4 else 0) else if r ∈ t then 0 else 5 := by
    unfold doF tdoF
    rw [if_neg (by simpa using tchk_iff.2 ht), if_neg (by simpa using hr), any_mem, List.any_map, List.length_map]
    simp only [decide_eq_true_eq, hmem]
    rfl
  unfold t_railref1_Do
  rw [loopI_eq (by omega)]
  refine (congrArg (fun X : Option (Int × Bool) => X.bind _) h1).trans ?_
  rw [Option.bind_some]
  cases add with
  | true =>
    rw [if_pos rfl] at hF
    rw [if_pos rfl]
    cases hk : t.any fun x => (rlOf x).key (rlOf r) with
    | true =>
      rw [hk, if_pos rfl] at hF
      have hv : doV t true r = [] := by unfold doV; rw [tdoV_bad hF (by decide)]; rfl
      rw [if_pos rfl, hv, hF]
    | false =>
      rw [hk, if_neg (by simp)] at hF
      rw [if_neg (by simp)]
      by_cases h12 : 12 ≤ t.length
      · rw [if_pos h12] at hF
        have hv : doV t true r = [] := by unfold doV; rw [tdoV_bad hF (by decide)]; rfl
        rw [if_pos (by simp; omega), hv, hF]
      · rw [if_neg h12] at hF
        have hv : doV t true r = t ++ [r] := by
          unfold doV
          rw [tdoV_ok hF, (tdoF_add (tdo_add_tok hF)).2, List.map_append, map_ofRl]; rfl
        rw [if_neg (by simp; omega), app_eq (by simp; omega), Option.bind_some, List.nil_append, app_eq (by simp; omega), Option.bind_some, hv, hF]
  | false =>
    rw [if_neg (by simp)] at hF
    rw [if_neg (by simp)]
    rcases h2 with ⟨rfl, hn⟩ | ⟨k, rfl, hk⟩
    · rw [if_neg hn] at hF
      have hv : doV t false r = [] := by unfold doV; rw [tdoV_bad hF (by decide)]; rfl
      rw [if_pos (by simp), hv, hF]
    · have hr0 : r ∈ t := List.mem_of_getElem? hk
      rw [if_pos hr0] at hF
      have hkl : k < t.length := (List.getElem?_eq_some_iff.1 hk).1
      have hv : doV t false r = t.eraseIdx k := by
        have e1 : (t.map rlOf).erase (rlOf r) = (t.map rlOf).eraseIdx k := erase_at ht.nodup (by rw [List.getElem?_map, hk]; rfl)
        unfold doV
        rw [tdoV_ok hF, (tdoF_del ht (hmem.2 hr0)).2, e1, List.eraseIdx_eq_take_drop_succ, List.map_append, ← List.map_take, ← List.map_drop, map_ofRl, map_ofRl, ← List.eraseIdx_eq_take_drop_succ]
      have s1 : slc_hi t (k : Int) = some (t.take k) := by
        unfold slc_hi; rw [if_pos ⟨by omega, by omega⟩, Int.toNat_natCast]
      have s2 : slc_lo t ((k : Int) + 1) = some (t.drop (k + 1)) := by
        unfold slc_lo
        rw [if_pos ⟨by omega, by omega⟩]
        congr 2
      rw [if_neg (by simp), s1, Option.bind_some, app_eq (by simp; omega), Option.bind_some, wr_id (by omega) (by omega), s2, Option.bind_some, app_eq (by simp; omega), Option.bind_some, hv, hF, List.nil_append, ← List.eraseIdx_eq_take_drop_succ]
theorem rApp_go (T : T_Topo) : ∀ (l : List T_Op) (i : Int) (s : T_Net), s.Topo = T → NOk s → goI (fun (i26 : Int) x27 (s22 : (List (List T_Rule))) k23 =>
     if ((decide (x27.Switch < 1)) || (decide (T.Switches < x27.Switch))) = true then (some ((T_Net.mk (T_Topo.mk 0 [] []) []), 1)) else (
     (t_railref1_Rule x27.Rule).bind fun r60 =>
     if (decide (r60 ≠ 0)) = true then (some ((T_Net.mk (T_Topo.mk 0 [] []) []), r60)) else (
     need (decide (0 ≤ (wr (x27.Switch - 1))) && decide ((wr (x27.Switch - 1)) < (List.length s22 : Int))) (
     (idx s22 (wr (x27.Switch - 1))).bind fun r71 =>
     (t_railref1_Do r71 x27.Add x27.Rule).bind fun r75 =>
     if (decide (r75.2 ≠ 0)) = true then (some ((T_Net.mk (T_Topo.mk 0 [] []) []), r75.2)) else (
     need (decide (0 ≤ (wr (x27.Switch - 1))) && decide ((wr (x27.Switch - 1)) < (List.length s22 : Int))) (
     (oset s22 (wr (x27.Switch - 1)) r75.1).bind fun r89 =>
     k23 (r89))))))) (fun (s22 : (List (List T_Rule))) => some (T_Net.mk T s22, (0 : Int))) i l s.Tables = some (appL l s)
  | [], i, s, hT, _ => by subst hT; rfl
  | x :: l, i, s, hT, hs => by
    have h1 := hs.sw
    have h2 := hs.len
    subst hT
    rw [goI]
    unfold appL
    by_cases hr : x.Switch < 1 ∨ s.Topo.Switches < x.Switch
    · have hf : opF s x = 1 := if_pos hr
      rw [if_pos (by simpa using hr), if_pos (by rw [hf]; decide), hf]; rfl
    · have hf : opF s x = doF (tabAt s x.Switch) x.Add x.Rule := if_neg hr
      obtain ⟨hm, hi⟩ := tabAt_mem h2 (x := x.Switch) (by omega) (by omega)
      have ht := hs.tabs _ hm
      rw [if_neg (by simpa using hr), s_rRule, chk_eq, Option.bind_some]
      by_cases hc : (rlOf x.Rule).chk = 0
      · rw [if_neg (by simpa using hc), wr_id (by omega) (by omega)]
        have hb : (decide (0 ≤ x.Switch - 1) && decide (x.Switch - 1 < (s.Tables.length : Int))) = true := by simp; omega
        rw [need_pos hb, hi, Option.bind_some, s_rDo ht x.Add hc, Option.bind_some]
        simp only []
        by_cases h0 : opF s x = 0
        · have ho : oset s.Tables (x.Switch - 1) (doV (tabAt s x.Switch) x.Add x.Rule) = some (opR s x).Tables := if_pos ⟨by omega, by omega⟩
          rw [if_neg (by rw [← hf]; simpa using h0), if_neg (by simpa using h0), need_pos hb, ho, Option.bind_some]
          exact rApp_go s.Topo l (i + 1) (opR s x) rfl (opR_ok hs h0)
        · rw [if_pos (by rw [← hf]; simpa using h0), if_pos h0, hf]; rfl
      · have hd : doF (tabAt s x.Switch) x.Add x.Rule = (rlOf x.Rule).chk := by
          unfold doF tdoF
          rw [if_neg (by simpa using tchk_iff.2 ht), if_pos hc]
        rw [if_pos (by simpa using hc), if_pos (by rw [hf, hd]; exact hc), hf, hd]; rfl
theorem s_rApply {n : T_Net} (hn : NOk n) (l : List T_Op) : t_railref1_Apply n l = some (if 200 < l.length then (nilNet, 4) else appL l n) := by
  have hM : maxI = 9223372036854775807 := rfl
  have h1 := hn.sw
  have h2 := hn.len
  unfold t_railref1_Apply
  by_cases hl : 200 < l.length
  · rw [if_pos (by simp; omega), if_pos hl]; rfl
  · have ho : oapp ([] : List (List T_Rule)) n.Tables = some n.Tables := by
      unfold oapp
      rw [if_pos ⟨by omega, by simp; omega⟩, List.nil_append]
    rw [if_neg (by simp; omega), if_neg hl, ho, Option.bind_some, join_eq, loopI_eq (by omega)]
    exact rApp_go n.Topo l 0 n rfl hn
theorem s_in (r : T_Rule) : ∀ (l : List T_Rule), (l.length : Int) ≤ maxI → t_railref1_in l r = some (decide (r ∈ l)) := fun l hl => by
  unfold t_railref1_in
  rw [join_eq, loopI_eq hl]
  have : ∀ (l : List T_Rule) (i : Int), goI (fun (i13 : Int) x14 (s9 : Unit) k10 => if (decide (x14 = r)) = true then (some true) else (k10 ())) (fun _ => some false) i l () = some (decide (r ∈ l)) := by
    intro l
    induction l with
    | nil => intro i; rfl
    | cons x l ih =>
      intro i
      rw [goI]
      by_cases h : x = r
      · rw [if_pos (by simpa using h)]; simp [h]
      · rw [if_neg (by simpa using h)]
        refine (ih (i + 1)).trans ?_
        simp [Ne.symm h]
  exact this l 0
theorem lack_go (u : List T_Rule) (hu : u.length ≤ 12) (sw : Int) (add : Bool) {fin : List T_Op → Option (List T_Op)} (hf : ∀ s, fin s = some s) : ∀ (l : List T_Rule) (j : Int) (s : List T_Op), s.length + l.length ≤ 1000 → goI (fun (i52 : Int) x53 (s48 : (List T_Op)) k49 =>
     (t_railref1_in u x53).bind fun r62 =>
     (if (!r62) = true then ((app s48 ([(T_Op.mk sw add x53)] : (List T_Op))).bind fun r76 => some (r76)) else (some (s48))).bind fun (s66 : (List T_Op)) => k49 (s66)) fin j l s = some (s ++ (l.filter fun r => decide (r ∉ u)).map fun r => T_Op.mk sw add r)
  | [], j, s, _ => by rw [goI, hf]; simp
  | x :: l, j, s, h => by
    have hM : maxI = 9223372036854775807 := rfl
    simp only [List.length_cons] at h
    rw [goI, s_in x u (by omega), Option.bind_some]
    by_cases hx : x ∈ u
    · rw [if_neg (by simp [hx]), Option.bind_some]
      refine (lack_go u hu sw add hf l (j + 1) s (by omega)).trans ?_
      simp [hx]
    · rw [if_pos (by simp [hx]), app_eq (by simp; omega)]
      simp only [Option.bind_some]
      refine (lack_go u hu sw add hf l (j + 1) _ (by simp; omega)).trans ?_
      simp [hx]
theorem filt (a b : List T_Rule) : (a.map rlOf).filter (fun r => decide (r ∉ b.map rlOf)) = (a.filter fun r => decide (r ∉ b)).map rlOf := by
  rw [List.filter_map]
  congr 1
  refine List.filter_congr fun x _ => ?_
  have : rlOf x ∈ b.map rlOf ↔ x ∈ b := by
    constructor
    · intro h
      obtain ⟨y, hy, e⟩ := List.mem_map.1 h
      have : y = x := by have := congrArg ofRl e; exact this
      exact this ▸ hy
    · exact fun h => List.mem_map_of_mem h
  simp only [Function.comp, this]
theorem s_rDiff {t u : List T_Rule} (ht : Tok (t.map rlOf)) (hu : Tok (u.map rlOf)) (i : Nat) : t_railref1_Diff t u ((i : Int) + 1) = some ((diffV t u).map (setSw i)) := by
  have hM : maxI = 9223372036854775807 := rfl
  have h1 := ht.len
  have h2 := hu.len
  rw [List.length_map] at h1 h2
  unfold t_railref1_Diff
  rw [loopI_eq (by omega), lack_go u h2 _ false (fun s => rfl) t 0 [] (by simp; omega), Option.bind_some, loopI_eq (by omega), bind_some_id]
  have hf : (t.filter fun r => decide (r ∉ u)).length ≤ 12 := Nat.le_trans (List.length_filter_le _ _) h1
  rw [lack_go t h1 _ true (fun s => rfl) u 0 _ (by simp only [List.nil_append, List.length_map]; omega)]
  congr 1
  unfold diffV
  rw [if_pos (diffE_ok ht hu)]
  unfold tdiff
  rw [lacks_eq, lacks_eq, filt, filt]
  simp only [List.map_append, List.map_map, List.nil_append]
  rfl
theorem s_rChanges {a b : T_Net} (ha : NOk a) (hb : NOk b) (hl : a.Tables.length = b.Tables.length) : t_railref1_Changes a b = some (diffAll a.Tables b.Tables 0) := by
  have hM : maxI = 9223372036854775807 := rfl
  have h1 := ha.sw
  have h2 := ha.len
  unfold t_railref1_Changes
  rw [bind_some_id, loopI_eq (by omega)]
  have : ∀ (l p : List (List T_Rule)) (s : List T_Op), a.Tables = p ++ l → s.length + 24 * l.length ≤ 10000 → goI (fun (i14 : Int) x15 (s10 : (List T_Op)) k11 =>
     (idx b.Tables i14).bind fun r27 => (t_railref1_Diff x15 r27 (i14 + 1)).bind fun r31 => (app s10 r31).bind fun r33 => k11 (r33)) (fun (s10 : (List T_Op)) => some (s10)) (p.length : Int) l s = some (s ++ diffAll l b.Tables p.length) := by
    intro l
    induction l with
    | nil => intro p s _ _; simp [goI, diffAll]
    | cons t l ih =>
      intro p s hp hs
      simp only [List.length_cons] at hs
      have hpl : p.length < a.Tables.length := by rw [hp]; simp
      have hb' : p.length < b.Tables.length := by omega
      have hx : idx b.Tables (p.length : Int) = some (b.Tables.getD p.length []) := by rw [idx_nat, List.getD, List.getElem?_eq_getElem hb']; rfl
      have ht : Tok (t.map rlOf) := ha.tabs t (by rw [hp]; simp)
      have hu : Tok ((b.Tables.getD p.length []).map rlOf) := hb.tok hb'
      generalize hu' : b.Tables.getD p.length [] = u at hx hu
      have hd := diffV_len ht hu
      rw [goI, hx, Option.bind_some, s_rDiff ht hu, Option.bind_some, app_eq (by rw [List.length_map]; omega), Option.bind_some]
      have := ih (p ++ [t]) (s ++ (diffV t u).map (setSw p.length)) (by rw [hp]; simp) (by rw [List.length_append, List.length_map]; omega)
      simp only [List.length_append, List.length_singleton] at this
      have e : (p.length : Int) + 1 = ((p.length + 1 : Nat) : Int) := by omega
      rw [e]
      refine this.trans ?_
      rw [diffAll, hu', List.append_assoc]
  have := this a.Tables [] [] rfl (by simp; omega)
  simpa using this
theorem eq_goF {α : Type} [DecidableEq α] (b : List α) {F : Option Bool} : ∀ (l : List α) (i : Nat), i + l.length = b.length → goI (fun (i17 : Int) x18 (s13 : Unit) k14 => (idx b i17).bind fun r26 => if (!decide (x18 = r26)) = true then (some false) else (k14 ())) (fun _ => F) (i : Int) l () = if l = b.drop i then F else some false
  | [], i, h => by
    rw [List.drop_eq_nil_of_le (by simp at h; omega), if_pos rfl]; rfl
  | x :: l, i, h => by
    simp only [List.length_cons] at h
    have hi : i < b.length := by omega
    rw [goI, idx_nat, List.getElem?_eq_getElem hi, Option.bind_some, List.drop_eq_getElem_cons hi]
    have e : (i : Int) + 1 = ((i + 1 : Nat) : Int) := by omega
    rw [e]
    have ih := eq_goF b (F := F) l (i + 1) (by omega)
    by_cases hx : x = b[i]
    · rw [if_neg (by simpa using hx)]
      refine ih.trans ?_
      simp only [List.cons.injEq, hx, true_and]
    · rw [if_pos (by simpa using hx)]
      simp only [List.cons.injEq, hx, false_and, if_false]
theorem s_rAlike (a b : T_Topo) (h1 : (a.Links.length : Int) ≤ maxI) (h2 : (a.Hosts.length : Int) ≤ maxI) : ∃ v, t_railref1_Alike a b = some v ∧ (v = true ↔ a = b) := by
  have he : a = b ↔ a.Switches = b.Switches ∧ a.Links = b.Links ∧ a.Hosts = b.Hosts := by cases a; cases b; simp
  unfold t_railref1_Alike
  rw [Option.bind_some]
  by_cases hc : a.Switches = b.Switches ∧ a.Links.length = b.Links.length ∧ a.Hosts.length = b.Hosts.length
  · rw [if_neg (by simp [hc.1, hc.2.1, hc.2.2]), join_eq, join_eq, loopI_eq h1, loopI_eq h2]
    have e1 := fun F => eq_goF b.Links (F := F) a.Links 0 (by omega)
    have e2 := eq_goF b.Hosts (F := some true) a.Hosts 0 (by omega)
    rw [List.drop_zero] at e2
    simp only [List.drop_zero] at e1
    by_cases c2 : a.Links = b.Links
    · by_cases c3 : a.Hosts = b.Hosts
      · refine ⟨true, ?_, by rw [he]; simp [hc.1, c2, c3]⟩
        refine (e1 _).trans ?_
        rw [if_pos c2]
        refine e2.trans ?_
        rw [if_pos c3]
      · refine ⟨false, ?_, by rw [he]; simp [c3]⟩
        refine (e1 _).trans ?_
        rw [if_pos c2]
        refine e2.trans ?_
        rw [if_neg c3]
    · refine ⟨false, ?_, by rw [he]; simp [c2]⟩
      refine (e1 _).trans ?_
      rw [if_neg c2]
  · refine ⟨false, ?_, ?_⟩
    · rw [if_pos]
      simp only [Bool.or_eq_true, decide_eq_true_eq]
      by_cases c1 : a.Switches = b.Switches
      · by_cases c2 : a.Links.length = b.Links.length
        · have c3 : ¬ a.Hosts.length = b.Hosts.length := fun c3 => hc ⟨c1, c2, c3⟩
          exact .inr (by omega)
        · exact .inl (.inr (by omega))
      · exact .inl (.inl c1)
    · constructor
      · intro h; cases h
      · intro h; exact absurd ⟨congrArg T_Topo.Switches h, by rw [h], by rw [h]⟩ hc

theorem appL_bad : ∀ (l : List T_Op) (s : T_Net), (appL l s).2 ≠ 0 → (appL l s).1 = nilNet
  | [], s, h => absurd rfl h
  | x :: l, s, h => by
    unfold appL at h ⊢
    by_cases h0 : opF s x = 0
    · rw [if_neg (by simpa using h0)] at h ⊢
      exact appL_bad l (opR s x) h
    · rw [if_pos h0]
theorem same_nil : t_railsame_Net nilNet nilNet = some true := by kernel_rfl
theorem s_Ops (l : List T_Op) (h : (l.length : Int) ≤ maxI) : t_railsame_Ops l l = some true := by
  unfold t_railsame_Ops
  rw [if_neg (by simp), join_eq, same_loop l h]
/-- what is between two nets, with each error -/
theorem s_Diff2 {a b : T_Net} (na : ∀ h ∈ a.Topo.Hosts, (h.Name.size : Int) ≤ maxI) (nb : ∀ h ∈ b.Topo.Hosts, (h.Name.size : Int) ≤ maxI) {c d : Int} (h1 : t_net_Check a = some c) (h2 : t_net_Check b = some d) :
    (c ≠ 0 → t_change_Diff a b = some ([], c) ∧ t_change_Same a b = some (false, c)) ∧ (c = 0 → d ≠ 0 → t_change_Diff a b = some ([], d) ∧ t_change_Same a b = some (false, d)) ∧
    (c = 0 → d = 0 → a.Topo ≠ b.Topo → t_change_Diff a b = some ([], 3) ∧ t_change_Same a b = some (false, 0)) ∧
    (c = 0 → d = 0 → a.Topo = b.Topo → t_change_Diff a b = some (diffAll a.Tables b.Tables 0, 0) ∧ t_change_Same a b = some (decide (((diffAll a.Tables b.Tables 0).length : Int) = 0), 0)) := by
  unfold t_change_Diff t_change_Same t_change_both
  rw [h1, h2]
  simp only [Option.bind_some]
  refine ⟨fun hc => ?_, fun hc hd => ?_, fun hc hd ht => ?_, fun hc hd ht => ?_⟩
  · rw [if_pos (by simpa using hc)]
    simp only [Option.bind_some]
    rw [if_pos (by simpa using hc), if_pos (by simpa using hc)]
    exact ⟨rfl, rfl⟩
  · rw [if_neg (by simpa using hc)]
    simp only [Option.bind_some]
    rw [if_pos (by simpa using hd), if_pos (by simpa using hd)]
    exact ⟨rfl, rfl⟩
  · subst hc hd
    have ha := (netCheck_ok na).1 h1
    obtain ⟨v, v1, v2⟩ := s_Alike (b := b) ha
    have hv : v = false := by
      cases v with
      | false => rfl
      | true => exact absurd (v2.1 rfl) ht
    subst hv
    simp only [decide_true, Bool.not_true, Bool.false_eq_true, if_false, Option.bind_some, v1, Bool.not_false, if_true]
    exact ⟨trivial, trivial⟩
  · subst hc hd
    have ha := (netCheck_ok na).1 h1
    have hb := (netCheck_ok nb).1 h2
    obtain ⟨v, v1, v2⟩ := s_Alike (b := b) ha
    obtain rfl := v2.2 ht
    simp only [decide_true, Bool.not_true, Bool.false_eq_true, if_false, Option.bind_some, v1, s_cdiff ha hb (lens ha hb ht), Bool.true_and]
    exact ⟨trivial, trivial⟩
theorem turn_go (l : List T_Op) (hl : l.length ≤ 1048576) {B : Option Bool} : ∀ (m p : List T_Op), l = p ++ m → goI (fun (i125 : Int) x126 (s121 : Unit) k122 =>
     (idx l (wr ((wr ((List.length l : Int) - 1)) - i125))).bind fun r136 =>
     (idx (turnL l) i125).bind fun r140 =>
     (gd (!(decide (r140.Switch ≠ r136.Switch))) default (idx (turnL l) i125)).bind fun r152 =>
     (gd (!((decide (r140.Switch ≠ r136.Switch)) || (r152.Add == r136.Add))) default (idx (turnL l) i125)).bind fun r175 =>
     if (((decide (r140.Switch ≠ r136.Switch)) || (r152.Add == r136.Add)) || (!decide (r175.Rule = r136.Rule))) = true then (some false) else (k122 ())) (fun (s121 : Unit) => B) (p.length : Int) m () = B
  | [], p, h => rfl
  | x :: m, p, h => by
    have hlen : l.length = p.length + (m.length + 1) := by rw [h]; simp
    have hj : l.length - 1 - p.length < l.length := by omega
    have e1 : idx l (wr (wr ((l.length : Int) - 1) - (p.length : Int))) = some l[l.length - 1 - p.length] := by
      rw [wr_id (x := (l.length : Int) - 1) (by omega) (by omega), wr_id (by omega) (by omega), show (l.length : Int) - 1 - (p.length : Int) = ((l.length - 1 - p.length : Nat) : Int) by omega, idx_nat, List.getElem?_eq_getElem hj]
    have e2 : idx (turnL l) (p.length : Int) = some (tog l[l.length - 1 - p.length]) := by
      rw [idx_nat]
      unfold turnL
      rw [List.getElem?_map, List.getElem?_reverse (by omega), List.getElem?_eq_getElem hj]; rfl
    generalize l[l.length - 1 - p.length] = y at e1 e2
    have f1 : decide ((tog y).Switch ≠ y.Switch) = false := by simp [tog]
    have f2 : ((tog y).Add == y.Add) = false := by show ((!y.Add) == y.Add) = false; cases y.Add <;> rfl
    have f3 : decide ((tog y).Rule = y.Rule) = true := by simp [tog]
    rw [goI, e1, Option.bind_some, e2, Option.bind_some, f1]
    simp only [Bool.not_false, gd_true, Option.bind_some, Bool.false_or, f2, f3, Bool.not_true, Bool.false_eq_true, if_false]
    have := turn_go l hl (B := B) m (p ++ [x]) (by rw [h]; simp)
    simp only [List.length_append, List.length_singleton] at this
    have e : (p.length : Int) + 1 = ((p.length + 1 : Nat) : Int) := by omega
    rw [e]; exact this
theorem walk_ChangeTells (a0 : T_Net) (a1 : List T_Op) (a2 : T_Net) (u0 : a0.wf 1048576) (u1 : wL 1048576 (fun x => x.wf 1048576) a1) (u2 : a2.wf 1048576) : t_raillaw1_ChangeTells a0 a1 a2 = some true := by
  have hM : maxI = 9223372036854775807 := rfl
  have na : ∀ h ∈ a0.Topo.Hosts, (h.Name.size : Int) ≤ maxI := fun h hh => by
    have := (u0.1.2.2.2 h hh).1
    unfold wS at this; omega
  have nb : ∀ h ∈ a2.Topo.Hosts, (h.Name.size : Int) ≤ maxI := fun h hh => by
    have := (u2.1.2.2.2 h hh).1
    unfold wS at this; omega
  have hl1 := u1.1
  have l1 : (a0.Topo.Links.length : Int) ≤ maxI := by have := u0.1.2.1.1; omega
  have l2 : (a0.Topo.Hosts.length : Int) ≤ maxI := by have := u0.1.2.2.1; omega
  obtain ⟨c, h1, h2, h3⟩ := s_Apply a0 a1 na
  obtain ⟨d, g1, -, -⟩ := s_Apply a2 [] nb
  obtain ⟨v, v1, v2⟩ := s_rAlike a0.Topo a2.Topo l1 l2
  obtain ⟨D1, D2, D3, D4⟩ := s_Diff2 na nb h1 g1
  unfold t_raillaw1_ChangeTells t_change_Check
  rw [s_rNet a0 na, s_rNet a2 nb, h1, g1, v1, s_Turn a1 hl1]
  simp only [Option.bind_some, t_railsame_Error]
  have hP : ∃ P : T_Net × Int, (if (decide (c = 0)) = true then ((t_railref1_Apply a0 a1).bind fun r210 => some (r210.2, r210.1)) else (some (c, (T_Net.mk (T_Topo.mk 0 [] []) [])))) = some (P.2, P.1) ∧ t_change_Apply a0 a1 = some P ∧ t_railsame_Net P.1 P.1 = some true := by
    by_cases h0 : c = 0
    · have hk := h2.1 h0
      refine ⟨_, ?_, h3, ?_⟩
      · rw [if_pos (by simpa using h0), s_rApply hk, Option.bind_some, if_neg (show ¬ c ≠ 0 by simpa using h0)]
      · rw [if_neg (show ¬ c ≠ 0 by simpa using h0)]
        by_cases hl : 200 < a1.length
        · rw [if_pos hl]; exact same_nil
        · rw [if_neg hl]
          by_cases he : (appL a1 a0).2 = 0
          · exact s_sameNet (appL_ok a1 hk he).1
          · rw [appL_bad a1 a0 he]; exact same_nil
    · refine ⟨_, ?_, h3, ?_⟩
      · rw [if_neg (by simpa using h0), if_pos h0]; rfl
      · rw [if_pos h0]; exact same_nil
  obtain ⟨P, p1, p2, p3⟩ := hP
  rw [p1, Option.bind_some, p2]
  simp only [Option.bind_some, decide_true, p3]
  have tail : ∀ B : Option Bool, (if (decide ((List.length (turnL a1) : Int) ≠ (List.length a1 : Int))) = true then (some false) else (loopI a1 (fun (i125 : Int) x126 (s121 : Unit) k122 =>
     (idx a1 (wr ((wr ((List.length a1 : Int) - 1)) - i125))).bind fun r136 =>
     (idx (turnL a1) i125).bind fun r140 =>
     (gd (!(decide (r140.Switch ≠ r136.Switch))) default (idx (turnL a1) i125)).bind fun r152 =>
     (gd (!((decide (r140.Switch ≠ r136.Switch)) || (r152.Add == r136.Add))) default (idx (turnL a1) i125)).bind fun r175 =>
     if (((decide (r140.Switch ≠ r136.Switch)) || (r152.Add == r136.Add)) || (!decide (r175.Rule = r136.Rule))) = true then (some false) else (k122 ())) (fun (s121 : Unit) => B) ())) = B := fun B => by
    rw [if_neg (by simp [turnL]), loopI_eq (by omega)]
    exact turn_go a1 hl1 a1 [] rfl
  by_cases hc : c = 0
  · by_cases hd : d = 0
    · by_cases ht : a0.Topo = a2.Topo
      · obtain rfl := v2.2 ht
        obtain ⟨d1, d2⟩ := D4 hc hd ht
        have ha := (netCheck_ok na).1 (by rw [h1, hc])
        have hb := (netCheck_ok nb).1 (by rw [g1, hd])
        have hlen := lens ha hb ht
        have hDl := diffAll_len a0.Tables a2.Tables 0 (fun t ht => ha.tabs t ht) (fun j _ hj => hb.tok (by omega))
        have hsw := ha.sw
        have hln := ha.len
        rw [d1, d2, s_rChanges ha hb hlen]
        generalize diffAll a0.Tables a2.Tables 0 = DD at hDl
        subst hc hd
        simp only [decide_true, if_true, Option.bind_some, Bool.not_true, Bool.and_false, Bool.false_eq_true, if_false, s_Ops DD (by omega), Bool.true_and, beq_self_eq_true, Bool.and_true, join_eq]
        exact tail _
      · have hv : v = false := by
          cases v with
          | false => rfl
          | true => exact absurd (v2.1 rfl) ht
        subst hv
        obtain ⟨d1, d2⟩ := D3 hc hd ht
        rw [d1, d2]
        subst hc hd
        simp only [decide_true, if_true, Option.bind_some, Bool.not_false, Bool.and_true, s_Ops [] (by simp), show decide ((3 : Int) = 0) = false from rfl, Bool.false_eq_true, if_false, Bool.false_and, join_eq, Bool.true_and, beq_self_eq_true]
        exact tail _
    · obtain ⟨d1, d2⟩ := D2 hc hd
      rw [d1, d2]
      subst hc
      have hd' : decide (d = 0) = false := by simpa using hd
      simp only [decide_true, if_true, Option.bind_some, hd', Bool.false_and, Bool.false_eq_true, if_false, s_Ops [] (by simp), Bool.and_true, Bool.true_and, beq_self_eq_true, join_eq]
      exact tail _
  · obtain ⟨d1, d2⟩ := D1 hc
    rw [d1, d2]
    have hc' : decide (c = 0) = false := by simpa using hc
    simp only [decide_true, if_true, Option.bind_some, hc', Bool.false_and, Bool.false_eq_true, if_false, s_Ops [] (by simp), Bool.and_true, Bool.true_and, beq_self_eq_true, join_eq]
    exact tail _
end Go.Proofs.YtpjadjoekdcjiaaDoor.Ty
