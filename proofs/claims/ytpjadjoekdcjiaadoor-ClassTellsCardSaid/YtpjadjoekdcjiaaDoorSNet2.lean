/- The document's nets go as the program's. -/
import Derived.Test.YtpjadjoekdcjiaaDoorSNet0
import Derived.Test.YtpjadjoekdcjiaaDoorSCube0
import Derived.Test.YtpjadjoekdcjiaaDoorSLoops
namespace Go.Proofs.YtpjadjoekdcjiaaDoor.Ty
open Go Go.RowKit Go.Proofs.YtpjadjoekdcjiaaDoor.Den
set_option linter.unusedSimpArgs false
set_option linter.unusedVariables false
set_option maxRecDepth 100000

def rchk (p m b o s v : Int) : Int :=
  if 0 ≤ p ∧ p ≤ 99 ∧ 0 ≤ o ∧ o ≤ 4 ∧ (0 ≤ s ∧ s < 16) ∧ (0 ≤ v ∧ v < 16) then
    (if cchk m b = 0 then (if bits .andNot .i64 v s = 0 ∧ ¬ (o = 0 ∧ s ≠ 0) then 0 else 3) else cchk m b)
  else 1
theorem rchk_0 {p m b o s v : Int} (h : rchk p m b o s v = 0) : (0 ≤ p ∧ p ≤ 99 ∧ 0 ≤ o ∧ o ≤ 4 ∧ (0 ≤ s ∧ s < 16) ∧ (0 ≤ v ∧ v < 16)) ∧ cchk m b = 0 ∧ bits .andNot .i64 v s = 0 ∧ ¬ (o = 0 ∧ s ≠ 0) := by
  unfold rchk at h
  split at h
  · rename_i h1
    split at h
    · rename_i h2
      split at h
      · rename_i h3; exact ⟨h1, h2, h3.1, h3.2⟩
      · cases h
    · rename_i h2; exact absurd h h2
  · cases h
def T_Rule.chk (x : T_Rule) : Int := rchk x.Prio x.Cube.Mask x.Cube.Bits x.Out x.Set x.Value
theorem rchk_ite (p m b o s v : Int) (hs hv : Bool) (h1 : hs = true ↔ 0 ≤ s ∧ s < 16) (h2 : hv = true ↔ 0 ≤ v ∧ v < 16) (e : Int) (he : e = cchk m b) :
    (if (((((decide (p < 0) || decide (99 < p)) || decide (o < 0)) || decide (4 < o)) || !hs) || !hv) = true then some (1 : Int) else
      if (!decide (e = 0)) = true then some e else if (decide (bits .andNot .i64 v s ≠ 0) || (decide (o = 0) && decide (s ≠ 0))) = true then some 3 else some 0) = some (rchk p m b o s v) := by
  subst he
  unfold rchk
  by_cases h : 0 ≤ p ∧ p ≤ 99 ∧ 0 ≤ o ∧ o ≤ 4 ∧ (0 ≤ s ∧ s < 16) ∧ (0 ≤ v ∧ v < 16)
  · rw [if_neg (by rw [h1.2 h.2.2.2.2.1, h2.2 h.2.2.2.2.2]; simp; omega), if_pos h]
    by_cases hk : cchk m b = 0
    · rw [if_neg (by simp [hk]), if_pos hk]
      generalize bits .andNot .i64 v s = B
      by_cases h3 : B = 0 <;> by_cases h4 : o = 0 <;> by_cases h5 : s = 0 <;> simp [h3, h4, h5]
    · rw [if_pos (by simp [hk]), if_neg hk]
  · rw [if_neg h, if_pos]
    cases hs <;> cases hv <;> simp at h1 h2 ⊢
    omega
theorem s_rule_Check (r : T_Rule) : t_rule_Check r = some r.chk := by
  have key := rchk_ite r.Prio r.Cube.Mask r.Cube.Bits r.Out r.Set r.Value (hdr r.Set) (hdr r.Value) hdr_iff hdr_iff (cf r.Cube) rfl
  unfold t_rule_Check T_Rule.chk
  simp only [s_cube_Header, s_cube_Check, Option.bind_some]
  rw [← key]
  cases hA : (((decide (r.Prio < 0) || decide (99 < r.Prio)) || decide (r.Out < 0)) || decide (4 < r.Out))
  · cases hB : hdr r.Set
    · simp [gd_true, gd_false]
    · simp only [Bool.false_or, Bool.not_false, Bool.not_true, gd_true, Option.bind_some]
  · simp [gd_false]
theorem s_rRule (r : T_Rule) : t_railref1_Rule r = some r.chk := by
  have key := rchk_ite r.Prio r.Cube.Mask r.Cube.Bits r.Out r.Set r.Value (hdr r.Set) (hdr r.Value) hdr_iff hdr_iff (cf r.Cube) rfl
  unfold t_railref1_Rule T_Rule.chk
  simp only [s_rHeader, s_rCube, Option.bind_some]
  rw [← key]
  by_cases hA : (((((decide (r.Prio < 0) || decide (99 < r.Prio)) || decide (r.Out < 0)) || decide (4 < r.Out)) || !hdr r.Set) || !hdr r.Value) = true
  · rw [if_pos hA, if_pos hA]
  · rw [if_neg hA, if_neg hA]
    have hv : 0 ≤ r.Set ∧ r.Set < 16 ∧ 0 ≤ r.Value ∧ r.Value < 16 := by
      simp only [Bool.or_eq_true, not_or, Bool.not_eq_true', Bool.not_eq_false, hdr_iff] at hA
      omega
    have e2 : cf (⟨r.Set, r.Value⟩ : T_Cube) = if bits .andNot .i64 r.Value r.Set = 0 then 0 else 3 := by
      unfold cf cchk; rw [if_pos hv]
    rw [e2]
    by_cases h0 : cf r.Cube = 0
    · by_cases h3 : bits .andNot .i64 r.Value r.Set = 0 <;> simp [h0, h3, gd_true, gd_false]
    · simp [h0]

theorem numsOf_get {s : ByteArray} {j : Nat} {x : Int} (h : (numsOf s)[j]? = some x) : sidx s (j : Int) = some x := by
  obtain ⟨h1, h2⟩ := List.getElem?_eq_some_iff.1 h
  rw [numsOf_at] at h2
  unfold sidx
  rw [numsOf_len] at h1
  rw [if_pos ⟨by omega, by omega⟩, ← h2]
  rfl
theorem s_rName (s : ByteArray) (hs : (s.size : Int) ≤ maxI) : t_railref1_Name s = t_topo_Name s := by
  unfold t_railref1_Name t_topo_Name
  rw [need_pos (by simpa using hs)]
  simp only [join_eq]
  rw [loopI_any (fun x => decide (x < 97) || decide (122 < x)) (r := false) (by rw [numsOf_len]; exact hs) (fun x i k => rfl)]
  rw [loopU_any (l := numsOf s) (fun x => decide (x < 97) || decide (122 < x)) (r := false) (by omega) (by rw [numsOf_len]; omega) hs (fun j x k hj => ?_)]
  · have ht : (numsOf s).take ((s.size : Int)).toNat = numsOf s := List.take_of_length_le (by rw [numsOf_len]; omega)
    rw [ht]
    generalize (numsOf s).any (fun x => decide (x < 97) || decide (122 < x)) = A
    by_cases h1 : s = ByteArray.mk #[]
    · subst h1
      cases A <;> simp
    · by_cases h2 : (s.size : Int) ≤ 6
      · have : ¬ (6 : Int) < s.size := by omega
        simp [h1, h2, this]
      · have : (6 : Int) < s.size := by omega
        cases A <;> simp [h1, h2, this]
  · rw [numsOf_get hj]
    simp only [Option.bind_some]
    by_cases h1 : x < 97 <;> simp [h1, gd_true, gd_false]
theorem s_rSpot (T : T_Topo) (s : T_Spot) : t_railref1_Spot T s = t_topo_Spot T s := rfl
theorem s_rTopo (T : T_Topo) (hn : ∀ h ∈ T.Hosts, (h.Name.size : Int) ≤ maxI) : t_railref1_Topo T = t_topo_Check T := by
  have hM : maxI = 9223372036854775807 := rfl
  unfold t_railref1_Topo t_topo_Check
  split
  · rfl
  split
  · rfl
  rename_i h1 h2
  simp only [Bool.or_eq_true, decide_eq_true_eq, not_or, Int.not_lt] at h2
  simp only [join_eq]
  refine loopI_sim (fun i l used m => 0 ≤ i ∧ i + l.length = T.Links.length ∧ (used.length : Int) = 2 * i ∧ ∀ s, mget m s false = decide (s ∈ used)) ⟨Int.le_refl _, by omega, rfl, fun s => by simp [mget, mfind]⟩ (fun i used m hI => ?_) (fun i x l used m k k' hI hk => ?_)
  · obtain ⟨i0, i1, i2, i3⟩ := hI
    simp only [List.length_nil] at i1
    refine loopI_sim (fun j l used (t : List (T_Spot × Bool) × List (ByteArray × Bool)) => 0 ≤ j ∧ l = T.Hosts.drop j.toNat ∧ (used.length : Int) ≤ 400 + j ∧ (∀ s, mget t.1 s false = decide (s ∈ used)) ∧ ∀ s, mget t.2 s false = (T.Hosts.take j.toNat).any fun h => decide (h.Name = s)) ⟨Int.le_refl _, rfl, by omega, i3, fun s => by simp [mget, mfind]⟩ (fun _ _ _ _ => rfl) (fun j x l used t k k' hJ hk => ?_)
    obtain ⟨j0, j1, j2, j3, j4⟩ := hJ
    have hx : T.Hosts[j.toNat]? = some x := by
      have := congrArg (fun l => l[0]?) j1
      simpa using this.symm
    have hjl : j.toNat < T.Hosts.length := (List.getElem?_eq_some_iff.1 hx).1
    have hxm : x ∈ T.Hosts := List.mem_of_getElem? hx
    have hl : l = T.Hosts.drop (j.toNat + 1) := by
      rw [List.drop_eq_getElem_cons hjl] at j1
      exact (List.cons.inj j1).2
    rw [s_rName _ (hn x hxm)]
    obtain ⟨b, e1, _⟩ := s_Name x.Name (hn x hxm)
    rw [e1, s_rSpot]
    obtain ⟨b2, e2, _⟩ := s_Spot T x.At
    rw [e2]
    simp only [Option.bind_some]
    split
    · rfl
    split
    · rfl
    rw [loopU_any (l := T.Hosts) (fun h => decide (h.Name = x.Name)) (r := 7) j0 (by omega) (by omega) (fun n y k hy => by rw [idx_nat, hy]; rfl)]
    rw [j3, j4]
    cases (T.Hosts.take j.toNat).any (fun h => decide (h.Name = x.Name)) with
    | true => rfl
    | false =>
      simp only [Bool.false_eq_true, if_false, Bool.false_or]
      rw [loopI_any (fun y => decide (y = x.At)) (r := 7) (by omega) (fun x i k => rfl), any_is]
      by_cases hu : x.At ∈ used
      · simp [hu]
      · rw [if_neg (by simpa using hu), if_neg (by simpa using hu), app_eq (by simp; omega)]
        simp only [Option.bind_some]
        refine hk _ _ ⟨by omega, by rw [hl]; congr 1; omega, by simp; omega, fun s => ?_, fun s => ?_⟩
        · rw [mget_mput, j3]
          by_cases e : s = x.At <;> simp [e]
        · rw [mget_mput, j4]
          have e3 : (j + 1).toNat = j.toNat + 1 := by omega
          rw [e3, List.take_add_one, hx]
          by_cases e : s = x.Name
          · simp [e]
          · have e' : ¬ x.Name = s := fun h => e h.symm
            simp [e, e']
  · obtain ⟨i0, i1, i2, i3⟩ := hI
    simp only [List.length_cons] at i1
    rw [s_rSpot, s_rSpot]
    obtain ⟨b, e1, _⟩ := s_Spot T x.A
    obtain ⟨b2, e2, _⟩ := s_Spot T x.B
    rw [e1, e2]
    simp only [Option.bind_some]
    cases b with
    | false => simp [gd]
    | true =>
      cases b2 with
      | false => simp [gd]
      | true =>
        simp only [gd, Bool.not_true, Bool.not_false, if_true, Option.bind_some, Bool.or_self, Bool.false_eq_true, if_false]
        rw [i3, i3, loopI_any (fun y => decide (y = x.A) || decide (y = x.B)) (r := 7) (by omega) (fun x i k => rfl)]
        have ha : (used.any fun y => decide (y = x.A) || decide (y = x.B)) = (decide (x.A ∈ used) || decide (x.B ∈ used)) := by
          rw [← any_is, ← any_is, any_two]
        rw [ha]
        by_cases h3 : x.A = x.B
        · simp [h3]
        · by_cases h4 : x.A ∈ used
          · simp [h3, h4]
          · by_cases h5 : x.B ∈ used
            · simp [h3, h4, h5]
            · rw [if_neg (by simpa using h3), if_neg (by simp [h4, h5]), if_neg (by simp [h3, h4, h5]), app_eq (by simp; omega), Option.bind_some, app_eq (by simp; omega), Option.bind_some]
              refine hk _ _ ⟨by omega, by omega, by simp; omega, fun s => ?_⟩
              rw [mget_mput, mget_mput, i3]
              by_cases c1 : s = x.B
              · simp [c1]
              · by_cases c2 : s = x.A <;> simp [c1, c2]

/-- what is wrong with a table: of those behind some -/
def tabG : List T_Rule → List T_Rule → Int
  | _, [] => 0
  | p, x :: l => if x.chk ≠ 0 then x.chk else if (p.any fun y => decide (y.Prio = x.Prio) && decide (y.Cube = x.Cube)) = true then 7 else tabG (p ++ [x]) l
theorem tabG_ok : ∀ {p l : List T_Rule}, tabG p l = 0 → ∀ r ∈ l, r.chk = 0
  | _, [], _ => fun r h => by cases h
  | p, x :: l, h => by
    unfold tabG at h
    split at h
    · rename_i h1; exact absurd h h1
    · rename_i h1
      split at h
      · cases h
      · intro r hr
        rcases List.mem_cons.1 hr with rfl | hr
        · exact Classical.not_not.1 h1
        · exact tabG_ok h r hr
def tabF (t : List T_Rule) : Int := if 12 < (t.length : Int) then 4 else tabG [] t
theorem goI_tab {t : List T_Rule} {step : Int → T_Rule → Unit → (Unit → Option Int) → Option Int} {fin : Unit → Option Int} (hf : fin () = some 0) (ht : ¬ 12 < (t.length : Int))
    (h : ∀ (p l : List T_Rule) x k, t = p ++ x :: l → step (p.length : Int) x () k = if x.chk ≠ 0 then some x.chk else if (p.any fun y => decide (y.Prio = x.Prio) && decide (y.Cube = x.Cube)) = true then some 7 else k ()) :
    ∀ (l p : List T_Rule), t = p ++ l → goI step fin (p.length : Int) l () = some (tabG p l)
  | [], p, _ => hf
  | x :: l, p, e => by
    rw [goI, h p l x _ e, tabG]
    have e2 := goI_tab hf ht h l (p ++ [x]) (by rw [e]; simp)
    have e3 : (((p ++ [x]).length : Nat) : Int) = (p.length : Int) + 1 := by simp
    rw [e3] at e2
    rw [e2]
    split
    · rfl
    · split <;> rfl
theorem take_pre {p l : List T_Rule} : (p ++ l).take p.length = p := by simp
theorem s_rTable (t : List T_Rule) : t_railref1_Table t = some (tabF t) := by
  have hM : maxI = 9223372036854775807 := rfl
  unfold t_railref1_Table tabF
  by_cases h : 12 < (t.length : Int)
  · rw [if_pos (decide_eq_true h), if_pos h]
  rw [if_neg (by simpa using h), if_neg h]
  simp only [join_eq]
  rw [loopI_eq (by omega)]
  refine goI_tab (t := t) rfl h (fun p l x k e => ?_) t [] rfl
  rw [s_rRule, Option.bind_some]
  have hp : p.length ≤ t.length := by rw [e]; simp
  rw [loopU_any (l := t) (fun y => decide (y.Prio = x.Prio) && decide (y.Cube = x.Cube)) (r := 7) (by omega) (by omega) (by omega) (fun n y k hy => ?_)]
  · have : ((p.length : Int)).toNat = p.length := rfl
    rw [this, e, take_pre]
    by_cases hx : x.chk = 0 <;> simp [hx]
  · rw [idx_nat, hy]
    simp only [Option.bind_some]
    by_cases h1 : y.Prio = x.Prio <;> simp [h1, gd_true, gd_false]
theorem s_rule_Table (t : List T_Rule) : t_rule_Table t = some (tabF t) := by
  have hM : maxI = 9223372036854775807 := rfl
  unfold t_rule_Table tabF
  by_cases h : 12 < (t.length : Int)
  · rw [if_pos (decide_eq_true h), if_pos h]
  rw [if_neg (by simpa using h), if_neg h]
  simp only [join_eq]
  rw [loopI_eq (by omega)]
  refine goI_tab (t := t) rfl h (fun p l x k e => ?_) t [] rfl
  rw [s_rule_Check, Option.bind_some]
  have hp : p.length ≤ t.length := by rw [e]; simp
  have hs : slc_hi t (p.length : Int) = some p := by
    unfold slc_hi
    rw [if_pos ⟨by omega, by omega⟩]
    have : ((p.length : Int)).toNat = p.length := rfl
    rw [this, e, take_pre]
  rw [hs, Option.bind_some]
  have hc : t_slices_ContainsFunc_api_Table_api_Rule p (fun a33 => t_rule_Table_1 a33 x) = some (p.any fun y => decide (y.Prio = x.Prio) && decide (y.Cube = x.Cube)) := by
    unfold t_slices_ContainsFunc_api_Table_api_Rule
    have : ∃ j, t_slices_IndexFunc_api_Table_api_Rule p (fun a33 => t_rule_Table_1 a33 x) = some j ∧ decide (0 ≤ j) = p.any fun y => decide (y.Prio = x.Prio) && decide (y.Cube = x.Cube) := by
      unfold t_slices_IndexFunc_api_Table_api_Rule
      simp only [join_eq]
      refine loopI_ex (fun i l _ => 0 ≤ i ∧ (p.any fun y => decide (y.Prio = x.Prio) && decide (y.Cube = x.Cube)) = l.any fun y => decide (y.Prio = x.Prio) && decide (y.Cube = x.Cube)) (by omega) ⟨Int.le_refl _, rfl⟩ (fun i s hI => ⟨-1, rfl, by rw [hI.2]; rfl⟩) (fun i y l s k hI hk => ?_)
      simp only [t_rule_Table_1, t_rule_Key, Option.bind_some]
      obtain ⟨i0, i1⟩ := hI
      rw [List.any_cons] at i1
      cases hb : (decide (y.Prio = x.Prio) && decide (y.Cube = x.Cube)) with
      | true => exact ⟨i, rfl, by rw [i1, hb]; simpa using i0⟩
      | false =>
        rw [if_neg (by decide)]
        exact hk () ⟨by omega, by rw [i1, hb]; rfl⟩
    obtain ⟨j, e1, e2⟩ := this
    rw [e1, Option.bind_some, e2]
  rw [hc, Option.bind_some]
  by_cases hx : x.chk = 0 <;> simp [hx]
theorem tab_rules {t : List T_Rule} (h : t_rule_Table t = some 0) : ∀ r ∈ t, r.chk = 0 := by
  rw [s_rule_Table] at h
  have h := Option.some.inj h
  unfold tabF at h
  split at h
  · cases h
  · exact tabG_ok h
theorem s_rNet (n : T_Net) (hn : ∀ h ∈ n.Topo.Hosts, (h.Name.size : Int) ≤ maxI) : t_railref1_Net n = t_net_Check n := by
  unfold t_railref1_Net t_net_Check
  simp only [s_rTopo n.Topo hn, s_rTable, s_rule_Table, Option.bind_some]
  congr 1
  funext c
  by_cases hc : c = 0
  · simp only [hc, ne_eq, not_true_eq_false, decide_false, decide_true, Bool.not_true, Bool.false_eq_true, if_false]
    split
    · rfl
    · simp only [join_eq]
      refine loopI_sim (fun _ _ _ _ => True) trivial (fun _ _ _ _ => rfl) (fun i x l s t k k' _ hk => ?_)
      rw [hk s t trivial]
      by_cases hx : tabF x = 0 <;> simp [hx]
  · simp [hc]
theorem net_tabs {n : T_Net} (h : t_net_Check n = some 0) (hg : netGood n) : ∀ t ∈ n.Tables, t_rule_Table t = some 0 := by
  have hM : maxI = 9223372036854775807 := rfl
  unfold t_net_Check at h
  obtain ⟨c, e1, _⟩ : ∃ c, t_topo_Check n.Topo = some c ∧ True := by
    cases hc : t_topo_Check n.Topo with
    | none => rw [hc] at h; cases h
    | some c => exact ⟨c, rfl, trivial⟩
  rw [e1, Option.bind_some] at h
  split at h
  · rename_i hc
    have := Option.some.inj h
    subst this
    simp at hc
  split at h
  · cases h
  rename_i hl
  have hl : (n.Tables.length : Int) = n.Topo.Switches := by simpa using hl
  have := hg.topo.sw
  simp only [join_eq, s_rule_Table, Option.bind_some] at h
  rw [loopI_eq (by omega), goI_first (f := tabF) rfl n.Tables 0 (fun x _ i k => by by_cases hx : tabF x = 0 <;> simp [hx])] at h
  intro t ht
  rw [s_rule_Table, firstF_0.1 (Option.some.inj h) t ht]

theorem s_cmp (x y : Int) : t_cmp_Compare_int x y = some (if x < y then -1 else if y < x then 1 else 0) := by
  unfold t_cmp_Compare_int t_cmp_isNaN_int
  simp only [Option.bind_some, ne_eq, not_true_eq_false, decide_false, Bool.false_eq_true, if_false]
  by_cases h1 : x < y
  · simp [h1]
  · by_cases h2 : y < x <;> simp [h1, h2]
theorem s_cmpOr (a b c : Int) : t_cmp_Or_int [a, b, c] = some (if a ≠ 0 then a else if b ≠ 0 then b else c) := by
  unfold t_cmp_Or_int
  simp only [join_eq]
  rw [loopI_eq (by have : maxI = 9223372036854775807 := rfl; simp; omega)]
  simp only [goI]
  by_cases h1 : a = 0 <;> by_cases h2 : b = 0 <;> by_cases h3 : c = 0 <;> simp [h1, h2, h3]
theorem s_rabove (a b : T_Rule) : ∃ c, t_rule_above a b = some c ∧ t_railref1_above a b = some (decide (0 < c)) := by
  unfold t_rule_above t_railref1_above
  simp only [s_cmp, s_cmpOr, Option.bind_some]
  refine ⟨_, rfl, ?_⟩
  by_cases h1 : a.Prio = b.Prio
  · by_cases h2 : a.Cube.Mask = b.Cube.Mask
    · by_cases h3 : a.Cube.Bits < b.Cube.Bits
      · simp [h1, h2, h3]; omega
      · by_cases h4 : b.Cube.Bits < a.Cube.Bits <;> simp [h1, h2, h3, h4]
    · rcases Int.lt_or_gt_of_ne h2 with h | h
      · have : ¬ b.Cube.Mask < a.Cube.Mask := by omega
        simp [h1, h2, h, this]
      · have : ¬ a.Cube.Mask < b.Cube.Mask := by omega
        simp [h1, h2, h, this]
  · rcases Int.lt_or_gt_of_ne h1 with h | h
    · have : ¬ b.Prio < a.Prio := by omega
      simp [h1, h, this]
    · have : ¬ a.Prio < b.Prio := by omega
      simp [h1, h, this]
theorem s_rFind (t : List T_Rule) (ht : ∀ r ∈ t, r.chk = 0) (h : Int) (hh : 0 ≤ h ∧ h < 16) : t_railref1_Find t h = t_rule_Find t h := by
  unfold t_railref1_Find t_rule_Find
  refine congrArg (fun o : Option Int => o.bind fun s => some s) ?_
  refine loopI_sim (fun _ l s u => s = u ∧ ∀ r ∈ l, r.chk = 0) ⟨rfl, ht⟩ (fun i s u e => by rw [e.1]) (fun i x l s u k k' e hk => ?_)
  obtain ⟨rfl, e2⟩ := e
  have hx := rchk_0 (e2 x (by simp))
  have hc : cf x.Cube = 0 := hx.2.1
  have hhas : t_railref1_Has x.Cube h = some (decide (bits .and .i64 h x.Cube.Mask = x.Cube.Bits)) := by
    unfold t_railref1_Has
    simp only [s_rHeader, s_rCube, Option.bind_some]
    have : hdr h = true := hdr_iff.2 hh
    simp [this, hc, gd_true]
  rw [hhas, Option.bind_some]
  generalize decide (bits .and .i64 h x.Cube.Mask = x.Cube.Bits) = B
  cases hB : (B && !decide (s < 0)) with
  | false =>
    simp only [gd_false, Option.bind_some]
    have : ∀ z : Bool, (B && (decide (s < 0) || z)) = (B && decide (s < 0)) := fun z => by
      cases B <;> cases hd : decide (s < 0) <;> simp [hd] at hB ⊢
    rw [this, this]
    split
    · exact hk _ _ ⟨rfl, fun r hr => e2 r (by simp [hr])⟩
    · exact hk _ _ ⟨rfl, fun r hr => e2 r (by simp [hr])⟩
  | true =>
    simp only [gd_true]
    cases idx t s with
    | none => rfl
    | some y =>
      obtain ⟨c, c1, c2⟩ := s_rabove x y
      simp only [Option.bind_some, c1, c2]
      split
      · exact hk _ _ ⟨rfl, fun r hr => e2 r (by simp [hr])⟩
      · exact hk _ _ ⟨rfl, fun r hr => e2 r (by simp [hr])⟩

end Go.Proofs.YtpjadjoekdcjiaaDoor.Ty
