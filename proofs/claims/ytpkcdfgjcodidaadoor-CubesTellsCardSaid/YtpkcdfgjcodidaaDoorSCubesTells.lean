/- CubesTells, as it is read: no memory in sight. -/
import Derived.Test.YtpkcdfgjcodidaaDoorSCubes
import Derived.Test.YtpkcdfgjcodidaaDoorVcS
namespace Go.Proofs.YtpkcdfgjcodidaaDoor.Ty
open Go Go.RowKit Go.Proofs.YtpkcdfgjcodidaaDoor.Den
set_option linter.unusedSimpArgs false
set_option linter.unusedVariables false
set_option maxRecDepth 100000

theorem collect_length (q : Int → Bool) : ∀ (m : Nat) (i : Nat), (collect q m (i : Int)).length = ((List.range m).countP fun j => q ((i + j : Nat) : Int))
  | 0, i => rfl
  | m + 1, i => by
    rw [collect, List.length_append, show (i : Int) + 1 = ((i + 1 : Nat) : Int) by omega, collect_length q m (i + 1), List.range_succ_eq_map, List.countP_cons, List.countP_map]
    have e : ((fun j => q ((i + j : Nat) : Int)) ∘ Nat.succ) = fun j => q ((i + 1 + j : Nat) : Int) := by
      funext j
      show q ((i + (j + 1) : Nat) : Int) = _
      rw [show i + (j + 1) = i + 1 + j by omega]
    rw [e]
    simp only [Nat.add_zero]
    cases q (i : Int) <;> simp <;> omega
theorem collect_mem (q : Int → Bool) : ∀ (m : Nat) (i : Nat) (x : Int), x ∈ collect q m (i : Int) → ∃ n : Nat, n < i + m ∧ x = (n : Int) ∧ q x = true
  | 0, i, x, h => by simp [collect] at h
  | m + 1, i, x, h => by
    rw [collect, List.mem_append] at h
    rcases h with h | h
    · split at h
      · rename_i hq
        simp at h
        exact ⟨i, by omega, h, by rw [h]; exact hq⟩
      · cases h
    · rw [show (i : Int) + 1 = ((i + 1 : Nat) : Int) by omega] at h
      obtain ⟨n, h1, h2⟩ := collect_mem q m (i + 1) x h
      exact ⟨n, by omega, h2⟩
theorem collect_congr {p q : Int → Bool} : ∀ (m : Nat) (i : Int), (∀ j, i ≤ j → j < i + m → p j = q j) → collect p m i = collect q m i
  | 0, _, _ => rfl
  | m + 1, i, h => by
    rw [collect, collect, h i (by omega) (by omega), collect_congr m (i + 1) fun j h1 h2 => h j (by omega) (by omega)]
theorem heads_eq {p q : Int → Bool} (h : ∀ n : Nat, n < 16 → p (n : Int) = q (n : Int)) : heads p = heads q :=
  collect_congr 16 0 fun j h1 h2 => by
    have := h j.toNat (by omega)
    rwa [Int.toNat_of_nonneg h1] at this
theorem heads_iff {p q : Int → Bool} : heads p = heads q ↔ ∀ n : Nat, n < 16 → p (n : Int) = q (n : Int) := by
  refine ⟨fun h => ?_, heads_eq⟩
  have key : ∀ (m : Nat) (i : Nat), collect p m (i : Int) = collect q m (i : Int) → ∀ n, i ≤ n → n < i + m → p (n : Int) = q (n : Int) := by
    intro m
    induction m with
    | zero => intro i _ n h1 h2; omega
    | succ m ih =>
      intro i hc n h1 h2
      have hhead : p (i : Int) = q (i : Int) := by
        cases hp : p (i : Int) <;> cases hq : q (i : Int) <;> simp only [collect, hp, hq, Bool.false_eq_true, if_true, if_false, List.nil_append, List.singleton_append] at hc
        · rfl
        · exfalso
          rw [show (i : Int) + 1 = ((i + 1 : Nat) : Int) by omega] at hc
          obtain ⟨n, _, h3, _⟩ := collect_mem p m (i + 1) (i : Int) (by rw [hc]; simp)
          have hge : ∀ (m j : Nat) (x : Int), x ∈ collect p m (j : Int) → (j : Int) ≤ x := by
            intro m
            induction m with
            | zero => intro j x hx; simp [collect] at hx
            | succ m ih2 =>
              intro j x hx
              rw [collect, List.mem_append] at hx
              rcases hx with hx | hx
              · split at hx
                · simp at hx; omega
                · cases hx
              · rw [show (j : Int) + 1 = ((j + 1 : Nat) : Int) by omega] at hx
                have := ih2 (j + 1) x hx
                omega
          have := hge m (i + 1) (i : Int) (by rw [hc]; simp)
          omega
        · exfalso
          rw [show (i : Int) + 1 = ((i + 1 : Nat) : Int) by omega] at hc
          have hge : ∀ (m j : Nat) (x : Int), x ∈ collect q m (j : Int) → (j : Int) ≤ x := by
            intro m
            induction m with
            | zero => intro j x hx; simp [collect] at hx
            | succ m ih2 =>
              intro j x hx
              rw [collect, List.mem_append] at hx
              rcases hx with hx | hx
              · split at hx
                · simp at hx; omega
                · cases hx
              · rw [show (j : Int) + 1 = ((j + 1 : Nat) : Int) by omega] at hx
                have := ih2 (j + 1) x hx
                omega
          have := hge m (i + 1) (i : Int) (by rw [← hc]; simp)
          omega
        · rfl
      by_cases e : n = i
      · subst e; exact hhead
      · rw [collect, collect, hhead] at hc
        have hc := List.append_cancel_left hc
        rw [show (i : Int) + 1 = ((i + 1 : Nat) : Int) by omega] at hc
        exact ih (i + 1) hc n (by omega) (by omega)
  exact fun n hn => key 16 0 h n (by omega) (by omega)
theorem any_tc {os : List Nc} (ho : ∀ x ∈ os, okN x = true) {n : Nat} (hn : n < 16) : anyC (os.map tc) (n : Int) = os.any fun x => hasN x n := by
  unfold anyC
  induction os with
  | nil => rfl
  | cons o os ih =>
    rw [List.map_cons, List.any_cons, List.any_cons, ih fun x hx => ho x (by simp [hx])]
    congr 1
    exact hs_tc (ho o (by simp)) hn
theorem sum_map_add (f g : Nat → Nat) : ∀ l : List Nat, (l.map fun n => f n + g n).sum = (l.map f).sum + (l.map g).sum
  | [] => rfl
  | x :: l => by simp only [List.map_cons, List.sum_cons, sum_map_add f g l]; omega
theorem countP_sum (q : Nat → Bool) : ∀ l : List Nat, l.countP q = (l.map fun n => if q n = true then 1 else 0).sum
  | [] => rfl
  | x :: l => by simp only [List.countP_cons, List.map_cons, List.sum_cons, countP_sum q l]; omega
theorem sum_zero : ∀ l : List Nat, (l.map fun _ => 0).sum = 0
  | [] => rfl
  | x :: l => by simp only [List.map_cons, List.sum_cons, sum_zero l]
theorem double (l : List Nat) : ∀ os : List Nc, (os.map fun x => l.countP fun n => hasN x n).sum = (l.map fun n => os.countP fun x => hasN x n).sum
  | [] => by simp only [List.countP_nil, List.map_nil, List.sum_nil, sum_zero]
  | o :: os => by
    rw [List.map_cons, List.sum_cons, double l os, countP_sum, ← sum_map_add]
    congr 1
    refine List.map_congr_left fun n _ => ?_
    rw [List.countP_cons]; omega
/-- the headers of cubes apart, one cube after the other -/
theorem heads_sum {os : List Nc} {p : Nat → Bool} (h : Apart os p) {q : Int → Bool} (hq : ∀ n : Nat, n < 16 → q (n : Int) = p n) : (os.map fun x => (heads (hs (tc x))).length).sum = (heads q).length := by
  have e1 : (os.map fun x => (heads (hs (tc x))).length) = os.map fun x => (List.range 16).countP fun n => hasN x n := by
    refine List.map_congr_left fun x hx => ?_
    unfold heads
    rw [show (0 : Int) = ((0 : Nat) : Int) from rfl, collect_length]
    refine List.countP_congr fun n hn => ?_
    rw [Nat.zero_add, hs_tc (h.ok x hx) (List.mem_range.1 hn)]
  rw [e1, double]
  have e2 : ((List.range 16).map fun n => os.countP fun x => hasN x n) = (List.range 16).map fun n : Nat => if q (n : Int) = true then 1 else 0 := by
    refine List.map_congr_left fun n hn => ?_
    rw [h.one n (List.mem_range.1 hn), hq n (List.mem_range.1 hn)]
  rw [e2, ← countP_sum fun n : Nat => q (n : Int)]
  unfold heads
  rw [show (0 : Int) = ((0 : Nat) : Int) from rfl, collect_length]
  refine List.countP_congr fun n _ => by rw [Nat.zero_add]
theorem goI_sum {step : Int → T_Cube → Int → (Int → Option Bool) → Option Bool} {fin : Int → Option Bool} {f : Nc → Nat} : ∀ (r : List Nc) (i : Int) (s : Nat), (∀ x ∈ r, ∀ (i : Int) (s : Nat) k, i < 20 → step i (tc x) (s : Int) k = k (wr ((s : Int) + f x))) → i + r.length ≤ 20 → s + (r.map f).sum ≤ 100000 →
    goI step fin i (r.map tc) (s : Int) = fin ((s + (r.map f).sum : Nat) : Int)
  | [], i, s, _, _, _ => by simp [goI]
  | x :: r, i, s, h, hi, hs => by
    simp only [List.map_cons, List.sum_cons, List.length_cons] at hi hs ⊢
    rw [goI, h x (by simp) i s _ (by omega), wr_id (by omega) (by omega), show (s : Int) + (f x : Int) = ((s + f x : Nat) : Int) by omega, goI_sum r (i + 1) (s + f x) (fun y hy => h y (by simp [hy])) (by omega) (by omega), Nat.add_assoc]
theorem s_law_apart {os : List Nc} {p : Nat → Bool} (h : Apart os p) {q : Int → Bool} (hq : ∀ n : Nat, n < 16 → q (n : Int) = p n) : t_raillaw1_apart (os.map tc) (heads q) = some true := by
  have h16 := h.length_le
  unfold t_raillaw1_apart
  simp only [join_eq]
  have hw : (heads q).length ≤ 16 := heads_len q
  have hsum := heads_sum h hq
  rw [loopI_eq (by rw [List.length_map]; unfold maxI; omega)]
  rw [show (0 : Int) = ((0 : Nat) : Int) from rfl]
  refine (goI_sum (f := fun x => (heads (hs (tc x))).length) os 0 0 (fun x hx i s k hi => ?_) (by omega) (by rw [Nat.zero_add, hsum]; omega)).trans ?_
  · rw [if_pos (decide_eq_true hi), s_rCube, Option.bind_some, cf_tc (h.ok x hx), if_neg (by decide), s_rHeaders, Option.bind_some]
    rfl
  · rw [Nat.zero_add, hsum, loopI_eq (by unfold maxI; omega)]
    rw [goI_any (p := fun _ => false) (r := false) (heads q) _ fun x hx i k => ?_]
    · simp; omega
    · obtain ⟨n, hn, rfl, hqn⟩ := collect_mem q 16 0 x hx
      rw [s_rAny _ _ (by rw [List.length_map]; unfold maxI; omega), Option.bind_some, any_tc h.ok (by omega)]
      have h1 := h.one n (by omega)
      rw [← hq n (by omega), hqn, if_pos rfl] at h1
      have : (os.any fun x => hasN x n) = true := by
        rw [List.any_eq_true]
        obtain ⟨y, hy, hy2⟩ := List.countP_pos_iff.1 (by rw [h1]; decide : 0 < os.countP fun x => hasN x n)
        exact ⟨y, hy, hy2⟩
      rw [this]; rfl
theorem apart_nil {q : Int → Bool} (hq : ∀ n : Nat, n < 16 → q (n : Int) = false) : t_raillaw1_apart [] (heads q) = some true := by
  have := s_law_apart (os := []) (p := fun _ => false) ⟨by simp, fun _ _ => rfl⟩ hq
  exact this
theorem heads_false : heads (fun _ => false) = [] := rfl
/-- headers put together as long as something holds -/
theorem goU_heads {q : Int → Bool} {c : Bool} {step : Int → List Int → (List Int → Option (List Int)) → Option (List Int)} {fin : Int → List Int → Option (List Int)} (hf : ∀ i s, fin i s = some s) (h1 : c = true → ∀ j s k, 0 ≤ j → j < 16 → s.length ≤ 100000 → step j s k = k (if q j = true then s ++ [j] else s)) (h2 : c = false → ∀ j s k, step j s k = some s) :
    loopU 0 16 step fin [] = some (if c = true then heads q else []) := by
  rw [loopU_eq (by omega) (by unfold maxI; omega), show ((16 : Int) - 0).toNat = 16 from rfl]
  cases c
  · rw [show goU step fin 16 0 [] = step 0 [] _ from rfl, h2 rfl]; rfl
  · rw [goU_collect (p := q) 16 0 [] (by simp) fun j s k a b d => h1 rfl j s k a (by omega) d, hf]; rfl
theorem goU_all {q : Int → Bool} {step : Int → Bool → (Bool → Option Bool) → Option Bool} {fin : Int → Bool → Option Bool} (hf : ∀ i s, fin i s = some s) : ∀ (m : Nat) (i : Nat) (s : Bool), (∀ j s k, step j s k = k (s && q j)) → goU step fin m (i : Int) s = some (s && (List.range m).all fun j => q ((i + j : Nat) : Int))
  | 0, i, s, _ => by simp [goU, hf]
  | m + 1, i, s, h => by
    rw [goU, h, show (i : Int) + 1 = ((i + 1 : Nat) : Int) by omega, goU_all hf m (i + 1) _ h, List.range_succ_eq_map, List.all_cons, List.all_map]
    have e : ((fun j => q ((i + j : Nat) : Int)) ∘ Nat.succ) = fun j => q ((i + 1 + j : Nat) : Int) := by
      funext j
      show q ((i + (j + 1) : Nat) : Int) = _
      rw [show i + (j + 1) = i + 1 + j by omega]
    rw [e, Bool.and_assoc]; rfl
theorem cubes_tells (l m : List T_Cube) (c : T_Cube) (h : Int) (hl : (l.length : Int) ≤ maxI) (hm : (m.length : Int) ≤ maxI) : t_raillaw1_CubesTells l m c h = some true := by
  unfold t_raillaw1_CubesTells
  simp only [s_rCubes, s_cubes_Check, Option.bind_some, t_railsame_Error, decide_true]
  rw [goU_heads (q := anyC l) (c := decide (csf l = 0)) (fun _ _ => rfl) (fun h0 j s k _ _ hs => ?_) (fun h0 j s k => ?_)]
  rotate_left
  · rw [if_pos h0, s_rAny l j hl, Option.bind_some]
    cases anyC l j
    · rfl
    · rw [app_eq (by simp; omega)]; rfl
  · rw [if_neg (by rw [h0]; decide)]
  simp only [Option.bind_some, s_cubes_Headers, s_cubes_Count, s_cubes_Has l h hl, s_rAny l h hl, s_rCube, s_cubes_Same]
  have hI : t_railsame_Ints (if csf l = 0 then (heads (anyC l), (0 : Int)) else ([], csf l)).1 (if decide (csf l = 0) = true then heads (anyC l) else []) = some true := by
    by_cases h0 : csf l = 0
    · simp only [h0, if_true, decide_true]
      rw [s_Ints _ _ (by have := heads_len (anyC l); unfold maxI; omega), decide_eq_true rfl]
    · simp only [h0, if_false, decide_false, Bool.false_eq_true]
      rw [s_Ints _ _ (by unfold maxI; simp), decide_eq_true rfl]
  have hN : decide ((if csf l = 0 then (((heads (anyC l)).length : Int), (0 : Int)) else (0, csf l)).1 ≠ ((if decide (csf l = 0) = true then heads (anyC l) else []).length : Int)) = false := by
    by_cases h0 : csf l = 0 <;> simp [h0]
  have hE : ∀ x : List Int, decide ((if csf l = 0 then (x, (0 : Int)) else ([], csf l)).2 = csf l) = true := fun x => by by_cases h0 : csf l = 0 <;> simp [h0]
  have hE2 : ∀ x : Int, decide ((if csf l = 0 then (x, (0 : Int)) else (0, csf l)).2 = csf l) = true := fun x => by by_cases h0 : csf l = 0 <;> simp [h0]
  simp only [hI, hN, hE, hE2, Option.bind_some, Bool.not_false, gd_true, Bool.false_or, bne_self_eq_false, Bool.false_eq_true, if_false]
  -- apart
  obtain ⟨x, hx, hA⟩ : ∃ x, t_cubes_Apart l = some (x, csf l) ∧ t_raillaw1_apart x (if decide (csf l = 0) = true then heads (anyC l) else []) = some true := by
    by_cases h0 : csf l = 0
    · obtain ⟨n, rfl, hn, ha⟩ := (s_cubes_Apart l).1 h0
      refine ⟨_, by rw [ha, h0], ?_⟩
      simp only [h0, decide_true, if_true]
      exact s_law_apart (apN_apart n [] (by simp) hn) fun k hk => by rw [any_tc hn hk]; simp
    · refine ⟨[], (s_cubes_Apart l).2 h0, ?_⟩
      simp only [h0, decide_false, Bool.false_eq_true, if_false]
      exact apart_nil (q := fun _ => false) fun _ _ => rfl
  simp only [hx, hA, Option.bind_some, decide_true]
  -- minus
  generalize hf : (if decide (cf c = 0) = true then some (csf l) else some (cf c)) = F
  obtain ⟨f, rfl, hf0⟩ : ∃ f, F = some f ∧ (f = 0 ↔ cf c = 0 ∧ csf l = 0) ∧ f = if cf c = 0 then csf l else cf c := by
    by_cases h0 : cf c = 0
    · exact ⟨csf l, by rw [← hf]; simp [h0], by simp [h0], by simp [h0]⟩
    · exact ⟨cf c, by rw [← hf]; simp [h0], by simp [h0], by simp [h0]⟩
  obtain ⟨hf0, hf1⟩ := hf0
  simp only [Option.bind_some]
  rw [goU_heads (q := fun j => hs c j && !anyC l j) (c := decide (f = 0)) (fun _ _ => rfl) (fun h0 j s k _ _ hs9 => ?_) (fun h0 j s k => ?_)]
  rotate_left
  · rw [if_pos h0, s_rHas, s_rAny l j hl, Option.bind_some, Option.bind_some]
    cases hs c j && !anyC l j
    · rfl
    · rw [app_eq (by simp; omega)]; rfl
  · rw [if_neg (by rw [h0]; decide)]
  obtain ⟨y, hy, hM⟩ : ∃ y, t_cubes_Minus c l = some (y, f) ∧ t_raillaw1_apart y (if decide (f = 0) = true then heads (fun j => hs c j && !anyC l j) else []) = some true := by
    by_cases h0 : f = 0
    · obtain ⟨h1, h2⟩ := hf0.1 h0
      obtain ⟨n, rfl, hn⟩ := tcs_of (csf_len h2).2
      obtain ⟨a, rfl, ha⟩ := tc_of h1
      have h40 := (csf_len h2).1
      refine ⟨(lessAllN n [a]).map tc, ?_, ?_⟩
      · rw [s_cubes_Minus, if_pos h1, if_pos h2, s_minus ha hn (by rw [List.length_map] at h40; unfold maxI; omega), h0]; rfl
      · simp only [h0, decide_true, if_true]
        exact s_law_apart ((Apart.single ha).all hn) fun k hk => by rw [any_tc hn hk, hs_tc ha hk]
    · refine ⟨[], ?_, ?_⟩
      · rw [s_cubes_Minus, hf1]
        by_cases h1 : cf c = 0
        · have h2 : csf l ≠ 0 := fun h2 => h0 (hf0.2 ⟨h1, h2⟩)
          rw [if_pos h1, if_neg h2, if_pos h1]
        · rw [if_neg h1, if_neg h1]
      · simp only [h0, decide_false, Bool.false_eq_true, if_false]
        exact apart_nil (q := fun _ => false) fun _ _ => rfl
  simp only [hy, hM, Option.bind_some, decide_true]
  -- same
  obtain ⟨g, hg, hg1⟩ : ∃ g, (if decide (csf l = 0) = true then (t_railref1_Cubes m).bind fun r160 => some r160 else some (csf l)) = some g ∧ g = if csf l = 0 then csf m else csf l := by
    by_cases h0 : csf l = 0 <;> simp [h0, s_rCubes]
  simp only [s_rCubes, Option.bind_some] at hg
  simp only [hg, Option.bind_some]
  rw [loopU_eq (by omega) (by unfold maxI; omega), show ((16 : Int) - 0).toNat = 16 from rfl]
  have hall := goU_all (q := fun j => anyC l j == anyC m j) (fin := fun _ s => some s) (step := fun i133 s133 k134 => (t_railref1_Any l i133).bind fun r145 => (t_railref1_Any m i133).bind fun r147 => k134 (s133 && (r145 == r147))) (fun _ _ => rfl) 16 0 (decide (g = 0)) (fun j s k => by simp only [s_rAny _ _ hl, s_rAny _ _ hm, Option.bind_some])
  rw [show ((0 : Nat) : Int) = 0 from rfl] at hall
  rw [hall]
  simp only [Option.bind_some, Bool.true_and, Bool.and_true]
  have e1 : (List.range 16).all (fun j => anyC l ((0 + j : Nat) : Int) == anyC m ((0 + j : Nat) : Int)) = decide (heads (anyC l) = heads (anyC m)) := by
    rw [Bool.eq_iff_iff, List.all_eq_true, decide_eq_true_eq, heads_iff]
    refine ⟨fun h n hn => ?_, fun h n hn => ?_⟩
    · have := h n (List.mem_range.2 hn)
      simpa using this
    · have := h n (List.mem_range.1 hn)
      simpa using this
  rw [e1, hg1]
  by_cases h1 : csf l = 0
  · by_cases h2 : csf m = 0 <;> simp [h1, h2]
  · simp [h1]
theorem law_CubesTells (a0 a1 : List T_Cube) (a2 : T_Cube) (a3 : Int) (u0 : wL maxLen (fun x => T_Cube.wf maxLen x) a0) (u1 : wL maxLen (fun x => T_Cube.wf maxLen x) a1) (u2 : T_Cube.wf maxLen a2) (u3 : wi64 a3) : t_raillaw1_CubesTells a0 a1 a2 a3 = some true :=
  cubes_tells a0 a1 a2 a3 (u0.len (Nat.le_refl _)) (u1.len (Nat.le_refl _))
end Go.Proofs.YtpkcdfgjcodidaaDoor.Ty
