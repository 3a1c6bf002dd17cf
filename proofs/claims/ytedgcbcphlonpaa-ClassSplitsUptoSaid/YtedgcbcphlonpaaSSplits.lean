/- ClassSplits, as it is read: no memory in sight. -/
import Derived.Test.YtedgcbcphlonpaaSClass2
import Derived.Test.YtedgcbcphlonpaaSCmp
namespace Go.Proofs.Ytedgcbcphlonpaa.Ty
open Go Go.RowKit Go.Proofs.Ytedgcbcphlonpaa.Den
set_option linter.unusedSimpArgs false
set_option linter.unusedVariables false
set_option maxRecDepth 100000

theorem goI_append {α β σ : Type} {step : Int → α → σ → (σ → Option β) → Option β} {fin : σ → Option β} : ∀ (l m : List α) (i : Int) (s : σ), goI step fin i (l ++ m) s = goI step (fun s => goI step fin (i + l.length) m s) i l s
  | [], m, i, s => by simp [goI]
  | x :: l, m, i, s => by
    rw [List.cons_append, goI, goI]
    congr 1
    funext s'
    rw [goI_append l m (i + 1) s']
    congr 1
    funext s''
    congr 1
    simp only [List.length_cons]; omega
theorem goI_bind {α β σ : Type} {step : Int → α → σ → (σ → Option σ) → Option σ} {step' : Int → α → σ → (σ → Option β) → Option β} {F : σ → Option β} (h : ∀ i x s k, step' i x s k = (step i x s some).bind k) (h' : ∀ i x s k, step i x s k = (step i x s some).bind k) : ∀ (l : List α) (i : Int) (s : σ), goI step' F i l s = (goI step some i l s).bind F
  | [], i, s => rfl
  | x :: l, i, s => by
    rw [goI, goI, h, h' i x s (fun s' => goI step some (i + 1) l s'), Option.bind_assoc]
    congr 1
    funext s'
    exact goI_bind h h' l (i + 1) s'
theorem goI_all {α β σ : Type} {step : Int → α → σ → (σ → Option β) → Option β} {fin : σ → Option β} {P : α → Prop} {v : β} (h : ∀ i x s k, step i x s k = some v → P x ∧ ∃ s', k s' = some v) : ∀ (l : List α) (i : Int) (s : σ), goI step fin i l s = some v → ∀ x ∈ l, P x
  | [], _, _, _ => by simp
  | x :: l, i, s, hv => by
    obtain ⟨h1, s', h2⟩ := h i x s _ hv
    intro y hy
    rcases List.mem_cons.1 hy with rfl | hy
    · exact h1
    · exact goI_all h l (i + 1) s' h2 y hy
noncomputable def fdF {β : Type} (a0 : List T_Rule) (a1 : Int) : Int → T_Rule → Int → (Int → Option β) → Option β := fun (i13 : Int) x14 (s9 : Int) k10 =>
 (gd ((decide ((bits .and .i64 a1 x14.Cube.Mask) = x14.Cube.Bits)) && (!(decide (s9 < 0)))) default (idx a0 s9)).bind fun r43 =>
 (gd ((decide ((bits .and .i64 a1 x14.Cube.Mask) = x14.Cube.Bits)) && (!(decide (s9 < 0)))) default (t_rule_above x14 r43)).bind fun r50 =>
 (if ((decide ((bits .and .i64 a1 x14.Cube.Mask) = x14.Cube.Bits)) && ((decide (s9 < 0)) || (decide (0 < r50)))) = true then (
 some i13) else (
 some (s9))).bind fun (s60 : Int) =>
 k10 (s60)
theorem fdF_bind {β : Type} (a0 : List T_Rule) (a1 i : Int) (x : T_Rule) (s : Int) (k : Int → Option β) : fdF a0 a1 i x s k = (fdF a0 a1 i x s some).bind k := by
  unfold fdF
  simp only [Option.bind_assoc, Option.bind_some]
theorem find_eq (t : List T_Rule) (h : Int) (ht : t.length ≤ 13) : t_rule_Find t h = goI (fdF t h) some 0 t (-1) := by
  have hM : maxI = 9223372036854775807 := rfl
  unfold t_rule_Find
  rw [loopI_eq (by omega), bind_some_id]
  rfl
/-- whether a rule has a header -/
def mat (r : T_Rule) (h : Int) : Bool := decide ((bits .and .i64 h r.Cube.Mask) = r.Cube.Bits)
theorem find_app (t : List T_Rule) (r : T_Rule) (h : Int) (ht : t.length ≤ 11) (hr : ∀ x ∈ t, x.Prio < r.Prio) : findV (t ++ [r]) h = if mat r h = true then (t.length : Int) else findV t h := by
  have ho : ∀ (F : Int → Option Int), goI (fdF (t ++ [r]) h) F 0 t (-1) = goI (fdF t h) F 0 t (-1) := fun F => by
    refine goI_sim (fun i l s s' => s = s' ∧ 0 ≤ i ∧ i + l.length = t.length ∧ (s < 0 ∨ (0 ≤ s ∧ s < i))) (fun i s s' h => by rw [h.1]) (fun i x l s s' k k' hI hk => ?_) t 0 (-1) (-1) ⟨rfl, by omega, by omega, .inl (by decide)⟩
    obtain ⟨rfl, h0, h1, h2⟩ := hI
    simp only [List.length_cons] at h1
    have hix : s < 0 ∨ idx (t ++ [r]) s = idx t s := by
      rcases h2 with h2 | h2
      · exact .inl h2
      · refine .inr ?_
        unfold idx
        rw [if_pos h2.1, if_pos h2.1, List.getElem?_append_left (by omega)]
    unfold fdF
    have e : gd ((decide ((bits .and .i64 h x.Cube.Mask) = x.Cube.Bits)) && (!(decide (s < 0)))) default (idx (t ++ [r]) s) = gd ((decide ((bits .and .i64 h x.Cube.Mask) = x.Cube.Bits)) && (!(decide (s < 0)))) default (idx t s) := by
      rcases hix with hs | hs
      · simp [hs, gd]
      · rw [hs]
    rw [e]
    congr 1
    funext r43
    congr 1
    funext r50
    split
    · simp only [Option.bind_some]
      exact hk _ _ ⟨rfl, by omega, by omega, .inr ⟨h0, by omega⟩⟩
    · simp only [Option.bind_some]
      exact hk _ _ ⟨rfl, by omega, by omega, by omega⟩
  have hv := s_findV t (by omega) h
  have hin : findV t h < 0 ∨ (0 ≤ findV t h ∧ findV t h < t.length) := by
    obtain ⟨i, h1, h2⟩ := s_Find t h (by omega)
    rw [hv] at h1
    obtain rfl := Option.some.inj h1
    exact h2
  have key : t_rule_Find (t ++ [r]) h = some (if mat r h = true then (t.length : Int) else findV t h) := by
    rw [find_eq _ _ (by simp; omega), goI_append, ho, goI_bind (step := fdF t h) (fdF_bind t h) (fdF_bind t h), ← find_eq t h (by omega), hv, Option.bind_some, Int.zero_add, goI]
    show fdF (t ++ [r]) h (t.length : Int) r (findV t h) some = _
    unfold fdF
    show (gd (mat r h && !decide (findV t h < 0)) default (idx (t ++ [r]) (findV t h))).bind _ = _
    cases hm : mat r h with
    | false =>
      have hm' : decide ((bits .and .i64 h r.Cube.Mask) = r.Cube.Bits) = false := hm
      simp only [Bool.false_and, gd_false, Option.bind_some, hm', Bool.false_eq_true, if_false]
    | true =>
      have hm' : decide ((bits .and .i64 h r.Cube.Mask) = r.Cube.Bits) = true := hm
      by_cases hs : findV t h < 0
      · simp [hs, gd_false, hm']
      · obtain ⟨x, hx, hxm, hxn⟩ := idx_some (l := t) (i := findV t h) (by omega) (by omega)
        have hx' : idx (t ++ [r]) (findV t h) = some x := by
          unfold idx
          rw [if_pos (by omega), List.getElem?_append_left (by omega)]
          exact hxn
        have hab : t_rule_above r x = some 1 := by
          have hlt := hr x hxm
          unfold t_rule_above
          simp only [s_cmp, s_cmpOr, Option.bind_some]
          have h1 : ¬ r.Prio < x.Prio := by omega
          simp [h1, hlt]
        simp [hs, gd_true, hm', hx', hab]
  unfold findV
  rw [key]; rfl
theorem prio_le {x : T_Rule} (h : t_rule_Check x = some 0) : x.Prio ≤ 99 := by
  by_cases h1 : 99 < x.Prio
  · exfalso
    have e : ((((decide (x.Prio < 0)) || (decide (99 < x.Prio))) || (decide (x.Out < 0))) || (decide (4 < x.Out))) = true := by simp [h1]
    unfold t_rule_Check at h
    simp only [e, Bool.not_true, gd_false, Option.bind_some, Bool.true_or, if_true] at h
    cases h
  · omega
theorem table_prio {t : List T_Rule} (h : t_rule_Table t = some 0) : ∀ x ∈ t, x.Prio ≤ 99 := by
  unfold t_rule_Table at h
  split at h
  · cases h
  · simp only [join_eq] at h
    unfold loopI at h
    rw [need_some] at h
    refine goI_all (P := fun x => x.Prio ≤ 99) (v := (0 : Int)) (fun i x s k hv => ?_) t 0 () h.2
    obtain ⟨c, hc, _⟩ := s_ruleCheck x
    rw [hc, Option.bind_some] at hv
    split at hv
    · rename_i h1
      obtain rfl := Option.some.inj hv
      simp at h1
    · rename_i h1
      have h0 : c = 0 := by simpa using h1
      subst h0
      refine ⟨prio_le hc, (), ?_⟩
      obtain ⟨r, _, hv⟩ := Option.bind_eq_some_iff.1 hv
      obtain ⟨b, _, hv⟩ := Option.bind_eq_some_iff.1 hv
      split at hv
      · cases hv
      · exact hv
theorem s_OfC (t : List T_Rule) : ∃ c, t_rule_Table t = some c ∧ t_class_Of t = some (if c = 0 then clsN [t] 16 else [], c) ∧ (c = 0 → t.length ≤ 12) := by
  obtain ⟨c, h1, h2⟩ := s_ruleTable t
  refine ⟨c, h1, ?_, fun h => (h2 h).1⟩
  unfold t_class_Of
  rw [h1, Option.bind_some]
  by_cases hc : c = 0
  · rw [if_neg (by simpa using hc), s_classes [t] (fun x hx => by simp only [List.mem_singleton] at hx; subst hx; exact (h2 hc).1) (by simp), if_pos hc, hc]
    rfl
  · rw [if_pos (by simpa using hc), if_neg hc]
theorem cube_total (c : T_Cube) : ∃ v, t_cube_Check c = some v := by
  unfold t_cube_Check
  obtain ⟨b3, e3, _⟩ := s_Header c.Mask
  obtain ⟨b4, e4, _⟩ := s_Header c.Bits
  rw [e3, e4]
  cases b3 <;> cases b4 <;> simp only [gd, Bool.not_true, Bool.not_false, if_true, Bool.or_self, Bool.true_or, Bool.or_true, Bool.false_eq_true, if_false, Option.bind_some] <;> first | exact ⟨_, rfl⟩ | (split <;> exact ⟨_, rfl⟩)
theorem s_HasC (c : T_Cube) {v : Int} (hv : t_cube_Check c = some v) {h : Int} (hh : 0 ≤ h ∧ h < 16) : t_cube_Has c h = some (decide (v = 0) && decide ((bits .and .i64 h c.Mask) = c.Bits)) := by
  unfold t_cube_Has
  rw [hv, Option.bind_some]
  obtain ⟨b, e, hb⟩ := s_Header h
  obtain rfl : b = true := hb.2 hh
  rw [e]
  by_cases h0 : v = 0
  · simp [h0, gd_true]
  · simp [h0, gd_false]
theorem fact0 : clsN [[]] 16 = [[0, 1, 2, 3, 4, 5, 6, 7, 8, 9, 10, 11, 12, 13, 14, 15]] := by
  have hf : ∀ h, findV [] h = -1 := fun h => rfl
  have hp : ∀ h, pathV [[]] h = [-1] := fun h => rfl
  have hs : ∀ h c, same [[]] h c = true := fun h c => by unfold same; simp [hp]
  have hst : ∀ h c l, clsStep [[]] (c :: l) h = (c ++ [h]) :: l := fun h c l => by
    unfold clsStep
    simp [fx, hs]
  have h0 : ∀ h, clsStep [[]] [] h = [[h]] := fun h => by unfold clsStep; simp [fx]
  simp [clsN, h0, hst]
theorem walk_ClassSplits (a0 : List T_Rule) (a1 : T_Cube) (u0 : wL 1048576 (fun x => x.wf 1048576) a0) (u1 : a1.wf 1048576) : t_raillaw4_ClassSplits a0 a1 = some true := by
  have hM : maxI = 9223372036854775807 := rfl
  have hlen0 := u0.1
  unfold t_raillaw4_ClassSplits
  have hn : t_class_Of [] = some ([[0, 1, 2, 3, 4, 5, 6, 7, 8, 9, 10, 11, 12, 13, 14, 15]], 0) := by
    obtain ⟨c, h1, h2, _⟩ := s_OfC []
    have h3 : t_rule_Table [] = some 0 := rfl
    rw [h3] at h1
    obtain rfl := Option.some.inj h1
    rw [h2, if_pos rfl, fact0]
  rw [hn]
  have f1 : decide (((List.length [[(0 : Int), 1, 2, 3, 4, 5, 6, 7, 8, 9, 10, 11, 12, 13, 14, 15]] : Nat) : Int) ≠ 1) = false := rfl
  have f2 : decide (((List.length [(0 : Int), 1, 2, 3, 4, 5, 6, 7, 8, 9, 10, 11, 12, 13, 14, 15] : Nat) : Int) ≠ 16) = false := rfl
  simp only [Option.bind_some, decide_true, Bool.not_true, Bool.false_or, f1, Bool.not_false, gd_true, show idx [[(0 : Int), 1, 2, 3, 4, 5, 6, 7, 8, 9, 10, 11, 12, 13, 14, 15]] 0 = some [(0 : Int), 1, 2, 3, 4, 5, 6, 7, 8, 9, 10, 11, 12, 13, 14, 15] from rfl, f2, Bool.or_self, Bool.false_eq_true, if_false]
  obtain ⟨ca, ha1, ha2, ha3⟩ := s_OfC a0
  have hA : ca = 0 → (if ca = 0 then clsN [a0] 16 else []) = clsN [a0] 16 := fun h => if_pos h
  generalize (if ca = 0 then clsN [a0] 16 else []) = CA at ha2 hA
  rw [ha2]
  simp only [Option.bind_some]
  rw [app_eq (by simp; omega), Option.bind_some, List.nil_append, app_eq (by simp; omega), Option.bind_some, join_eq]
  generalize hr : (T_Rule.mk 99 a1 3 0 0) = r
  obtain ⟨cb, hb1, hb2, hb3⟩ := s_OfC (a0 ++ [r])
  have hB : cb = 0 → (if cb = 0 then clsN [a0 ++ [r]] 16 else []) = clsN [a0 ++ [r]] 16 := fun h => if_pos h
  generalize (if cb = 0 then clsN [a0 ++ [r]] 16 else []) = CB at hb2 hB
  -- no rule of the highest
  have loop : ∀ (B : Option Bool) (l : List T_Rule) (i : Int), (∀ x ∈ l, x ∈ a0) → ((∀ x ∈ a0, x.Prio ≠ 99) → B = some true) → ((∀ x ∈ l, x.Prio ≠ 99) → (∀ x ∈ a0, x.Prio ≠ 99) ) → goI (fun (i158 : Int) x159 (s154 : Unit) k155 => if (decide (x159.Prio = 99)) = true then (some true) else (k155 ())) (fun (s154 : Unit) => B) i l () = some true := by
    intro B l
    induction l with
    | nil => intro i _ hB h; exact hB (h (by simp))
    | cons x l ih =>
      intro i hl hB h
      rw [goI]
      by_cases hx : x.Prio = 99
      · rw [if_pos (by simpa using hx)]
      · rw [if_neg (by simpa using hx)]
        exact ih (i + 1) (fun y hy => hl y (by simp [hy])) hB fun h' => h fun y hy => by
          rcases List.mem_cons.1 hy with rfl | hy
          · exact hx
          · exact h' y hy
  rw [loopI_eq (by omega)]
  refine loop _ a0 0 (fun _ h => h) (fun hno => ?_) (fun h => h)
  simp only []
  rw [hb2]
  simp only [Option.bind_some]
  by_cases ha : ca = 0
  · by_cases hb : cb = 0
    · subst ha
      subst hb
      simp only [decide_true, Bool.not_true, Bool.or_self, Bool.false_eq_true, if_false, join_eq]
      have hl12 := hb3 rfl
      simp only [List.length_append, List.length_singleton] at hl12
      have hpr : ∀ x ∈ a0, x.Prio < r.Prio := fun x hx => by
        have h1 := table_prio ha1 x hx
        have h2 := hno x hx
        rw [← hr]
        show x.Prio < 99
        omega
      have hfa := fun h => find_app a0 r h (by omega) hpr
      have hmr : ∀ h, mat r h = decide ((bits .and .i64 h a1.Mask) = a1.Bits) := fun h => by rw [← hr]; rfl
      obtain ⟨v, hv⟩ := cube_total a1
      have hIb := clsN_inv [a0 ++ [r]] 16
      have hMb := clsN_invM [a0 ++ [r]] 16
      have hMa := clsN_invM [a0] 16
      have hIa := clsN_inv [a0] 16
      rw [← hB rfl] at hIb hMb
      rw [← hA rfl] at hIa hMa
      have hfin : ∀ h, findV a0 h < (a0.length : Int) := fun h => by
        obtain ⟨i, h1, h2⟩ := s_Find a0 h (by omega)
        rw [s_findV a0 (by omega) h] at h1
        obtain rfl := Option.some.inj h1
        omega
      -- alike in what the cube says
      have uni : ∀ c ∈ CB, ∀ x ∈ c, mat r x = mat r (hd0 c) := fun c hc x hx => by
        have h1 := (hMb.mem c hc x hx).2
        have h1 : findV (a0 ++ [r]) x = findV (a0 ++ [r]) (hd0 c) := by simpa [pathV] using h1
        rw [hfa, hfa] at h1
        have h2 := hfin x
        have h3 := hfin (hd0 c)
        cases hx1 : mat r x <;> cases hx2 : mat r (hd0 c) <;> simp [hx1, hx2] at h1 ⊢ <;> omega
      have cls : ∀ (l : List (List Int)) (i : Int) (B : Option Bool), (∀ c ∈ l, c ∈ CB) → goI (fun (i91 : Int) x92 (s87 : Unit) k88 =>
          loopU 1 (List.length x92 : Int) (fun (i115 : Int) (s111 : Unit) k112 =>
          (idx x92 i115).bind fun r129 => (t_cube_Has a1 r129).bind fun r132 => (idx x92 0).bind fun r137 => (t_cube_Has a1 r137).bind fun r140 =>
          if (r132 != r140) = true then (some false) else (k112 ())) (fun (i115 : Int) (s111 : Unit) => k88 ()) ()) (fun (s87 : Unit) => B) i l () = B := by
        intro l
        induction l with
        | nil => intro i B _; rfl
        | cons c l ih =>
          intro i B hl
          have hc := hl c (by simp)
          have hne := hIb.ne c hc
          have hcl := hIb.cl c hc
          have hpos : 0 < c.length := List.length_pos_iff.2 hne
          have h0 := List.getElem?_eq_getElem hpos
          have hd : hd0 c = c[0] := by
            obtain ⟨x, q, rfl⟩ := List.exists_cons_of_ne_nil hne
            rfl
          have hm0 := (hMb.mem c hc c[0] (List.getElem_mem hpos)).1
          rw [goI, loopU_eq (by decide) (by omega)]
          have e : ((c.length : Int) - 1).toNat = c.length - 1 := by omega
          rw [e]
          have inner := goU_fold (step := fun (i115 : Int) (s111 : Unit) k112 => (idx c i115).bind fun r129 => (t_cube_Has a1 r129).bind fun r132 => (idx c 0).bind fun r137 => (t_cube_Has a1 r137).bind fun r140 => if (r132 != r140) = true then (some false) else (k112 ())) (fin := fun (i115 : Int) (s111 : Unit) => goI (fun (i91 : Int) x92 (s87 : Unit) k88 =>
            loopU 1 (List.length x92 : Int) (fun (i115 : Int) (s111 : Unit) k112 =>
            (idx x92 i115).bind fun r129 => (t_cube_Has a1 r129).bind fun r132 => (idx x92 0).bind fun r137 => (t_cube_Has a1 r137).bind fun r140 =>
            if (r132 != r140) = true then (some false) else (k112 ())) (fun (i115 : Int) (s111 : Unit) => k88 ()) ()) (fun (s87 : Unit) => B) (i + 1) l ()) (l := c) (f := fun _ _ => ()) (fun j x s k hx => by
              have hxm := List.mem_of_getElem? hx
              have hxr := (hMb.mem c hc x hxm).1
              have hu := uni c hc x hxm
              rw [hd, hmr, hmr] at hu
              have hi0 : idx c 0 = some c[0] := by rw [← h0]; exact idx_nat (i := 0)
              simp only [idx_nat, hx, Option.bind_some]
              rw [s_HasC a1 hv (by omega), Option.bind_some, hi0, Option.bind_some, s_HasC a1 hv (by omega), Option.bind_some, hu]
              simp) (c.length - 1) 1 () (by omega)
          refine inner.trans ?_
          exact ih (i + 1) B fun d hd => hl d (by simp [hd])
      have hlb : (CB).length ≤ (CA).length + 1 := by
        have := nodup_len (heads [a0 ++ [r]] (CB)) ([(a0.length : Int)] :: heads [a0] (CA)) hMb.nd fun P hP => by
          obtain ⟨c, hc, rfl⟩ := List.mem_map.1 hP
          have hne := hIb.ne c hc
          obtain ⟨x, q, hxq⟩ := List.exists_cons_of_ne_nil hne
          have hx := (hMb.mem c hc x (by rw [hxq]; simp)).1
          have hd : hd0 c = x := by rw [hxq]; rfl
          show pathV [a0 ++ [r]] (hd0 c) ∈ _
          rw [hd]
          have e : pathV [a0 ++ [r]] x = [findV (a0 ++ [r]) x] := rfl
          rw [e, hfa]
          split
          · simp
          · refine List.mem_cons_of_mem _ ?_
            have := hMa.cov x.toNat (by omega)
            rw [Int.toNat_of_nonneg hx.1] at this
            exact this
        simpa [heads] using this
      have hb0 : 1 ≤ (CB).length := by
        have := hMb.cov 0 (by omega)
        have := List.length_pos_of_mem this
        simp [heads] at this
        omega
      have hla := hIa.len
      have hlb2 := hIb.len
      rw [loopI_eq (by omega), cls _ 0 _ (fun _ h => h), wr_id (by omega) (by omega)]
      simp
      omega
    · have : ((!decide (ca = 0)) || (!decide (cb = 0))) = true := by simp [hb]
      rw [if_pos this]
  · have : ((!decide (ca = 0)) || (!decide (cb = 0))) = true := by simp [ha]
    rw [if_pos this]
end Go.Proofs.Ytedgcbcphlonpaa.Ty
