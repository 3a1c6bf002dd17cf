/- Rules as text: what is written is read as it was, what is read is written so. -/
import Derived.Test.YtpbfogklmhgfoaaDoorTyA
import Derived.Test.YtpbfogklmhgfoaaDoorSBase
import Derived.Test.YtpbfogklmhgfoaaDoorSSplit
import Derived.Test.YtpbfogklmhgfoaaDoorNumber
namespace Go.Proofs.YtpbfogklmhgfoaaDoor.Ty
open Go Go.RowKit Go.Proofs.YtpbfogklmhgfoaaDoor Go.Proofs.YtpbfogklmhgfoaaDoor.Den
set_option linter.unusedSimpArgs false
set_option linter.unusedVariables false
set_option maxRecDepth 100000

/-! cubes: few enough to be tried one by one -/
def noSp (s : ByteArray) : Bool := !s.data.toList.contains 32
noncomputable def cubeTest (m b : Nat) : Bool := match t_cube_Print ⟨m, b⟩ with
  | some (s, e) => decide (t_cube_Check ⟨m, b⟩ = some e) && (decide (e ≠ 0) || (decide (t_cube_Parse s = some (⟨m, b⟩, 0)) && noSp s))
  | none => false
theorem cubes_all : ((List.range 16).all fun m => (List.range 16).all fun b => cubeTest m b) = true := by kernel_rfl
noncomputable def strTest (s : ByteArray) : Bool := match t_cube_Parse s with
  | some (c, e) => decide (e = 0) && decide (t_cube_Print c = some (s, 0))
  | none => false
def chs : List UInt8 := [42, 48, 49]
theorem strs_all : (chs.all fun a => chs.all fun b => chs.all fun c => chs.all fun d => strTest ⟨#[a, b, c, d]⟩) = true := by kernel_rfl

theorem cube_rng {c : T_Cube} (hc : t_cube_Check c = some 0) : (0 ≤ c.Mask ∧ c.Mask < 16) ∧ 0 ≤ c.Bits ∧ c.Bits < 16 := by
  unfold t_cube_Check t_cube_Header at hc
  simp only [Option.bind_some] at hc
  cases h1 : decide (0 ≤ c.Mask) && decide (c.Mask < 16) with
  | false => rw [h1] at hc; simp [gd] at hc
  | true =>
    rw [h1] at hc
    cases h2 : decide (0 ≤ c.Bits) && decide (c.Bits < 16) with
    | false => rw [h2] at hc; simp [gd] at hc
    | true => simp at h1 h2; exact ⟨h1, h2⟩
theorem cube_txt {c : T_Cube} (hc : t_cube_Check c = some 0) : ∃ s, t_cube_Print c = some (s, 0) ∧ t_cube_Parse s = some (c, 0) ∧ noSp s = true ∧ s.size = 4 := by
  have hr := cube_rng hc
  have key := List.all_eq_true.1 (List.all_eq_true.1 cubes_all c.Mask.toNat (List.mem_range.2 (by omega))) c.Bits.toNat (List.mem_range.2 (by omega))
  have ec : (⟨(c.Mask.toNat : Int), (c.Bits.toNat : Int)⟩ : T_Cube) = c := by
    cases c; simp only [T_Cube.mk.injEq]; simp only at hr; omega
  unfold cubeTest at key
  rw [ec] at key
  cases hp : t_cube_Print c with
  | none => rw [hp] at key; cases key
  | some x =>
    obtain ⟨s, e⟩ := x
    rw [hp, hc] at key
    simp only [Option.some.injEq, Bool.and_eq_true, decide_eq_true_eq, Bool.or_eq_true] at key
    obtain ⟨k1, k2⟩ := key
    subst k1
    have k2 := k2.resolve_left (by simp)
    refine ⟨s, rfl, k2.1, k2.2, ?_⟩
    have := k2.1
    unfold t_cube_Parse at this
    split at this
    · simp at this
    · rename_i h4; simp at h4; omega
theorem cube_fwd {c : T_Cube} {s : ByteArray} (h : t_cube_Print c = some (s, 0)) (hc : t_cube_Check c = some 0) : t_cube_Parse s = some (c, 0) ∧ noSp s = true := by
  have hr : (0 ≤ c.Mask ∧ c.Mask < 16) ∧ 0 ≤ c.Bits ∧ c.Bits < 16 := by
    unfold t_cube_Check t_cube_Header at hc
    simp only [Option.bind_some] at hc
    cases h1 : decide (0 ≤ c.Mask) && decide (c.Mask < 16) with
    | false => rw [h1] at hc; simp [gd] at hc
    | true =>
      rw [h1] at hc
      cases h2 : decide (0 ≤ c.Bits) && decide (c.Bits < 16) with
      | false => rw [h2] at hc; simp [gd] at hc
      | true => simp at h1 h2; exact ⟨h1, h2⟩
  have key := List.all_eq_true.1 (List.all_eq_true.1 cubes_all c.Mask.toNat (List.mem_range.2 (by omega))) c.Bits.toNat (List.mem_range.2 (by omega))
  have ec : (⟨(c.Mask.toNat : Int), (c.Bits.toNat : Int)⟩ : T_Cube) = c := by
    cases c; simp only [T_Cube.mk.injEq]; simp only at hr; omega
  unfold cubeTest at key
  rw [ec, h] at key
  have key' : t_cube_Check c = some 0 ∧ t_cube_Parse s = some (c, 0) ∧ noSp s = true := by simpa using key
  exact key'.2
theorem cube_bwd {c : T_Cube} {s : ByteArray} (h : t_cube_Parse s = some (c, 0)) : t_cube_Print c = some (s, 0) := by
  have h0 := h
  unfold t_cube_Parse at h
  split at h
  · simp at h
  rename_i h4
  have hs4 : s.data.toList.length = 4 := by
    have : s.size = 4 := by simp at h4; omega
    simpa using this
  obtain ⟨a, b, x, d, e⟩ : ∃ a b x d, s = ⟨#[a, b, x, d]⟩ := by
    match hl : s.data.toList, hs4 with
    | [a, b, x, d], _ => exact ⟨a, b, x, d, by cases s with | mk q => congr 1; exact Array.toList_inj.1 hl⟩
  subst e
  have step : ∀ (y : UInt8), ((y.toNat : Int) = 49 → y = 49) ∧ ((y.toNat : Int) = 48 → y = 48) ∧ ((y.toNat : Int) = 42 → y = 42) := fun y => ⟨fun e => UInt8.toNat_inj.1 (by have : (49 : UInt8).toNat = 49 := rfl; omega), fun e => UInt8.toNat_inj.1 (by have : (48 : UInt8).toNat = 48 := rfl; omega), fun e => UInt8.toNat_inj.1 (by have : (42 : UInt8).toNat = 42 := rfl; omega)⟩
  have inS : ∀ (y : UInt8), ((y.toNat : Int) = 49 ∨ (y.toNat : Int) = 48 ∨ (y.toNat : Int) = 42) → y ∈ chs := fun y hy => by
    rcases hy with e | e | e
    · rw [(step y).1 e]; decide
    · rw [(step y).2.1 e]; decide
    · rw [(step y).2.2 e]; decide
  rw [need_pos (decide_eq_true (by show ((4 : Nat) : Int) ≤ maxI; decide)), join_eq, loopI_eq (by show ((4 : Nat) : Int) ≤ maxI; decide)] at h
  have en : numsOf ⟨#[a, b, x, d]⟩ = [(a.toNat : Int), (b.toNat : Int), (x.toNat : Int), (d.toNat : Int)] := rfl
  rw [en] at h
  have ok : ∀ (stp : Int → Int → T_Cube × T_Cube → (T_Cube × T_Cube → Option (T_Cube × Int)) → Option (T_Cube × Int)) (fin : T_Cube × T_Cube → Option (T_Cube × Int)), (∀ i y q k v, stp i y q k = some v → v.2 = 0 → (y = 49 ∨ y = 48 ∨ y = 42) ∧ ∃ q', k q' = some v) → ∀ (l : List Int) (i : Int) (q : T_Cube × T_Cube) (v : T_Cube × Int), goI stp fin i l q = some v → v.2 = 0 → ∀ y ∈ l, y = 49 ∨ y = 48 ∨ y = 42 := by
    intro stp fin hst l
    induction l with
    | nil => intro i q v _ _ y hy; cases hy
    | cons z l ih =>
      intro i q v hv h0 y hy
      obtain ⟨h1, q', h2⟩ := hst i z q _ v hv h0
      rcases List.mem_cons.1 hy with rfl | hy
      · exact h1
      · exact ih _ q' v h2 h0 y hy
  have hall := ok _ _ (fun i y q k v hv h0 => by
    simp only [join_eq] at hv
    by_cases e1 : y = 49
    · rw [if_pos (decide_eq_true e1)] at hv; exact ⟨.inl e1, _, hv⟩
    · rw [if_neg (by simpa using e1)] at hv
      by_cases e2 : y = 48
      · rw [if_pos (decide_eq_true e2)] at hv; exact ⟨.inr (.inl e2), _, hv⟩
      · rw [if_neg (by simpa using e2)] at hv
        by_cases e3 : y = 42
        · rw [if_pos (decide_eq_true e3)] at hv; exact ⟨.inr (.inr e3), _, hv⟩
        · rw [if_neg (by simpa using e3)] at hv
          have := Option.some.inj hv
          rw [← this] at h0
          simp at h0) _ _ _ _ h rfl
  have key := List.all_eq_true.1 (List.all_eq_true.1 (List.all_eq_true.1 (List.all_eq_true.1 strs_all a (inS a (hall _ (by simp)))) b (inS b (hall _ (by simp)))) x (inS x (hall _ (by simp)))) d (inS d (hall _ (by simp)))
  unfold strTest at key
  rw [h0] at key
  simpa using key
/-! numbers -/
theorem itoaS_lt {n : Nat} (h : n < 100) : itoaS n = if n < 10 then ⟨#[UInt8.ofNat (48 + n)]⟩ else ⟨#[UInt8.ofNat (48 + n / 10), UInt8.ofNat (48 + n % 10)]⟩ := by
  unfold itoaS
  rw [Lib.decDigits]
  by_cases h1 : n < 10
  · rw [dif_pos h1, if_pos h1]
  · rw [dif_neg h1, if_neg h1, Lib.decDigits, dif_pos (show n / 10 < 10 by omega)]; rfl
def numTest (n : Nat) (s : ByteArray) : Bool := (match Lib.atoiAll s.data.toList with
  | .ok v => decide (v = n)
  | _ => false) && decide (s.size ≤ 9) && noSp s
theorem nums_all : ((List.range 100).all fun n => numTest n (if n < 10 then ⟨#[UInt8.ofNat (48 + n)]⟩ else ⟨#[UInt8.ofNat (48 + n / 10), UInt8.ofNat (48 + n % 10)]⟩)) = true := by kernel_rfl
theorem itoaZ_nat (n : Nat) : itoaZ (n : Int) = itoaS n := by
  unfold itoaZ itoaS Lib.itoa
  rw [if_neg (by omega)]; rfl
theorem num_fwd {z : Int} (h0 : 0 ≤ z) (h1 : z < 100) : t_rule_Number (itoaS z.toNat) = some (z, true) ∧ noSp (itoaS z.toNat) = true := by
  have hn : z.toNat < 100 := by omega
  have key := List.all_eq_true.1 nums_all z.toNat (List.mem_range.2 hn)
  rw [← itoaS_lt hn] at key
  unfold numTest at key
  cases ha : Lib.atoiAll (itoaS z.toNat).data.toList with
  | ok v =>
    rw [ha] at key
    simp only [Bool.and_eq_true, decide_eq_true_eq] at key
    obtain ⟨⟨hv, hs⟩, hsp⟩ := key
    have hvz : v = z := by omega
    refine ⟨?_, hsp⟩
    unfold t_rule_Number
    rw [if_pos (by omega), show numV (itoaS z.toNat) = z by unfold numV; rw [ha]; exact hvz, show numB (itoaS z.toNat) = true by
      unfold numB
      rw [ha]
      simp only [Bool.and_eq_true, decide_eq_true_eq]
      refine ⟨by omega, hs, ?_⟩
      rw [hvz, ← itoaZ_nat]
      congr 1; omega]
  | _ => rw [ha] at key; cases key
theorem num_bwd {s : ByteArray} {z : Int} (h : t_rule_Number s = some (z, true)) : 0 ≤ z ∧ itoaS z.toNat = s := by
  unfold t_rule_Number at h
  split at h
  · simp only [Option.some.injEq, Prod.mk.injEq] at h
    obtain ⟨h1, h2⟩ := h
    unfold numB at h2
    unfold numV at h1
    cases ha : Lib.atoiAll s.data.toList with
    | ok v =>
      rw [ha] at h1 h2
      simp only [Bool.and_eq_true, decide_eq_true_eq] at h1 h2
      subst h1
      refine ⟨h2.1, ?_⟩
      rw [← itoaZ_nat, show ((v.toNat : Nat) : Int) = v by omega]; exact h2.2.2
    | _ => rw [ha] at h2; cases h2
  · cases h

/-! words -/
theorem data_inj {a b : ByteArray} (h : a.data.toList = b.data.toList) : a = b := by
  cases a; cases b; congr 1; exact Array.toList_inj.1 h
theorem map_data_inj : ∀ {a b : List ByteArray}, a.map (·.data.toList) = b.map (·.data.toList) → a = b
  | [], [], _ => rfl
  | [], _ :: _, h => by simp at h
  | _ :: _, [], h => by simp at h
  | x :: a, y :: b, h => by
    simp only [List.map_cons, List.cons.injEq] at h
    rw [data_inj h.1, map_data_inj h.2]
abbrev sp : ByteArray := ByteArray.mk #[32]
theorem split_words (ws : List ByteArray) (u : ByteArray) (hne : ws ≠ []) (hw : ∀ w ∈ ws, noSp w = true) (hu : u.data.toList = glue 32 (ws.map (·.data.toList))) (hs : u.size < 4294967281) : t_Split u sp = some ws := by
  unfold t_Split
  rw [if_pos ⟨hs, by decide⟩]
  congr 1
  apply map_data_inj
  rw [split_data, hu, cut_glue]
  · simpa using hne
  · intro w hw2
    obtain ⟨x, hx, rfl⟩ := List.mem_map.1 hw2
    have := hw x hx
    unfold noSp at this
    simpa using this
theorem split_glue {s : ByteArray} {L : List ByteArray} (h : t_Split s sp = some L) : s.data.toList = glue 32 (L.map (·.data.toList)) := by
  unfold t_Split at h
  split at h
  · obtain rfl := Option.some.inj h
    rw [split_data, glue_cut]
  · cases h
/-! what is written -/
theorem ruleCheck_0 {r : T_Rule} (h : t_rule_Check r = some 0) : (0 ≤ r.Prio ∧ r.Prio ≤ 99) ∧ (0 ≤ r.Out ∧ r.Out ≤ 4) ∧ t_cube_Check r.Cube = some 0 ∧ t_cube_Check ⟨r.Set, r.Value⟩ = some 0 ∧ ¬ (r.Out = 0 ∧ r.Set ≠ 0) := by
  unfold t_rule_Check at h
  cases hA : (((decide (r.Prio < 0) || decide (99 < r.Prio)) || decide (r.Out < 0)) || decide (4 < r.Out)) with
  | true => rw [hA] at h; simp [gd] at h
  | false =>
    rw [hA] at h
    have hA' := hA
    simp only [Bool.or_eq_false_iff, decide_eq_false_iff_not, Int.not_lt] at hA'
    cases h1 : t_cube_Header r.Set with
    | none => rw [h1] at h; simp [gd] at h
    | some b1 =>
      rw [h1] at h
      cases b1 with
      | false => simp [gd] at h
      | true =>
        cases h2 : t_cube_Header r.Value with
        | none => rw [h2] at h; simp [gd] at h
        | some b2 =>
          rw [h2] at h
          cases b2 with
          | false => simp [gd] at h
          | true =>
            simp only [gd, Bool.not_true, Bool.not_false, Bool.or_self, Bool.or_false, Bool.false_eq_true, if_true, if_false, Option.bind_some] at h
            cases h3 : t_cube_Check r.Cube with
            | none => rw [h3] at h; cases h
            | some c =>
              rw [h3] at h
              simp only [Option.bind_some] at h
              by_cases hc : c = 0
              · subst hc
                simp only [decide_true, Bool.not_true, Bool.false_eq_true, if_false] at h
                split at h
                · cases h
                · rename_i h4
                  simp only [Bool.or_eq_true, Bool.and_eq_true, decide_eq_true_eq, not_or, not_and] at h4
                  refine ⟨by omega, by omega, rfl, ?_, fun hh => h4.2 hh.1 hh.2⟩
                  unfold t_cube_Check
                  simp only
                  rw [h1, Option.bind_some]
                  simp only [gd, Bool.not_true, Bool.not_false, if_true]
                  rw [h2, Option.bind_some]
                  simp only [Bool.not_true, Bool.or_self, Bool.false_eq_true, if_false]
                  rw [if_neg (by simpa using h4.1)]
              · rw [if_pos (by simpa using hc)] at h
                exact absurd (Option.some.inj h) hc
end Go.Proofs.YtpbfogklmhgfoaaDoor.Ty
