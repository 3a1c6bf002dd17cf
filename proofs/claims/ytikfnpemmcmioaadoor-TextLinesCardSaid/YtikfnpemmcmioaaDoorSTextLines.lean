/- Texts of nets: what is written; TextLines. -/
import Derived.Test.YtikfnpemmcmioaaDoorSText0
namespace Go.Proofs.YtikfnpemmcmioaaDoor.Ty
open Go Go.RowKit Go.Proofs.YtikfnpemmcmioaaDoor Go.Proofs.YtikfnpemmcmioaaDoor.Den
set_option linter.unusedSimpArgs false
set_option linter.unusedVariables false
set_option maxRecDepth 100000

theorem s_cubeChk (c : T_Cube) : ∃ v, t_cube_Check c = some v := by
  unfold t_cube_Check
  obtain ⟨b3, e3, _⟩ := s_Header c.Mask
  obtain ⟨b4, e4, _⟩ := s_Header c.Bits
  rw [e3, e4]
  cases b3 <;> cases b4 <;> simp only [gd, Bool.not_true, Bool.not_false, if_true, Bool.or_self, Bool.true_or, Bool.or_true, Bool.false_eq_true, if_false, Option.bind_some] <;> first | exact ⟨_, rfl⟩ | (split <;> exact ⟨_, rfl⟩)
/-- bytes none of which ends a line -/
def noEnd (l : List Int) : Prop := l.length = 4 ∧ ∀ x ∈ l, 0 ≤ x ∧ x < 256 ∧ x ≠ 10
theorem noEnd_set {l : List Int} (h : noEnd l) {i y : Int} (hi0 : 0 ≤ i) (hi : i < 4) (hy : 0 ≤ y ∧ y < 256 ∧ y ≠ 10) : ∃ l', oset l i y = some l' ∧ noEnd l' := by
  refine ⟨l.set i.toNat y, if_pos ⟨hi0, by have := h.1; omega⟩, by rw [List.length_set]; exact h.1, fun x hx => ?_⟩
  rcases List.mem_or_eq_of_mem_set hx with hx | rfl
  · exact h.2 x hx
  · exact hy
theorem gl_strOf {l : List Int} (h : noEnd l) : gl (strOfNums l) 4 := by
  have e : numsOf (strOfNums l) = l := by
    unfold numsOf strOfNums
    simp only [List.map_map]
    apply List.ext_getElem (by simp)
    intro i h1 h2
    have := h.2 l[i] (List.getElem_mem _)
    simp
    omega
  refine ⟨?_, nl_nums fun x hx => ?_⟩
  · have := numsOf_len (strOfNums l)
    rw [e, h.1] at this
    omega
  · rw [e] at hx; exact (h.2 x hx).2.2
theorem s_cubePrint (c : T_Cube) : ∃ r, t_cube_Print c = some r ∧ gl r.1 4 := by
  obtain ⟨v, hv⟩ := s_cubeChk c
  unfold t_cube_Print
  rw [hv, Option.bind_some]
  split
  · exact ⟨_, rfl, (by decide +kernel : gl (ByteArray.mk #[]) 4)⟩
  have h0 : noEnd (List.replicate 4 0) := ⟨rfl, fun x hx => by rw [List.eq_of_mem_replicate hx]; decide⟩
  rw [show omake 4 4 (0 : Int) = some (List.replicate 4 0) from rfl, Option.bind_some]
  have : ∃ s, (loopI (List.replicate 4 (0 : Int)) (fun (i23 : Int) x24 (s19 : (List Int)) k20 =>
 need (decide (0 ≤ (wr (3 - i23)))) (
 (if (decide ((bits .and .i64 c.Mask (wr (1 * 2 ^ (min (Int.toNat (wr (3 - i23))) 64)))) = 0)) = true then (
 need (decide (0 ≤ i23) && decide (i23 < (List.length s19 : Int))) (
 (oset s19 i23 42).bind fun r45 =>
 some (r45))) else (
 (if (decide ((bits .and .i64 c.Bits (wr (1 * 2 ^ (min (Int.toNat (wr (3 - i23))) 64)))) = 0)) = true then (
 need (decide (0 ≤ i23) && decide (i23 < (List.length s19 : Int))) (
 (oset s19 i23 48).bind fun r60 =>
 some (r60))) else (
 need (decide (0 ≤ i23) && decide (i23 < (List.length s19 : Int))) (
 (oset s19 i23 49).bind fun r66 =>
 some (r66)))).bind fun (s52 : (List Int)) =>
 some (s52))).bind fun (s36 : (List Int)) =>
 k20 (s36))) (fun (s19 : (List Int)) =>
 some (s19)) (List.replicate 4 (0 : Int))) = some s ∧ noEnd s := by
    refine loopI_ex (fun i l s => 0 ≤ i ∧ i + l.length = 4 ∧ noEnd s) (by simp) ⟨by omega, by simp, h0⟩ (fun i s hI => ⟨s, rfl, hI.2.2⟩) (fun i x l s k hI hk => ?_)
    obtain ⟨hi0, hi, hs⟩ := hI
    simp only [List.length_cons] at hi
    have hi4 : i < 4 := by omega
    have hw : wr (3 - i) = 3 - i := wr_id (by omega) (by omega)
    have hl : (decide (0 ≤ i) && decide (i < (s.length : Int))) = true := by have := hs.1; simp; omega
    rw [need_pos (by rw [hw]; simp; omega)]
    obtain ⟨a, ea, ga⟩ := noEnd_set hs hi0 hi4 (y := 42) (by decide)
    obtain ⟨b, eb, gb⟩ := noEnd_set hs hi0 hi4 (y := 48) (by decide)
    obtain ⟨d, ed, gd'⟩ := noEnd_set hs hi0 hi4 (y := 49) (by decide)
    split
    · rw [need_pos hl, ea]
      exact hk a ⟨by omega, by omega, ga⟩
    · split
      · rw [need_pos hl, eb]
        exact hk b ⟨by omega, by omega, gb⟩
      · rw [need_pos hl, ed]
        exact hk d ⟨by omega, by omega, gd'⟩
  obtain ⟨s, es, gs⟩ := this
  rw [es]
  exact ⟨_, rfl, gl_strOf gs⟩
theorem s_ruleChk2 (r : T_Rule) : ∃ c, t_rule_Check r = some c ∧ (c = 0 → (0 ≤ r.Prio ∧ r.Prio ≤ 99) ∧ 0 ≤ r.Out ∧ r.Out ≤ 4) := by
  obtain ⟨c, hc, _⟩ := s_ruleCheck r
  refine ⟨c, hc, fun h => ?_⟩
  subst h
  unfold t_rule_Check at hc
  obtain ⟨b1, e1, f1⟩ := s_Header r.Set
  obtain ⟨b2, e2, f2⟩ := s_Header r.Value
  rw [e1, e2] at hc
  cases hA : (((decide (r.Prio < 0) || decide (99 < r.Prio)) || decide (r.Out < 0)) || decide (4 < r.Out)) with
  | true => rw [hA] at hc; simp [gd] at hc
  | false =>
    simp only [Bool.or_eq_false_iff, decide_eq_false_iff_not, Int.not_lt] at hA
    omega
theorem s_rulePrint (r : T_Rule) : ∃ x, t_rule_Print r = some x ∧ (x.2 = 0 → gl x.1 40) := by
  obtain ⟨c, hc, hg⟩ := s_ruleChk2 r
  unfold t_rule_Print
  rw [hc, Option.bind_some]
  split
  · rename_i h
    exact ⟨_, rfl, fun h0 => by simp only at h0; subst h0; simp at h⟩
  rename_i h
  have hc0 : c = 0 := by simpa using h
  obtain ⟨⟨p0, p1⟩, o0, o1⟩ := hg hc0
  obtain ⟨q, eq, gq⟩ := s_cubePrint r.Cube
  rw [eq, Option.bind_some]
  split
  · rename_i h2
    exact ⟨_, rfl, fun h0 => by simp only at h0; rw [h0] at h2; simp at h2⟩
  obtain ⟨a, ea, ga⟩ := s_Itoa p0 (by omega : r.Prio < 100)
  have g1 : gl (ByteArray.mk #[32]) 1 := by decide +kernel
  have g2 : gl (ByteArray.mk #[32, 100, 114, 111, 112]) 5 := by decide +kernel
  have g3 : gl (ByteArray.mk #[32, 111, 117, 116, 32]) 5 := by decide +kernel
  have g4 : gl (ByteArray.mk #[32, 115, 101, 116, 32]) 5 := by decide +kernel
  have G1 := gl_app ga g1
  have G2 := gl_app G1 gq
  rw [ea, Option.bind_some, need_le (sz ga g1) (by omega), need_le (sz G1 gq) (by omega)]
  split
  · rw [need_le (sz G2 g2) (by omega)]
    exact ⟨_, rfl, fun _ => gl_le (gl_app G2 g2) (by omega)⟩
  obtain ⟨b, eb, gb⟩ := s_Itoa o0 (by omega : r.Out < 100)
  have G3 := gl_app g3 gb
  have G4 := gl_app G2 G3
  rw [eb, Option.bind_some, need_le (sz g3 gb) (by omega), need_le (sz G2 G3) (by omega)]
  simp only [join_eq]
  split
  · obtain ⟨q2, eq2, gq2⟩ := s_cubePrint (T_Cube.mk r.Set r.Value)
    rw [eq2, Option.bind_some]
    split
    · rename_i h2
      exact ⟨_, rfl, fun h0 => by simp only at h0; rw [h0] at h2; simp at h2⟩
    have G5 := gl_app g4 gq2
    rw [need_le (sz g4 gq2) (by omega), need_le (sz G4 G5) (by omega)]
    exact ⟨_, rfl, fun _ => gl_le (gl_app G4 G5) (by omega)⟩
  · exact ⟨_, rfl, fun _ => gl_le G4 (by omega)⟩
theorem gl_word {k : Nat} (h : k ≤ 4) : gl (wordsL.getD k ⟨#[]⟩) 5 := by
  have key : ∀ j : Fin 5, gl (wordsL.getD j.val ⟨#[]⟩) 5 := by decide +kernel
  exact key ⟨k, by omega⟩
theorem gl_wpS (x : T_Wish) : gl (wpS x) 40 := by
  have g1 : gl (ByteArray.mk #[32]) 1 := by decide +kernel
  unfold wpS
  split
  · decide +kernel
  rename_i he
  have he : wpE x = 0 := by simpa using he
  split
  · exact gl_le (gl_word (by omega)) (by omega)
  rename_i h4
  have hE := he
  unfold wpE at hE
  split at hE
  · cases hE
  rename_i hk
  split at hE
  · cases hE
  rename_i hv
  split at hE
  · cases hE
  rename_i hn
  have hn : nameB x.From = true ∧ nameB x.To = true := by
    cases h1 : nameB x.From <;> cases h2 : nameB x.To <;> simp_all
  have gf := gl_name hn.1
  have gt := gl_name hn.2
  split
  · rename_i h3
    have hvi : ¬ (x.Via < 1 ∨ 6 < x.Via) := fun h => hv ⟨h3, h⟩
    exact gl_le (gl_app (gl_app (gl_app (gl_app (gl_app (gl_word (by omega)) g1) gf) g1) gt) (gl_app g1 (gl_itoa (by omega)))) (by omega)
  · exact gl_le (gl_app (gl_app (gl_app (gl_app (gl_word (by omega)) g1) gf) g1) gt) (by omega)

/-! the whole text -/
abbrev nlB : ByteArray := ByteArray.mk #[10]
def tsum (l : List (List T_Rule)) : Nat := (l.map List.length).sum
theorem jt : ∀ r : List ByteArray, (∀ s ∈ r, gl s 60) → (Lib.joinTail [10] (r.map (·.data.toList))).count 10 = r.length ∧ (Lib.joinTail [10] (r.map (·.data.toList))).length ≤ 61 * r.length
  | [], _ => ⟨rfl, Nat.le_refl _⟩
  | x :: r, h => by
    obtain ⟨h1, h2⟩ := jt r fun s hs => h s (by simp [hs])
    obtain ⟨hx1, hx2⟩ := h x (by simp)
    unfold nl at hx2
    have e : Lib.joinTail [10] ((x :: r).map (·.data.toList)) = [10] ++ x.data.toList ++ Lib.joinTail [10] (r.map (·.data.toList)) := by simp [Lib.joinTail]
    have hxs : x.data.toList.length = x.size := by simp
    rw [e]
    simp only [List.count_append, List.length_append, List.length_cons, List.length_nil, hx2, h1]
    refine ⟨by simp; omega, by omega⟩
theorem join_len (x : ByteArray) (r : List ByteArray) (h : ∀ s ∈ x :: r, gl s 60) : (Lib.join ((x :: r).map (·.data.toList)) [10]).count 10 = r.length ∧ (Lib.join ((x :: r).map (·.data.toList)) [10]).length ≤ 61 * (r.length + 1) := by
  obtain ⟨h1, h2⟩ := jt r fun s hs => h s (by simp [hs])
  obtain ⟨hx1, hx2⟩ := h x (by simp)
  unfold nl at hx2
  have hxs : x.data.toList.length = x.size := by simp
  rw [List.map_cons, Lib.join_cons, List.count_append, List.length_append, hx2, h1]
  exact ⟨by omega, by omega⟩
theorem s_join (L : List ByteArray) (h : ∀ s ∈ L, gl s 60) (hne : L ≠ []) (hl : L.length ≤ 1000) : t_Join L nlB = some (joinS L nlB) ∧ nl (joinS L nlB) + 1 = L.length ∧ (joinS L nlB).size ≤ 61000 := by
  cases L with
  | nil => exact absurd rfl hne
  | cons x r =>
    obtain ⟨h1, h2⟩ := join_len x r h
    simp only [List.length_cons] at hl ⊢
    have hA : (Lib.join ((x :: r).map (·.data.toList)) nlB.data.toList).length ≤ 140737488355328 := by
      show (Lib.join ((x :: r).map (·.data.toList)) [10]).length ≤ 140737488355328
      omega
    refine ⟨if_pos ⟨by simp; omega, hA⟩, ?_, ?_⟩
    · show (Lib.join ((x :: r).map (·.data.toList)) [10]).count 10 + 1 = r.length + 1
      omega
    · show (Lib.join ((x :: r).map (·.data.toList)) [10]).toArray.size ≤ 61000
      rw [List.size_toArray]; omega
/-- lines that have been written so far -/
structure Lns (L : List ByteArray) (k : Nat) : Prop where
  gl : ∀ s ∈ L, gl s 60
  len : L.length = k
theorem Lns.app {L : List ByteArray} {k : Nat} (h : Lns L k) {x : ByteArray} (hx : Ty.gl x 60) : Lns (L ++ [x]) (k + 1) := ⟨fun s hs => by
  rcases List.mem_append.1 hs with hs | hs
  · exact h.gl s hs
  · rw [List.mem_singleton.1 hs]; exact hx, by rw [List.length_append, h.len]; rfl⟩
theorem s_textPrint (n : T_Net) (w : List T_Wish) (hn : ∀ h ∈ n.Topo.Hosts, (h.Name.size : Int) ≤ maxI) (hw : ∀ x ∈ w, (x.From.size : Int) ≤ maxI ∧ (x.To.size : Int) ≤ maxI) :
    ∃ x, t_text_Print n w = some x ∧ (x.2 = 0 → n.Topo.Links.length ≤ 200 ∧ n.Topo.Hosts.length ≤ 8 ∧ tsum n.Tables ≤ 72 ∧ n.Tables.length ≤ 6 ∧ w.length ≤ 8 ∧ ∃ L, x.1 = joinS L nlB ++ nlB ∧ Lns L (1 + n.Topo.Links.length + n.Topo.Hosts.length + tsum n.Tables + w.length)) := by
  unfold t_text_Print
  obtain ⟨c, hc, hg⟩ := s_netCheck n hn
  rw [hc, Option.bind_some]
  split
  · rename_i h
    exact ⟨_, rfl, fun h0 => by simp only at h0; subst h0; simp at h⟩
  rename_i h
  have hc0 : c = 0 := by simpa using h
  obtain ⟨hT, hck, hlen, htab⟩ := hg hc0
  have hnm : ∀ h ∈ n.Topo.Hosts, nameB h.Name = true := by
    obtain ⟨c2, e1, e2⟩ := s_topoNames n.Topo hn
    rw [hck] at e1
    exact e2 (Option.some.inj e1).symm
  obtain ⟨v, hv, hvg⟩ := s_wishCheck hn w
  rw [hv, Option.bind_some]
  split
  · rename_i h
    exact ⟨_, rfl, fun h0 => by simp only at h0; subst h0; simp at h⟩
  rename_i h2
  have hv0 : v = 0 := by simpa using h2
  have hw8 := (hvg hv0).1
  have h1 := hT.sw; have hl200 := hT.nl; have hh8 := hT.nh
  have hts : ∀ l : List (List T_Rule), (∀ t ∈ l, t ∈ n.Tables) → tsum l ≤ 12 * l.length := by
    intro l
    induction l with
    | nil => intro _; exact Nat.le_refl _
    | cons t l ih =>
      intro hl
      have := ih fun t ht => hl t (by simp [ht])
      have h12 := (htab t (hl t (by simp))).1
      simp only [tsum, List.map_cons, List.sum_cons, List.length_cons] at this ⊢
      omega
  have htl : n.Tables.length ≤ 6 := by omega
  have hts0 := hts n.Tables fun _ h => h
  have hM : maxI = 9223372036854775807 := rfl
  obtain ⟨a, ea, ga⟩ := s_Itoa (z := n.Topo.Switches) (by omega) (by omega)
  have gs : gl (ByteArray.mk #[115, 119, 105, 116, 99, 104, 101, 115, 32]) 9 := by decide +kernel
  have gk : gl (ByteArray.mk #[108, 105, 110, 107, 32]) 5 := by decide +kernel
  have gho : gl (ByteArray.mk #[104, 111, 115, 116, 32]) 5 := by decide +kernel
  have gru : gl (ByteArray.mk #[114, 117, 108, 101, 32]) 5 := by decide +kernel
  have g1 : gl (ByteArray.mk #[32]) 1 := by decide +kernel
  rw [ea, Option.bind_some, need_le (sz gs ga) (by omega)]
  -- links
  obtain ⟨s1, e1, L1⟩ : ∃ s1, (loopI n.Topo.Links (fun (i182 : Int) x183 (s178 : (List ByteArray)) k179 =>
 (t_text_spot x183.A).bind fun r193 =>
 need (decide (((ByteArray.mk #[108, 105, 110, 107, 32]).size : Int) + r193.size ≤ maxI)) (
 need (decide ((((ByteArray.mk #[108, 105, 110, 107, 32]) ++ r193).size : Int) + (ByteArray.mk #[32]).size ≤ maxI)) (
 (t_text_spot x183.B).bind fun r198 =>
 need (decide (((((ByteArray.mk #[108, 105, 110, 107, 32]) ++ r193) ++ (ByteArray.mk #[32])).size : Int) + r198.size ≤ maxI)) (
 (app s178 ([((((ByteArray.mk #[108, 105, 110, 107, 32]) ++ r193) ++ (ByteArray.mk #[32])) ++ r198)] : (List ByteArray))).bind fun r202 =>
 k179 (r202))))) (fun (s178 : (List ByteArray)) =>
 some (s178)) ([((ByteArray.mk #[115, 119, 105, 116, 99, 104, 101, 115, 32]) ++ a)] : (List ByteArray))) = some s1 ∧ Lns s1 (1 + n.Topo.Links.length) := by
    refine loopI_ex (fun i l s => (∀ x ∈ l, x ∈ n.Topo.Links) ∧ ∃ k, Lns s k ∧ k + l.length = 1 + n.Topo.Links.length) (by omega) ⟨fun _ h => h, 1, ⟨fun s hs => by rw [List.mem_singleton.1 hs]; exact gl_le (gl_app gs ga) (by omega), rfl⟩, rfl⟩ (fun i s hI => ?_) (fun i x l s k hI hk => ?_)
    · obtain ⟨_, k, h1, h2⟩ := hI
      refine ⟨s, rfl, ?_⟩
      simp only [List.length_nil] at h2
      rw [← h2]; exact h1
    · obtain ⟨hm, q, hq, hlq⟩ := hI
      have hx := hT.links x (hm x (by simp))
      obtain ⟨b, eb, gb⟩ := s_spot x.A n.Topo (by omega) hx.1
      obtain ⟨d, ed, gd'⟩ := s_spot x.B n.Topo (by omega) hx.2
      have G1 := gl_app gk gb
      have G2 := gl_app G1 g1
      simp only [List.length_cons] at hlq
      rw [eb, Option.bind_some, need_le (sz gk gb) (by omega), need_le (sz G1 g1) (by omega), ed, Option.bind_some, need_le (sz G2 gd') (by omega), app_eq (by rw [hq.len]; simp; omega), Option.bind_some]
      exact hk _ ⟨fun y hy => hm y (by simp [hy]), q + 1, hq.app (gl_le (gl_app G2 gd') (by omega)), by omega⟩
  rw [e1, Option.bind_some]
  -- hosts
  obtain ⟨s2, e2, L2⟩ : ∃ s2, (loopI n.Topo.Hosts (fun (i150 : Int) x151 (s146 : (List ByteArray)) k147 =>
 need (decide (((ByteArray.mk #[104, 111, 115, 116, 32]).size : Int) + x151.Name.size ≤ maxI)) (
 need (decide ((((ByteArray.mk #[104, 111, 115, 116, 32]) ++ x151.Name).size : Int) + (ByteArray.mk #[32]).size ≤ maxI)) (
 (t_text_spot x151.At).bind fun r164 =>
 need (decide (((((ByteArray.mk #[104, 111, 115, 116, 32]) ++ x151.Name) ++ (ByteArray.mk #[32])).size : Int) + r164.size ≤ maxI)) (
 (app s146 ([((((ByteArray.mk #[104, 111, 115, 116, 32]) ++ x151.Name) ++ (ByteArray.mk #[32])) ++ r164)] : (List ByteArray))).bind fun r168 =>
 k147 (r168))))) (fun (s146 : (List ByteArray)) =>
 some (s146)) (s1)) = some s2 ∧ Lns s2 (1 + n.Topo.Links.length + n.Topo.Hosts.length) := by
    refine loopI_ex (fun i l s => (∀ x ∈ l, x ∈ n.Topo.Hosts) ∧ ∃ k, Lns s k ∧ k + l.length = 1 + n.Topo.Links.length + n.Topo.Hosts.length) (by omega) ⟨fun _ h => h, _, L1, rfl⟩ (fun i s hI => ?_) (fun i x l s k hI hk => ?_)
    · obtain ⟨_, k, h1, h2⟩ := hI
      refine ⟨s, rfl, ?_⟩
      simp only [List.length_nil] at h2
      rw [← h2]; exact h1
    · obtain ⟨hm, q, hq, hlq⟩ := hI
      have hx := hT.hosts x (hm x (by simp))
      have gx := gl_name (hnm x (hm x (by simp)))
      obtain ⟨b, eb, gb⟩ := s_spot x.At n.Topo (by omega) hx.2
      have G1 := gl_app gho gx
      have G2 := gl_app G1 g1
      simp only [List.length_cons] at hlq
      rw [need_le (sz gho gx) (by omega), need_le (sz G1 g1) (by omega), eb, Option.bind_some, need_le (sz G2 gb) (by omega), app_eq (by rw [hq.len]; simp; omega), Option.bind_some]
      exact hk _ ⟨fun y hy => hm y (by simp [hy]), q + 1, hq.app (gl_le (gl_app G2 gb) (by omega)), by omega⟩
  rw [e2, Option.bind_some]
  simp only [join_eq]
  -- tables
  refine loopI_ex (fun i l s => 0 ≤ i ∧ i + l.length = n.Tables.length ∧ (∀ t ∈ l, t ∈ n.Tables) ∧ ∃ k, Lns s k ∧ k + tsum l = 1 + n.Topo.Links.length + n.Topo.Hosts.length + tsum n.Tables) (by omega) ⟨by omega, by omega, fun _ h => h, _, L2, rfl⟩ (fun i s hI => ?_) (fun i t l s k hI hk => ?_)
  · obtain ⟨_, _, _, k, h1, h2⟩ := hI
    have h2' : k = 1 + n.Topo.Links.length + n.Topo.Hosts.length + tsum n.Tables := by simpa [tsum] using h2
    -- wishes
    refine loopI_ex (fun i l s => (∀ x ∈ l, x ∈ w) ∧ ∃ k2, Lns s k2 ∧ k2 + l.length = k + w.length) (by omega) ⟨fun _ h => h, k, h1, rfl⟩ (fun i s hJ => ?_) (fun i x l s k3 hJ hk => ?_)
    · obtain ⟨_, q, hq, hlq⟩ := hJ
      simp only [List.length_nil] at hlq
      have hq0 : q ≤ 1000 := by omega
      have hne : s ≠ [] := by intro h0; have := hq.len; rw [h0] at this; simp at this; omega
      obtain ⟨j1, j2, j3⟩ := s_join s hq.gl hne (by rw [hq.len]; exact hq0)
      rw [j1, Option.bind_some, need_pos (decide_eq_true (by show ((joinS s nlB).size : Int) + 1 ≤ maxI; omega))]
      refine ⟨_, rfl, fun _ => ⟨hl200, hh8, by omega, htl, by omega, s, rfl, hq.gl, ?_⟩⟩
      rw [hq.len]; omega
    · obtain ⟨hm, q, hq, hlq⟩ := hJ
      simp only [List.length_cons] at hlq
      have hx := hw x (hm x (by simp))
      rw [show t_wish_Print x = some (wpS x, wpE x) from if_pos hx, Option.bind_some]
      split
      · rename_i h
        exact ⟨_, rfl, fun h0 => by simp only at h0; rw [h0] at h; simp at h⟩
      · rw [app_eq (by rw [hq.len]; simp; omega), Option.bind_some]
        exact hk _ ⟨fun y hy => hm y (by simp [hy]), q + 1, hq.app (gl_le (gl_wpS x) (by omega)), by omega⟩
  · obtain ⟨hi0, hi, hm, q, hq, hlq⟩ := hI
    simp only [List.length_cons] at hi
    have ht := htab t (hm t (by simp))
    have h12 := ht.1
    have hq2 : q + (t.length + tsum l) = 1 + n.Topo.Links.length + n.Topo.Hosts.length + tsum n.Tables := by simpa [tsum] using hlq
    refine loopI_ex (fun j m s => ∃ k2, Lns s k2 ∧ k2 + m.length = q + t.length) (by omega) ⟨q, hq, rfl⟩ (fun j s hJ => ?_) (fun j x m s k3 hJ hk3 => ?_)
    · obtain ⟨k2, hk2, hk2l⟩ := hJ
      simp only [List.length_nil] at hk2l
      exact hk _ ⟨by omega, by omega, fun y hy => hm y (by simp [hy]), k2, hk2, by omega⟩
    · obtain ⟨k2, hk2, hk2l⟩ := hJ
      simp only [List.length_cons] at hk2l
      obtain ⟨r, er, gr⟩ := s_rulePrint x
      rw [er, Option.bind_some]
      split
      · rename_i h
        exact ⟨_, rfl, fun h0 => by simp only at h0; rw [h0] at h; simp at h⟩
      · rename_i h
        have hr0 : r.2 = 0 := by simpa using h
        have gr := gr hr0
        obtain ⟨b, eb, gb⟩ := s_Itoa (z := i + 1) (by omega) (by omega)
        have G1 := gl_app gru gb
        have G2 := gl_app G1 g1
        rw [eb, Option.bind_some, need_le (sz gru gb) (by omega), need_le (sz G1 g1) (by omega), need_le (sz G2 gr) (by omega), app_eq (by rw [hk2.len]; simp; omega), Option.bind_some]
        exact hk3 _ ⟨k2 + 1, hk2.app (gl_le (gl_app G2 gr) (by omega)), by omega⟩

/-! the law -/
theorem cnt_at (s : ByteArray) {i : Nat} (hi : i < s.size) : (decide (bAt s i = 10)) = decide (s.data.toList.getD i 0 = 10) := by
  unfold bAt
  rw [Bool.eq_iff_iff]
  simp only [decide_eq_true_eq]
  constructor
  · intro h
    apply UInt8.toNat_inj.1
    have : (10 : UInt8).toNat = 10 := rfl
    omega
  · intro h; rw [h]; rfl
theorem cnt_drop (l : List UInt8) {i : Nat} (hi : i < l.length) : (l.drop i).count 10 = (l.drop (i + 1)).count 10 + (if decide (l.getD i 0 = 10) = true then 1 else 0) := by
  rw [List.drop_eq_getElem_cons hi, List.count_cons]
  have : l.getD i 0 = l[i] := by simp [List.getD, List.getElem?_eq_getElem hi]
  rw [this]
  simp
theorem s_count {step : Int → Int → (Int → Option Int) → Option Int} {fin : Int → Int → Option Int} (s : ByteArray) (hs : s.size ≤ 100000) (hfin : ∀ i x, fin i x = some x)
    (hstep : ∀ (i : Nat) x k, i < s.size → step (i : Int) x k = k (if decide (s.data.toList.getD i 0 = 10) = true then wr (x + 1) else x)) : ∀ (m i : Nat) (x : Nat), i + m = s.size → x + m ≤ 100000 → goU step fin m (i : Int) (x : Int) = some ((x + (s.data.toList.drop i).count 10 : Nat) : Int)
  | 0, i, x, h, _ => by
    have : (s.data.toList.drop i) = [] := List.drop_eq_nil_of_le (by simp; show s.size ≤ i; omega)
    rw [this]
    exact hfin _ _
  | m + 1, i, x, h, hx => by
    have hi : i < s.size := by omega
    have hil : i < s.data.toList.length := by simpa using hi
    show step (i : Int) x _ = _
    rw [hstep i x _ hi, cnt_drop _ hil]
    have ec : ((i : Int) + 1) = ((i + 1 : Nat) : Int) := by omega
    rw [ec]
    by_cases h10 : decide (s.data.toList.getD i 0 = 10) = true
    · rw [if_pos h10, if_pos h10, wr_id (by omega) (by omega), show (x : Int) + 1 = ((x + 1 : Nat) : Int) by omega]
      rw [s_count s hs hfin hstep m (i + 1) (x + 1) (by omega) (by omega)]
      congr 2; omega
    · rw [if_neg h10, if_neg h10]
      rw [s_count s hs hfin hstep m (i + 1) x (by omega) (by omega)]
      congr 2
theorem one_text : t_text_Print (T_Net.mk (T_Topo.mk 1 [] []) ([[]] : (List (List T_Rule)))) [] = some (ByteArray.mk #[115, 119, 105, 116, 99, 104, 101, 115, 32, 49, 10], 0) := by
  unfold t_text_Print
  rw [show t_net_Check (T_Net.mk (T_Topo.mk 1 [] []) ([[]] : (List (List T_Rule)))) = some 0 by kernel_rfl]
  simp only [Option.bind_some, decide_true, Bool.not_true, Bool.false_eq_true, if_false]
  rw [show t_wish_Check (T_Topo.mk 1 [] []) [] = some 0 by kernel_rfl, show t_Itoa 1 = some (ByteArray.mk #[49]) by unfold t_Itoa; rw [if_pos (by decide), itoaS_lt (by decide)]; rfl]
  simp only [Option.bind_some, decide_true, Bool.not_true, Bool.false_eq_true, if_false]
  kernel_rfl
theorem walk_TextLines (n : T_Net) (w : List T_Wish) (u0 : n.wf maxLen) (u1 : wL maxLen (fun x => T_Wish.wf maxLen x) w) : t_raillaw4_TextLines n w = some true := by
  have hM : maxI = 9223372036854775807 := rfl
  have hL : (maxLen : Int) ≤ 9223372036854775807 := by decide
  have hn : ∀ h ∈ n.Topo.Hosts, (h.Name.size : Int) ≤ maxI := fun h hh => by
    have := (u0.1.2.2.2 h hh).1
    unfold wS at this
    omega
  have hw : ∀ x ∈ w, (x.From.size : Int) ≤ maxI ∧ (x.To.size : Int) ≤ maxI := fun x hx => by
    obtain ⟨_, h1, h2, _⟩ := u1.2 x hx
    unfold wS at h1 h2
    omega
  unfold t_raillaw4_TextLines
  rw [one_text]
  simp only [Option.bind_some, decide_true, Bool.not_true, Bool.or_self, Bool.false_eq_true, if_false]
  obtain ⟨x, ex, hx⟩ := s_textPrint n w hn hw
  rw [ex, Option.bind_some]
  split
  · rfl
  rename_i h
  obtain ⟨b1, b2, b3, b4, b5, L, e1, hLn⟩ := hx (by simpa using h)
  have hk : 1 + n.Topo.Links.length + n.Topo.Hosts.length + tsum n.Tables + w.length ≤ 1000 := by omega
  have hne : L ≠ [] := by intro h0; have := hLn.len; rw [h0] at this; simp at this; omega
  obtain ⟨_, j2, j3⟩ := s_join L hLn.gl hne (by rw [hLn.len]; exact hk)
  rw [hLn.len] at j2
  have hsz : x.1.size = (joinS L nlB).size + 1 := by rw [e1, ByteArray.size_append]; rfl
  have hcnt : nl x.1 = 1 + n.Topo.Links.length + n.Topo.Hosts.length + tsum n.Tables + w.length := by rw [e1, nl_app, show nl nlB = 1 from by decide +kernel]; omega
  have hlast : sidx x.1 (wr ((x.1.size : Int) - 1)) = some 10 := by
    rw [wr_id (by omega) (by omega)]
    unfold sidx
    rw [if_pos (by omega)]
    have : ((x.1.size : Int) - 1).toNat = (joinS L nlB).size := by omega
    rw [this]
    unfold bAt
    have hz : (joinS L nlB).data.toList.length = (joinS L nlB).size := by simp
    rw [e1, ByteArray.data_append, Array.toList_append, List.getD_eq_getElem?_getD, List.getElem?_append_right (by omega), hz, Nat.sub_self]
    rfl
  -- how many lines there should be
  obtain ⟨s, es, hs⟩ : ∃ s : Int, (loopI n.Tables (fun (i94 : Int) x95 (s90 : Int) k91 =>
 k91 (wr (s90 + (List.length x95 : Int)))) (fun (s90 : Int) =>
 some (s90)) (wr ((wr ((wr (1 + (List.length n.Topo.Links : Int))) + (List.length n.Topo.Hosts : Int))) + (List.length w : Int)))) = some s ∧ s = ((1 + n.Topo.Links.length + n.Topo.Hosts.length + tsum n.Tables + w.length : Nat) : Int) := by
    rw [wr_id (x := 1 + _) (by omega) (by omega), wr_id (x := 1 + _ + _) (by omega) (by omega), wr_id (x := 1 + _ + _ + _) (by omega) (by omega)]
    refine loopI_ex (fun i l s => 0 ≤ s ∧ s + tsum l = ((1 + n.Topo.Links.length + n.Topo.Hosts.length + tsum n.Tables + w.length : Nat) : Int)) (by omega) ⟨by omega, by omega⟩ (fun i s hI => ⟨s, rfl, by simpa [tsum] using hI.2⟩) (fun i t l s k hI hk2 => ?_)
    obtain ⟨h0, h1⟩ := hI
    have h1' : s + (t.length + tsum l : Nat) = ((1 + n.Topo.Links.length + n.Topo.Hosts.length + tsum n.Tables + w.length : Nat) : Int) := by simpa [tsum] using h1
    rw [wr_id (by omega) (by omega)]
    exact hk2 _ ⟨by omega, by omega⟩
  rw [es, Option.bind_some, loopU_eq (by omega) (by omega)]
  have hc := s_count (step := fun (i67 : Int) (s63 : Int) k64 =>
 (sidx x.1 i67).bind fun r76 =>
 (if (decide (r76 = 10)) = true then (
 some (wr (s63 + 1))) else (
 some (s63))).bind fun (s80 : Int) =>
 k64 (s80)) (fin := fun (i67 : Int) (s63 : Int) =>
 some (s63)) x.1 (by omega) (fun _ _ => rfl) (fun i y k hi => by
    have : sidx x.1 (i : Int) = some (bAt x.1 i) := by unfold sidx; rw [if_pos (by omega)]; rfl
    rw [this, Option.bind_some, cnt_at x.1 hi]
    split <;> rfl) x.1.size 0 0 (by omega) (by omega)
  rw [show ((x.1.size : Int) - 0).toNat = x.1.size by omega]
  have e0 : ((0 : Nat) : Int) = 0 := rfl
  rw [e0] at hc
  rw [hc, Option.bind_some, hlast]
  have hfull : ((0 + (x.1.data.toList.drop 0).count 10 : Nat) : Int) = s := by
    rw [hs, List.drop_zero, Nat.zero_add]
    show ((nl x.1 : Nat) : Int) = _
    rw [hcnt]
  rw [hfull]
  simp [gd]
end Go.Proofs.YtikfnpemmcmioaaDoor.Ty
