/- Nets, as they are read: what holds of them where nothing is wrong. -/
import Derived.Test.YtpkcdfgjcodidaaSNet0
namespace Go.Proofs.Ytpkcdfgjcodidaa.Ty
open Go Go.RowKit Go.Proofs.Ytpkcdfgjcodidaa.Den
set_option linter.unusedSimpArgs false
set_option linter.unusedVariables false
set_option maxRecDepth 100000

theorem hdr_bits {h s v : Int} (hh : 0 ≤ h ∧ h < 16) (hs : 0 ≤ s ∧ s < 16) (hv : 0 ≤ v ∧ v < 16) : 0 ≤ bits .or .i64 (bits .andNot .i64 h s) v ∧ bits .or .i64 (bits .andNot .i64 h s) v < 16 := by
  have H : ∀ x y z : Fin 16, 0 ≤ bits .or .i64 (bits .andNot .i64 (x.val : Int) (y.val : Int)) (z.val : Int) ∧ bits .or .i64 (bits .andNot .i64 (x.val : Int) (y.val : Int)) (z.val : Int) < 16 := by decide +kernel
  have := H ⟨h.toNat, by omega⟩ ⟨s.toNat, by omega⟩ ⟨v.toNat, by omega⟩
  simpa [Int.toNat_of_nonneg hh.1, Int.toNat_of_nonneg hs.1, Int.toNat_of_nonneg hv.1] using this
theorem s_Out (t : List T_Rule) (ht : tblGood t) (at_ : T_Spot) (h : Int) (hh : 0 ≤ h ∧ h < 16) : ∃ o, t_net_Out t at_ h = some o ∧ (o.2.2 = true → o.1.Switch = at_.Switch ∧ (1 ≤ o.1.Port ∧ o.1.Port ≤ 4) ∧ 0 ≤ o.2.1 ∧ o.2.1 < 16) := by
  unfold t_net_Out
  obtain ⟨i, e1, e2⟩ := s_Find t h ht.1
  rw [e1]
  simp only [Option.bind_some]
  by_cases hi : i < 0
  · simp [hi, gd]
  · obtain ⟨x, hx, hm, _⟩ := idx_some (l := t) (i := i) (by omega) (by omega)
    simp only [hx, hi, decide_false, Bool.not_false, gd_true, Option.bind_some, Bool.false_or]
    split
    · exact ⟨_, rfl, fun h => by cases h⟩
    · rename_i ho
      have ho : ¬ x.Out = 0 := by simpa using ho
      obtain ⟨g1, g2, g3⟩ := ht.2 x hm
      exact ⟨_, rfl, fun _ => ⟨rfl, by simp only; omega, hdr_bits hh g2 g3⟩⟩
theorem s_Other (T : T_Topo) (hT : topoGood T) (s : T_Spot) : ∃ o, t_topo_Other T s = some o ∧ (o.2 = true → spotOk T o.1) := by
  unfold t_topo_Other
  simp only [join_eq]
  have := hT.nl
  refine loopI_ex (fun _ l _ => ∀ x ∈ l, x ∈ T.Links) (by omega) (fun _ h => h) (fun i s hI => ⟨_, rfl, fun h => by cases h⟩) (fun i x l s k hI hk => ?_)
  have hx := hT.links x (hI x (by simp))
  split
  · exact ⟨_, rfl, fun _ => hx.2⟩
  · split
    · exact ⟨_, rfl, fun _ => hx.1⟩
    · exact hk () fun y hy => hI y (by simp [hy])
theorem s_IndexHost (l : List T_Host) (hl : l.length ≤ 8) (p : T_Host → Bool) (g : T_Host → Option Bool) (hg : ∀ x, g x = some (p x)) : ∃ i, t_slices_IndexFunc_api_Host_api_Host l g = some i ∧ (i < 0 ∨ (0 ≤ i ∧ i < l.length)) := by
  unfold t_slices_IndexFunc_api_Host_api_Host
  simp only [join_eq]
  refine loopI_ex (fun i m _ => 0 ≤ i ∧ i + m.length = l.length) (by omega) ⟨Int.le_refl _, by omega⟩ (fun i s hI => ⟨-1, rfl, .inl (by decide)⟩) (fun i x m s k hI hk => ?_)
  rw [hg]
  simp only [Option.bind_some]
  obtain ⟨h1, h2⟩ := hI
  simp only [List.length_cons] at h2
  split
  · exact ⟨i, rfl, .inr ⟨h1, by omega⟩⟩
  · exact hk () ⟨by omega, by omega⟩
theorem s_Host (T : T_Topo) (hT : topoGood T) (s : T_Spot) : ∃ o, t_topo_Host T s = some o ∧ (o.2 = true → o.1 ≠ ByteArray.mk #[]) := by
  unfold t_topo_Host
  obtain ⟨i, e1, e2⟩ := s_IndexHost T.Hosts hT.nh (fun a4 => decide (a4.At = s)) _ (fun x => (rfl : t_topo_Host_1 x s = some (decide (x.At = s))))
  rw [e1]
  simp only [Option.bind_some]
  split
  · exact ⟨_, rfl, fun h => by cases h⟩
  · rename_i hi
    simp only [decide_eq_true_eq] at hi
    obtain ⟨x, hx, hm, _⟩ := idx_some (l := T.Hosts) (i := i) (by omega) (by omega)
    rw [hx]
    exact ⟨_, rfl, fun _ => (hT.hosts x hm).1⟩
theorem s_Contains (l : List T_Hop) (hl : (l.length : Int) ≤ maxI) (x : T_Hop) : t_slices_Contains_api_Hop_api_Hop l x = some (decide (x ∈ l)) := by
  have : ∃ i, t_slices_Index_api_Hop_api_Hop l x = some i ∧ (0 ≤ i ↔ x ∈ l) := by
    unfold t_slices_Index_api_Hop_api_Hop
    simp only [join_eq]
    refine loopI_ex (fun i m _ => 0 ≤ i ∧ (x ∈ l ↔ x ∈ m) ∧ ∀ y ∈ m, y ∈ l) hl ⟨Int.le_refl _, Iff.rfl, fun _ h => h⟩ (fun i s hI => ⟨-1, rfl, ?_⟩) (fun i y m s k hI hk => ?_)
    · rw [hI.2.1]; simp
    · split
      · rename_i he
        have he : x = y := by simpa using he
        exact ⟨i, rfl, ⟨fun _ => by rw [he]; exact hI.2.2 y (by simp), fun _ => hI.1⟩⟩
      · rename_i he
        have he : ¬ x = y := by simpa using he
        exact hk () ⟨by have := hI.1; omega, by rw [hI.2.1]; simp [he], fun z hz => hI.2.2 z (by simp [hz])⟩
  obtain ⟨i, h1, h2⟩ := this
  unfold t_slices_Contains_api_Hop_api_Hop
  rw [h1]
  simp only [Option.bind_some, h2]
end Go.Proofs.Ytpkcdfgjcodidaa.Ty
