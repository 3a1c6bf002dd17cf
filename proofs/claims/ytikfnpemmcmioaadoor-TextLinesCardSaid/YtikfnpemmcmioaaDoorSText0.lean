/- Texts of nets: how many lines, and that each ends. -/
import Derived.Test.YtikfnpemmcmioaaDoorSChk
import Derived.Test.YtikfnpemmcmioaaDoorWPrint
namespace Go.Proofs.YtikfnpemmcmioaaDoor.Ty
open Go Go.RowKit Go.Proofs.YtikfnpemmcmioaaDoor Go.Proofs.YtikfnpemmcmioaaDoor.Den
set_option linter.unusedSimpArgs false
set_option linter.unusedVariables false
set_option maxRecDepth 100000

theorem s_WhereT {T : T_Topo} (hn : ∀ h ∈ T.Hosts, (h.Name.size : Int) ≤ maxI) (nm : ByteArray) : ∃ r, t_topo_Where T nm = some r ∧ (r.2 = 0 → t_topo_Check T = some 0 ∧ ∃ x ∈ T.Hosts, x.Name = nm ∧ r.1 = x.At) ∧ (t_topo_Check T = some 0 → (∃ x ∈ T.Hosts, x.Name = nm) → r.2 = 0) := by
  obtain ⟨c, e1, e2⟩ := s_topoCheck T hn
  unfold t_topo_Where
  rw [e1]
  simp only [Option.bind_some]
  by_cases hc : c = 0
  · subst hc
    have hg := e2 rfl
    simp only [decide_true, Bool.not_true, Bool.false_eq_true, if_false]
    have : ∃ i, t_slices_IndexFunc_api_Host_api_Host T.Hosts (fun a => t_topo_Where_1 a nm) = some i ∧ ((i < 0 ∧ ∀ x ∈ T.Hosts, x.Name ≠ nm) ∨ (0 ≤ i ∧ ∃ x, idx T.Hosts i = some x ∧ x ∈ T.Hosts ∧ x.Name = nm)) := by
      unfold t_slices_IndexFunc_api_Host_api_Host
      simp only [join_eq]
      have := hg.nh
      refine loopI_ex (fun i l _ => 0 ≤ i ∧ ∃ pre, T.Hosts = pre ++ l ∧ (pre.length : Int) = i ∧ ∀ x ∈ pre, x.Name ≠ nm) (by omega) ⟨Int.le_refl _, [], rfl, rfl, by simp⟩ (fun i s hI => ?_) (fun i x l s k hI hk => ?_)
      · obtain ⟨_, pre, h1, _, h3⟩ := hI
        exact ⟨-1, rfl, .inl ⟨by decide, by rw [h1, List.append_nil]; exact h3⟩⟩
      · obtain ⟨h0, pre, h1, h2, h3⟩ := hI
        simp only [t_topo_Where_1, Option.bind_some]
        by_cases hx : x.Name = nm
        · rw [if_pos (by simpa using hx)]
          refine ⟨i, rfl, .inr ⟨h0, x, ?_, by rw [h1]; simp, hx⟩⟩
          rw [← h2, idx_nat, h1]
          simp
        · rw [if_neg (by simpa using hx)]
          refine hk () ⟨by omega, pre ++ [x], by rw [h1]; simp, by simp; omega, fun y hy => ?_⟩
          rcases List.mem_append.1 hy with h | h
          · exact h3 y h
          · simp at h; subst h; exact hx
    obtain ⟨i, f1, f2⟩ := this
    rw [f1]
    simp only [Option.bind_some]
    rcases f2 with ⟨i0, h⟩ | ⟨i0, x, hx, hm, hx2⟩
    · rw [if_pos (by simpa using i0)]
      exact ⟨_, rfl, fun h => (by cases h), fun _ ⟨x, hm, hx⟩ => absurd hx (h x hm)⟩
    · rw [if_neg (by simp; omega), hx]
      exact ⟨_, rfl, fun _ => ⟨trivial, x, hm, hx2, rfl⟩, fun _ _ => rfl⟩
  · rw [if_pos (by simp [hc])]
    exact ⟨_, rfl, fun h => absurd h hc, fun h => absurd (Option.some.inj h) hc⟩
theorem s_one {T : T_Topo} (hn : ∀ h ∈ T.Hosts, (h.Name.size : Int) ≤ maxI) (w : T_Wish) : ∃ c, t_wish_one T w = some c ∧ (c = 0 → w.What ≠ 4 → t_topo_Check T = some 0 ∧ ∃ x ∈ T.Hosts, x.Name = w.From) := by
  unfold t_wish_one
  have hb : ∃ b, t_wish_kind w.What = some b := ⟨_, rfl⟩
  obtain ⟨b, hb⟩ := hb
  rw [hb]
  simp only [Option.bind_some]
  have h2 : ∃ s9 : Bool, (if (!b) = true then some (!b) else (if (decide (w.What = 3) && (decide (w.Via < 1) || decide (T.Switches < w.Via))) = true then some (decide (w.What = 3) && (decide (w.Via < 1) || decide (T.Switches < w.Via))) else some (decide (w.What ≠ 3) && decide (w.Via ≠ 0))).bind fun s110 => some s110) = some s9 := by
    split
    · exact ⟨_, rfl⟩
    · split <;> exact ⟨_, rfl⟩
  obtain ⟨s9, h2⟩ := h2
  rw [h2]
  simp only [Option.bind_some]
  split
  · exact ⟨1, rfl, fun h => by cases h⟩
  split
  · exact ⟨3, rfl, fun h => by cases h⟩
  split
  · rename_i h4
    exact ⟨0, rfl, fun _ h => absurd (by simpa using h4) h⟩
  simp only [join_eq]
  rw [loopI_eq (by have : maxI = 9223372036854775807 := rfl; simp; omega)]
  simp only [goI]
  obtain ⟨r1, f1, f2, _⟩ := s_WhereT hn w.From
  obtain ⟨r2, k1, _, _⟩ := s_WhereT hn w.To
  rw [f1]
  simp only [Option.bind_some]
  by_cases hr : r1.2 = 0
  · rw [if_neg (by simp [hr]), k1]
    simp only [Option.bind_some]
    obtain ⟨h5, x, hx, hx2, _⟩ := f2 hr
    split
    · exact ⟨_, rfl, fun _ _ => ⟨h5, x, hx, hx2⟩⟩
    · exact ⟨_, rfl, fun _ _ => ⟨h5, x, hx, hx2⟩⟩
  · rw [if_pos (by simp [hr])]
    exact ⟨_, rfl, fun h => absurd h hr⟩
theorem s_wishCheck {T : T_Topo} (hn : ∀ h ∈ T.Hosts, (h.Name.size : Int) ≤ maxI) (l : List T_Wish) : ∃ c, t_wish_Check T l = some c ∧ (c = 0 → l.length ≤ 8 ∧ ∀ w ∈ l, w.What ≠ 4 → ∃ x ∈ T.Hosts, x.Name = w.From) := by
  have hM : maxI = 9223372036854775807 := rfl
  unfold t_wish_Check
  obtain ⟨c, e1, _⟩ := s_topoCheck T hn
  rw [e1]
  simp only [Option.bind_some]
  split
  · rename_i hc
    exact ⟨c, rfl, fun h => by simp [h] at hc⟩
  split
  · exact ⟨4, rfl, fun h => by cases h⟩
  rename_i h8
  simp only [decide_eq_true_eq, Int.not_lt] at h8
  simp only [join_eq]
  refine loopI_ex (fun _ m _ => ∀ w ∈ l, w ∈ m ∨ (w.What ≠ 4 → ∃ x ∈ T.Hosts, x.Name = w.From)) (by omega) (fun w hw => .inl hw) (fun i s hI => ⟨0, rfl, fun _ => ⟨by omega, fun w hw => (hI w hw).resolve_left (by simp)⟩⟩) (fun i w m s k hI hk => ?_)
  obtain ⟨c2, f1, f2⟩ := s_one hn w
  rw [f1]
  simp only [Option.bind_some]
  split
  · rename_i hc
    exact ⟨c2, rfl, fun h => by simp [h] at hc⟩
  · rename_i hc
    have hc : c2 = 0 := by simpa using hc
    refine hk () fun w' hw' => ?_
    rcases hI w' hw' with h | h
    · rcases List.mem_cons.1 h with rfl | h
      · exact .inr fun h4 => (f2 hc h4).2
      · exact .inl h
    · exact .inr h
theorem s_topoNames (T : T_Topo) (hn : ∀ h ∈ T.Hosts, (h.Name.size : Int) ≤ maxI) : ∃ c, t_topo_Check T = some c ∧ (c = 0 → ∀ h ∈ T.Hosts, nameB h.Name = true) := by
  unfold t_topo_Check
  split
  · exact ⟨1, rfl, fun h => by cases h⟩
  · rename_i h1
    simp only [Bool.or_eq_true, decide_eq_true_eq, not_or, Int.not_lt] at h1
    split
    · exact ⟨4, rfl, fun h => by cases h⟩
    · rename_i h2
      simp only [Bool.or_eq_true, decide_eq_true_eq, not_or, Int.not_lt] at h2
      simp only [join_eq]
      refine loopI_ex (fun _ l _ => ∀ x ∈ T.Links, x ∈ l ∨ (spotOk T x.A ∧ spotOk T x.B)) (by omega) (fun x hx => .inl hx) (fun i s hI => ?_) (fun i x l s k hI hk => ?_)
      · refine loopI_ex (fun _ l _ => (∀ x ∈ l, x ∈ T.Hosts) ∧ ∀ x ∈ T.Hosts, x ∈ l ∨ (nameB x.Name = true ∧ spotOk T x.At)) (by omega) ⟨fun _ h => h, fun x hx => .inl hx⟩ (fun i s hJ => ?_) (fun i x l s k hJ hk => ?_)
        · refine ⟨0, rfl, fun _ h hh => ((hJ.2 h hh).resolve_left (by simp)).1⟩
        · have hx := hJ.1 x (by simp)
          obtain ⟨b, e1, e2⟩ : ∃ b, t_topo_Name x.Name = some b ∧ (b = true → nameB x.Name = true) := ⟨_, s_NameB _ (hn x hx), fun h => h⟩
          rw [e1]
          simp only [Option.bind_some]
          split
          · exact ⟨2, rfl, fun h => by cases h⟩
          · rename_i hb
            obtain ⟨b2, f1, f2⟩ := s_Spot T x.At
            rw [f1]
            simp only [Option.bind_some]
            split
            · exact ⟨1, rfl, fun h => by cases h⟩
            · rename_i hb2
              split
              · exact ⟨7, rfl, fun h => by cases h⟩
              · refine hk _ ⟨fun y hy => hJ.1 y (by simp [hy]), fun y hy => ?_⟩
                rcases hJ.2 y hy with h | h
                · rcases List.mem_cons.1 h with rfl | h
                  · exact .inr ⟨e2 (by simpa using hb), f2.1 (by simpa using hb2)⟩
                  · exact .inl h
                · exact .inr h
      · obtain ⟨b, e1, e2⟩ := s_Spot T x.A
        obtain ⟨b2, f1, f2⟩ := s_Spot T x.B
        rw [e1, f1]
        simp only [Option.bind_some]
        cases hb1 : b with
        | false => exact ⟨1, by simp [gd], fun h => by cases h⟩
        | true =>
          cases hb2 : b2 with
          | false => exact ⟨1, by simp [gd], fun h => by cases h⟩
          | true =>
            simp only [gd, Bool.not_true, Bool.not_false, if_true, Option.bind_some, Bool.or_self, Bool.false_eq_true, if_false]
            split
            · exact ⟨7, rfl, fun h => by cases h⟩
            · refine hk _ fun y hy => ?_
              rcases hI y hy with h | h
              · rcases List.mem_cons.1 h with rfl | h
                · exact .inr ⟨e2.1 hb1, f2.1 hb2⟩
                · exact .inl h
              · exact .inr h


/-! lines: how often a byte 10 stands in a text -/
def nl (s : ByteArray) : Nat := s.data.toList.count 10
theorem nl_app (a b : ByteArray) : nl (a ++ b) = nl a + nl b := by
  unfold nl
  rw [ByteArray.data_append, Array.toList_append, List.count_append]
/-- a line: short, and without an end in it -/
def gl (s : ByteArray) (n : Nat) : Prop := s.size ≤ n ∧ nl s = 0
instance {s : ByteArray} {n : Nat} : Decidable (gl s n) := inferInstanceAs (Decidable (_ ∧ _))
theorem gl_app {a b : ByteArray} {n m : Nat} (h1 : gl a n) (h2 : gl b m) : gl (a ++ b) (n + m) := ⟨by rw [ByteArray.size_append]; have := h1.1; have := h2.1; omega, by rw [nl_app, h1.2, h2.2]⟩
theorem gl_le {a : ByteArray} {n m : Nat} (h : gl a n) (hm : n ≤ m) : gl a m := ⟨Nat.le_trans h.1 hm, h.2⟩
theorem gl_itoa {n : Nat} (h : n < 100) : gl (itoaS n) 2 := by
  refine ⟨itoa_size h, ?_⟩
  rw [itoaS_lt h]
  have key : ∀ k : Fin 100, nl (if k.val < 10 then ⟨#[UInt8.ofNat (48 + k.val)]⟩ else ⟨#[UInt8.ofNat (48 + k.val / 10), UInt8.ofNat (48 + k.val % 10)]⟩) = 0 := by decide +kernel
  exact key ⟨n, h⟩
theorem nl_nums {s : ByteArray} (h : ∀ x ∈ numsOf s, x ≠ 10) : nl s = 0 := by
  unfold nl
  rw [List.count_eq_zero]
  intro hm
  exact h 10 (by unfold numsOf; exact List.mem_map.2 ⟨10, hm, rfl⟩) rfl
theorem gl_name {s : ByteArray} (h : nameB s = true) : gl s 6 := by
  refine ⟨nameB_size h, nl_nums fun x hx e => ?_⟩
  subst e
  unfold nameB at h
  simp only [Bool.and_eq_true, Bool.not_eq_true', List.any_eq_false] at h
  exact h.1.1 10 hx (by decide)
theorem s_Itoa {z : Int} (h0 : 0 ≤ z) (h1 : z < 100) : ∃ s, t_Itoa z = some s ∧ gl s 2 := ⟨_, if_pos ⟨h0, h1⟩, gl_itoa (by omega)⟩
theorem need_le {β : Type} {n : Nat} {z : Int} {Y : Option β} (h : z ≤ n) (hn : n ≤ 100000) : need (decide (z ≤ maxI)) Y = Y := need_pos (decide_eq_true (by unfold maxI; omega))
theorem sz {a b : ByteArray} {n m : Nat} (h1 : gl a n) (h2 : gl b m) : (a.size : Int) + b.size ≤ ((n + m : Nat) : Int) := by have := h1.1; have := h2.1; omega
theorem s_spot (s : T_Spot) (T : T_Topo) (hT : T.Switches ≤ 6) (h : spotOk T s) : ∃ r, t_text_spot s = some r ∧ gl r 5 := by
  unfold t_text_spot
  obtain ⟨h1, h2, h3, h4⟩ := h
  obtain ⟨a, ea, ga⟩ := s_Itoa (z := s.Switch) (by omega) (by omega)
  obtain ⟨b, eb, gb⟩ := s_Itoa (z := s.Port) (by omega) (by omega)
  have gd : gl (ByteArray.mk #[46]) 1 := by decide +kernel
  rw [ea, Option.bind_some, need_le (sz ga gd) (by omega), eb, Option.bind_some, need_le (sz (gl_app ga gd) gb) (by omega)]
  exact ⟨_, rfl, gl_app (gl_app ga gd) gb⟩
end Go.Proofs.YtikfnpemmcmioaaDoor.Ty
