/- TopoLine, as it is read: no memory in sight. -/
import Derived.Test.YtpafgegoieakoaaDoorSBase
import Derived.Test.YtpafgegoieakoaaDoorTyA
import Derived.Test.YtpafgegoieakoaaDoorVcS
import Derived.Test.YtpafgegoieakoaaDoorTyM
import Derived.Test.YtpafgegoieakoaaDoorTyS
import Derived.Test.YtpafgegoieakoaaDoorTyN
namespace Go.Proofs.YtpafgegoieakoaaDoor.Ty
open Go Go.RowKit Go.Proofs.YtpafgegoieakoaaDoor.Den
set_option linter.unusedSimpArgs false
set_option linter.unusedVariables false
set_option maxRecDepth 100000

section
variable {α β σ : Type}
/-- a loop comes to something that has Q -/
theorem goI_ex {step : Int → α → σ → (σ → Option β) → Option β} {fin : σ → Option β} {I : Int → List α → σ → Prop} {Q : β → Prop} (hfin : ∀ i s, I i [] s → ∃ v, fin s = some v ∧ Q v)
    (hstep : ∀ i x l s k, I i (x :: l) s → (∀ s', I (i + 1) l s' → ∃ v, k s' = some v ∧ Q v) → ∃ v, step i x s k = some v ∧ Q v) : ∀ (l : List α) (i : Int) (s : σ), I i l s → ∃ v, goI step fin i l s = some v ∧ Q v
  | [], i, s, h => hfin i s h
  | x :: l, i, s, h => hstep i x l s _ h fun s' h' => goI_ex hfin hstep l (i + 1) s' h'
theorem loopI_ex {step : Int → α → σ → (σ → Option β) → Option β} {fin : σ → Option β} (I : Int → List α → σ → Prop) {Q : β → Prop} {l : List α} {s : σ} (hl : (l.length : Int) ≤ 9223372036854775807) (h0 : I 0 l s) (hfin : ∀ i s, I i [] s → ∃ v, fin s = some v ∧ Q v)
    (hstep : ∀ i x l s k, I i (x :: l) s → (∀ s', I (i + 1) l s' → ∃ v, k s' = some v ∧ Q v) → ∃ v, step i x s k = some v ∧ Q v) : ∃ v, loopI l step fin s = some v ∧ Q v := by
  rw [loopI_eq hl]; exact goI_ex hfin hstep l 0 s h0
theorem goU_ex {step : Int → σ → (σ → Option β) → Option β} {fin : Int → σ → Option β} {I : Nat → Int → σ → Prop} {Q : β → Prop} (hfin : ∀ i s, I 0 i s → ∃ v, fin i s = some v ∧ Q v)
    (hstep : ∀ m i s k, I (m + 1) i s → (∀ s', I m (i + 1) s' → ∃ v, k s' = some v ∧ Q v) → ∃ v, step i s k = some v ∧ Q v) : ∀ (m : Nat) (i : Int) (s : σ), I m i s → ∃ v, goU step fin m i s = some v ∧ Q v
  | 0, i, s, h => hfin i s h
  | m + 1, i, s, h => hstep m i s _ h fun s' h' => goU_ex hfin hstep m (i + 1) s' h'
end

def spotOk (T : T_Topo) (s : T_Spot) : Prop := 1 ≤ s.Switch ∧ s.Switch ≤ T.Switches ∧ 1 ≤ s.Port ∧ s.Port ≤ 4
structure topoGood (T : T_Topo) : Prop where
  sw : 1 ≤ T.Switches ∧ T.Switches ≤ 6
  nl : T.Links.length ≤ 200
  nh : T.Hosts.length ≤ 8
  links : ∀ l ∈ T.Links, spotOk T l.A ∧ spotOk T l.B
  hosts : ∀ h ∈ T.Hosts, h.Name ≠ ByteArray.mk #[] ∧ spotOk T h.At
theorem s_Spot (T : T_Topo) (s : T_Spot) : ∃ b, t_topo_Spot T s = some b ∧ (b = true ↔ spotOk T s) :=
  ⟨_, rfl, by simp [spotOk, and_assoc]⟩
theorem s_Name (s : ByteArray) (hs : (s.size : Int) ≤ maxI) : ∃ b, t_topo_Name s = some b ∧ (b = true → s ≠ ByteArray.mk #[]) := by
  unfold t_topo_Name
  rw [need_pos (by simpa using hs), join_eq]
  refine loopI_ex (fun _ _ _ => True) (by rw [numsOf_len]; exact hs) trivial (fun i s' _ => ⟨_, rfl, fun h => ?_⟩) (fun i x l s' k _ hk => ?_)
  · simp only [Bool.and_eq_true, Bool.not_eq_true', decide_eq_false_iff_not] at h
    exact h.1
  · split
    · exact ⟨false, rfl, fun h => by cases h⟩
    · exact hk () trivial
theorem s_topoCheck (T : T_Topo) (hn : ∀ h ∈ T.Hosts, (h.Name.size : Int) ≤ maxI) : ∃ c, t_topo_Check T = some c ∧ (c = 0 → topoGood T) := by
  unfold t_topo_Check
  split
  · exact ⟨1, rfl, fun h => by cases h⟩
  · rename_i h1
    simp only [Bool.or_eq_true, decide_eq_true_eq, not_or, Int.not_lt] at h1
    split
    · exact ⟨4, rfl, fun h => by cases h⟩
    · rename_i h2
      simp only [Bool.or_eq_true, decide_eq_true_eq, not_or, Int.not_lt] at h2
      simp only [join_eq]
      refine loopI_ex (fun _ l _ => ∀ x ∈ T.Links, x ∈ l ∨ (spotOk T x.A ∧ spotOk T x.B)) (by omega) (fun x hx => .inl hx) (fun i s hI => ?_) (fun i x l s k hI hk => ?_)
      · refine loopI_ex (fun _ l _ => (∀ x ∈ l, x ∈ T.Hosts) ∧ ∀ x ∈ T.Hosts, x ∈ l ∨ (x.Name ≠ ByteArray.mk #[] ∧ spotOk T x.At)) (by omega) ⟨fun _ h => h, fun x hx => .inl hx⟩ (fun i s hJ => ?_) (fun i x l s k hJ hk => ?_)
        · refine ⟨0, rfl, fun _ => ⟨h1, by omega, by omega, fun l hl => (hI l hl).resolve_left (by simp), fun h hh => (hJ.2 h hh).resolve_left (by simp)⟩⟩
        · have hx := hJ.1 x (by simp)
          obtain ⟨b, e1, e2⟩ := s_Name x.Name (hn x hx)
          rw [e1]
          simp only [Option.bind_some]
          split
          · exact ⟨2, rfl, fun h => by cases h⟩
          · rename_i hb
            obtain ⟨b2, f1, f2⟩ := s_Spot T x.At
            rw [f1]
            simp only [Option.bind_some]
            split
            · exact ⟨1, rfl, fun h => by cases h⟩
            · rename_i hb2
              split
              · exact ⟨7, rfl, fun h => by cases h⟩
              · refine hk _ ⟨fun y hy => hJ.1 y (by simp [hy]), fun y hy => ?_⟩
                rcases hJ.2 y hy with h | h
                · rcases List.mem_cons.1 h with rfl | h
                  · exact .inr ⟨e2 (by simpa using hb), f2.1 (by simpa using hb2)⟩
                  · exact .inl h
                · exact .inr h
      · obtain ⟨b, e1, e2⟩ := s_Spot T x.A
        obtain ⟨b2, f1, f2⟩ := s_Spot T x.B
        rw [e1, f1]
        simp only [Option.bind_some]
        cases hb1 : b with
        | false => exact ⟨1, by simp [gd], fun h => by cases h⟩
        | true =>
          cases hb2 : b2 with
          | false => exact ⟨1, by simp [gd], fun h => by cases h⟩
          | true =>
            simp only [gd, Bool.not_true, Bool.not_false, if_true, Option.bind_some, Bool.or_self, Bool.false_eq_true, if_false]
            split
            · exact ⟨7, rfl, fun h => by cases h⟩
            · refine hk _ fun y hy => ?_
              rcases hI y hy with h | h
              · rcases List.mem_cons.1 h with rfl | h
                · exact .inr ⟨e2.1 hb1, f2.1 hb2⟩
                · exact .inl h
              · exact .inr h

theorem idx_some {α : Type} {l : List α} {i : Int} (h0 : 0 ≤ i) (h1 : i < l.length) : ∃ x, idx l i = some x ∧ x ∈ l ∧ l[i.toNat]? = some x := by
  have : i.toNat < l.length := by omega
  exact ⟨l[i.toNat], by simp [idx, h0, List.getElem?_eq_getElem this], List.getElem_mem this, List.getElem?_eq_getElem this⟩

section
variable {α β σ : Type}
/-- what each end of a loop has -/
theorem goI_post {step : Int → α → σ → (σ → Option β) → Option β} {fin : σ → Option β} {Q : β → Prop} (hfin : ∀ s v, fin s = some v → Q v)
    (hstep : ∀ i x s k, (∀ s' v, k s' = some v → Q v) → ∀ v, step i x s k = some v → Q v) : ∀ (l : List α) (i : Int) (s : σ) (v : β), goI step fin i l s = some v → Q v
  | [], i, s, v, h => hfin s v h
  | x :: l, i, s, v, h => hstep i x s _ (fun s' v' h' => goI_post hfin hstep l (i + 1) s' v' h') v h
theorem loopI_post {step : Int → α → σ → (σ → Option β) → Option β} {fin : σ → Option β} (Q : β → Prop) {l : List α} {s : σ} {v : β} (h : loopI l step fin s = some v) (hfin : ∀ s v, fin s = some v → Q v)
    (hstep : ∀ i x s k, (∀ s' v, k s' = some v → Q v) → ∀ v, step i x s k = some v → Q v) : Q v := by
  unfold loopI at h
  rw [need_some] at h
  exact goI_post hfin hstep l 0 s v h.2
end
section
variable {α β σ τ : Type}
/-- two loops that go alike -/
theorem goI_sim {step : Int → α → σ → (σ → Option β) → Option β} {step' : Int → α → τ → (τ → Option β) → Option β} {fin : σ → Option β} {fin' : τ → Option β} (I : Int → List α → σ → τ → Prop) (hfin : ∀ i s t, I i [] s t → fin s = fin' t)
    (hstep : ∀ i x l s t k k', I i (x :: l) s t → (∀ s' t', I (i + 1) l s' t' → k s' = k' t') → step i x s k = step' i x t k') : ∀ (l : List α) (i : Int) (s : σ) (t : τ), I i l s t → goI step fin i l s = goI step' fin' i l t
  | [], i, s, t, h => hfin i s t h
  | x :: l, i, s, t, h => hstep i x l s t _ _ h fun s' t' h' => goI_sim I hfin hstep l (i + 1) s' t' h'
theorem loopI_sim {step : Int → α → σ → (σ → Option β) → Option β} {step' : Int → α → τ → (τ → Option β) → Option β} {fin : σ → Option β} {fin' : τ → Option β} (I : Int → List α → σ → τ → Prop) {l : List α} {s : σ} {t : τ} (h0 : I 0 l s t) (hfin : ∀ i s t, I i [] s t → fin s = fin' t)
    (hstep : ∀ i x l s t k k', I i (x :: l) s t → (∀ s' t', I (i + 1) l s' t' → k s' = k' t') → step i x s k = step' i x t k') : loopI l step fin s = loopI l step' fin' t := by
  unfold loopI; rw [goI_sim I hfin hstep l 0 s t h0]
theorem loopI_any {step : Int → α → Unit → (Unit → Option β) → Option β} {f : Option β} (p : α → Bool) {r : β} {l : List α} (hl : (l.length : Int) ≤ maxI) (h : ∀ x i k, step i x () k = if p x = true then some r else k ()) : loopI l step (fun _ => f) () = if l.any p = true then some r else f := by
  rw [loopI_eq hl, goI_any (p := p) (r := r) l 0 fun x _ i k => h x i k]
theorem goU_any {l : List α} {p : α → Bool} {r : β} {step : Int → Unit → (Unit → Option β) → Option β} {f : Option β} (h : ∀ (j : Nat) x k, l[j]? = some x → step (j : Int) () k = if p x = true then some r else k ()) : ∀ (m i : Nat), i + m ≤ l.length → goU step (fun _ _ => f) m (i : Int) () = if ((l.drop i).take m).any p = true then some r else f
  | 0, i, _ => by simp [goU]
  | m + 1, i, hm => by
    have hi : i < l.length := by omega
    rw [goU, h i l[i] _ (List.getElem?_eq_getElem hi), List.drop_eq_getElem_cons hi, List.take_succ_cons, List.any_cons]
    have e : (i : Int) + 1 = ((i + 1 : Nat) : Int) := by omega
    rw [e, goU_any h m (i + 1) (by omega)]
    cases p l[i] <;> simp
theorem loopU_any {l : List α} (p : α → Bool) {r : β} {step : Int → Unit → (Unit → Option β) → Option β} {f : Option β} {i : Int} (h0 : 0 ≤ i) (h1 : i ≤ l.length) (h2 : i ≤ maxI) (h : ∀ (j : Nat) x k, l[j]? = some x → step (j : Int) () k = if p x = true then some r else k ()) : loopU 0 i step (fun _ _ => f) () = if (l.take i.toNat).any p = true then some r else f := by
  rw [loopU_eq (Int.le_refl 0) h2, Int.sub_zero]
  have := goU_any (f := f) h i.toNat 0 (by omega)
  simpa using this
end
section
variable {K α : Type} [DecidableEq K]
theorem mfind_off : ∀ (l : List (K × α)) (a : K) (i : Nat), mfind l a i = (mfind l a 0).map fun p => (p.1 + i, p.2)
  | [], _, _ => rfl
  | (b, u) :: r, a, i => by
    simp only [mfind]
    split
    · simp
    · rw [mfind_off r a (i + 1), mfind_off r a (0 + 1)]
      cases mfind r a 0 with
      | none => rfl
      | some p => simp; omega
theorem mget_cons (b : K) (u : α) (r : List (K × α)) (a : K) (d : α) : mget ((b, u) :: r) a d = if a = b then u else mget r a d := by
  unfold mget
  simp only [mfind]
  by_cases h : a = b
  · simp [h]
  · rw [if_neg h, if_neg h, mfind_off r a (0 + 1)]
    cases mfind r a 0 <;> rfl
theorem mput_cons (b : K) (u : α) (r : List (K × α)) (a : K) (v : α) : mput ((b, u) :: r) a v = if a = b then (a, v) :: r else (b, u) :: mput r a v := by
  unfold mput
  simp only [mfind]
  by_cases h : a = b
  · simp [h]
  · rw [if_neg h, if_neg h, mfind_off r a (0 + 1)]
    cases mfind r a 0 <;> simp
theorem mget_mput : ∀ (l : List (K × α)) (a : K) (v : α) (b : K) (d : α), mget (mput l a v) b d = if b = a then v else mget l b d
  | [], a, v, b, d => by
    show mget ([(a, v)]) b d = _
    rw [mget_cons]
  | (c, u) :: r, a, v, b, d => by
    rw [mput_cons]
    by_cases h : a = c
    · subst h
      rw [if_pos rfl, mget_cons, mget_cons]
      split <;> rfl
    · rw [if_neg h, mget_cons, mget_cons, mget_mput r a v b d]
      by_cases h2 : b = c
      · subst h2
        rw [if_pos rfl, if_neg (fun e => h e.symm), if_pos rfl]
      · rw [if_neg h2, if_neg h2]
omit [DecidableEq K] in
theorem any_two (p q : K → Bool) : ∀ l : List K, (l.any fun y => p y || q y) = (l.any p || l.any q)
  | [] => rfl
  | x :: l => by
    rw [List.any_cons, List.any_cons, List.any_cons, any_two p q l]
    cases p x <;> cases q x <;> cases l.any p <;> rfl
theorem any_is (l : List K) (a : K) : (l.any fun y => decide (y = a)) = decide (a ∈ l) := by
  rw [Bool.eq_iff_iff]
  simp
end


def spotsOf (l : List T_Link) : List T_Spot := l.flatMap fun x => [x.A, x.B]
theorem link_spots {T : T_Topo} (hn : ∀ h ∈ T.Hosts, (h.Name.size : Int) ≤ maxI) (hc : t_topo_Check T = some 0) : (spotsOf T.Links).Nodup := by
  have hM : maxI = 9223372036854775807 := rfl
  have key : ∃ c, t_topo_Check T = some c ∧ (c = 0 → (spotsOf T.Links).Nodup) := by
    unfold t_topo_Check
    split
    · exact ⟨1, rfl, fun h => by cases h⟩
    split
    · exact ⟨4, rfl, fun h => by cases h⟩
    rename_i h1 h2
    simp only [Bool.or_eq_true, decide_eq_true_eq, not_or, Int.not_lt] at h2
    simp only [join_eq]
    refine loopI_ex (fun _ l (s : List (T_Spot × Bool)) => ∃ pre : List T_Link, T.Links = pre ++ l ∧ (spotsOf pre).Nodup ∧ ∀ p : T_Spot, mget s p false = decide (p ∈ spotsOf pre)) (by omega) ⟨[], rfl, by simp [spotsOf], fun p => by simp [mget, mfind, spotsOf]⟩ (fun i s hI => ?_) (fun i x l s k hI hk => ?_)
    · obtain ⟨pre, h3, h4, _⟩ := hI
      rw [List.append_nil] at h3
      refine loopI_ex (fun _ l _ => ∀ x ∈ l, x ∈ T.Hosts) (by omega) (fun _ h => h) (fun i s hJ => ⟨0, rfl, fun _ => by rw [h3]; exact h4⟩) (fun i x l s k hJ hk => ?_)
      obtain ⟨b, e1, _⟩ := s_Name x.Name (hn x (hJ x (by simp)))
      obtain ⟨b2, e2, _⟩ := s_Spot T x.At
      rw [e1, e2]
      simp only [Option.bind_some]
      split
      · exact ⟨2, rfl, fun h => by cases h⟩
      split
      · exact ⟨1, rfl, fun h => by cases h⟩
      split
      · exact ⟨7, rfl, fun h => by cases h⟩
      · exact hk _ fun y hy => hJ y (by simp [hy])
    · obtain ⟨pre, h3, h4, h5⟩ := hI
      obtain ⟨b, e1, _⟩ := s_Spot T x.A
      obtain ⟨b2, e2, _⟩ := s_Spot T x.B
      rw [e1, e2]
      simp only [Option.bind_some]
      have hg : ∃ b3, gd (!!b) default (some b2) = some b3 := by cases b <;> exact ⟨_, rfl⟩
      obtain ⟨b3, hg⟩ := hg
      rw [hg]
      simp only [Option.bind_some]
      split
      · exact ⟨1, rfl, fun h => by cases h⟩
      split
      · exact ⟨7, rfl, fun h => by cases h⟩
      · rename_i hm
        simp only [h5, Bool.or_eq_true, decide_eq_true_eq, not_or] at hm
        obtain ⟨⟨m1, m2⟩, m3⟩ := hm
        have e : spotsOf (pre ++ [x]) = spotsOf pre ++ [x.A, x.B] := by simp [spotsOf]
        refine hk _ ⟨pre ++ [x], by rw [h3]; simp, ?_, fun p => ?_⟩
        · rw [e, List.nodup_append]
          refine ⟨h4, by simp [m3], fun a ha b hb he => ?_⟩
          subst he
          simp at hb
          rcases hb with rfl | rfl
          · exact m1 ha
          · exact m2 ha
        · rw [mget_mput, mget_mput, h5, e]
          by_cases p1 : p = x.B
          · simp [p1]
          · by_cases p2 : p = x.A
            · simp [p2]
            · simp [p1, p2]
  obtain ⟨c, e1, e2⟩ := key
  rw [hc] at e1
  exact e2 (Option.some.inj e1).symm
/-- at a spot there is one link -/
theorem spot_link {l : List T_Link} (h : (spotsOf l).Nodup) {i j : Nat} {x y : T_Link} {p : T_Spot} (hi : l[i]? = some x) (hj : l[j]? = some y) (hx : x.A = p ∨ x.B = p) (hy : y.A = p ∨ y.B = p) : i = j := by
  induction l generalizing i j with
  | nil => simp at hi
  | cons z l ih =>
    have e : spotsOf (z :: l) = [z.A, z.B] ++ spotsOf l := by simp [spotsOf]
    rw [e, List.nodup_append] at h
    have hin : ∀ {k : Nat} {w : T_Link}, l[k]? = some w → (w.A = p ∨ w.B = p) → p ∈ spotsOf l := fun {k w} hk hw => by
      refine List.mem_flatMap.2 ⟨w, List.mem_of_getElem? hk, ?_⟩
      rcases hw with e | e <;> simp [e]
    have hz : (z.A = p ∨ z.B = p) → p ∈ [z.A, z.B] := fun h => by rcases h with e | e <;> simp [e]
    cases i with
    | zero =>
      simp at hi
      subst hi
      cases j with
      | zero => rfl
      | succ j =>
        exact absurd rfl (h.2.2 p (hz hx) p (hin (by simpa using hj) hy))
    | succ i =>
      cases j with
      | zero =>
        simp at hj
        subst hj
        exact absurd rfl (h.2.2 p (hz hy) p (hin (by simpa using hi) hx))
      | succ j =>
        have := ih h.2.1 (i := i) (j := j) (by simpa using hi) (by simpa using hj)
        omega

/-- hosts have names of their own -/
theorem host_names {T : T_Topo} (hn : ∀ h ∈ T.Hosts, (h.Name.size : Int) ≤ maxI) (hc : t_topo_Check T = some 0) : (T.Hosts.map fun h => h.Name).Nodup := by
  have hM : maxI = 9223372036854775807 := rfl
  have key : ∃ c, t_topo_Check T = some c ∧ (c = 0 → (T.Hosts.map fun h => h.Name).Nodup) := by
    unfold t_topo_Check
    split
    · exact ⟨1, rfl, fun h => by cases h⟩
    split
    · exact ⟨4, rfl, fun h => by cases h⟩
    rename_i h1 h2
    simp only [Bool.or_eq_true, decide_eq_true_eq, not_or, Int.not_lt] at h2
    simp only [join_eq]
    refine loopI_ex (fun _ l _ => True) (by omega) trivial (fun i s hI => ?_) (fun i x l s k hI hk => ?_)
    · refine loopI_ex (fun _ l (s : List (T_Spot × Bool) × List (ByteArray × Bool)) => ∃ pre : List T_Host, T.Hosts = pre ++ l ∧ (pre.map fun h : T_Host => h.Name).Nodup ∧ ∀ nm : ByteArray, mget s.2 nm false = pre.any fun h : T_Host => decide (h.Name = nm)) (by omega) ⟨[], rfl, by simp, fun nm => by simp [mget, mfind]⟩ (fun i s hJ => ?_) (fun i x l s k hJ hk => ?_)
      · obtain ⟨pre, h3, h4, _⟩ := hJ
        exact ⟨0, rfl, fun _ => by rw [h3, List.append_nil]; exact h4⟩
      · obtain ⟨pre, h3, h4, h5⟩ := hJ
        obtain ⟨b, e1, _⟩ := s_Name x.Name (hn x (by rw [h3]; simp))
        obtain ⟨b2, e2, _⟩ := s_Spot T x.At
        rw [e1, e2]
        simp only [Option.bind_some]
        split
        · exact ⟨2, rfl, fun h => by cases h⟩
        split
        · exact ⟨1, rfl, fun h => by cases h⟩
        split
        · exact ⟨7, rfl, fun h => by cases h⟩
        · rename_i hm
          have hnx : ¬ x.Name ∈ pre.map fun h : T_Host => h.Name := fun h => hm (by
            obtain ⟨y, hy, hy2⟩ := List.mem_map.1 h
            rw [h5]
            simp only [Bool.or_eq_true, List.any_eq_true]
            exact .inl ⟨y, hy, decide_eq_true hy2⟩)
          refine hk _ ⟨pre ++ [x], by rw [h3]; simp, ?_, fun nm => ?_⟩
          · rw [List.map_append, List.nodup_append]
            exact ⟨h4, by simp, fun a ha b hb => by simp at hb; subst hb; exact fun e => hnx (by rw [← e]; exact ha)⟩
          · rw [mget_mput, h5]
            by_cases e : nm = x.Name
            · simp [e]
            · have e' : ¬ x.Name = nm := fun h => e h.symm
              simp [e, e']
    · obtain ⟨b, e1, _⟩ := s_Spot T x.A
      obtain ⟨b2, e2, _⟩ := s_Spot T x.B
      rw [e1, e2]
      simp only [Option.bind_some]
      have hg : ∃ b3, gd (!!b) default (some b2) = some b3 := by cases b <;> exact ⟨_, rfl⟩
      obtain ⟨b3, hg⟩ := hg
      rw [hg]
      simp only [Option.bind_some]
      split
      · exact ⟨1, rfl, fun h => by cases h⟩
      split
      · exact ⟨7, rfl, fun h => by cases h⟩
      · exact hk _ trivial
  obtain ⟨c, e1, e2⟩ := key
  rw [hc] at e1
  exact e2 (Option.some.inj e1).symm
theorem nodup_eq {α β : Type} {f : α → β} : ∀ {l : List α}, (l.map f).Nodup → ∀ x ∈ l, ∀ y ∈ l, f x = f y → x = y
  | [], _, x, hx, _, _, _ => by cases hx
  | a :: l, h, x, hx, y, hy, e => by
    rw [List.map_cons, List.nodup_cons] at h
    rcases List.mem_cons.1 hx with h1 | h1
    · rcases List.mem_cons.1 hy with h2 | h2
      · rw [h1, h2]
      · exact absurd (by rw [← h1, e]; exact List.mem_map_of_mem h2) h.1
    · rcases List.mem_cons.1 hy with h2 | h2
      · exact absurd (by rw [← h2, ← e]; exact List.mem_map_of_mem h1) h.1
      · exact nodup_eq h.2 x h1 y h2 e
/-- a spot is at one link or at one host -/
theorem host_spots {T : T_Topo} (hn : ∀ h ∈ T.Hosts, (h.Name.size : Int) ≤ maxI) (hc : t_topo_Check T = some 0) : (spotsOf T.Links ++ T.Hosts.map fun h => h.At).Nodup := by
  have hM : maxI = 9223372036854775807 := rfl
  have key : ∃ c, t_topo_Check T = some c ∧ (c = 0 → (spotsOf T.Links ++ T.Hosts.map fun h => h.At).Nodup) := by
    unfold t_topo_Check
    split
    · exact ⟨1, rfl, fun h => by cases h⟩
    split
    · exact ⟨4, rfl, fun h => by cases h⟩
    rename_i h1 h2
    simp only [Bool.or_eq_true, decide_eq_true_eq, not_or, Int.not_lt] at h2
    simp only [join_eq]
    refine loopI_ex (fun _ l (s : List (T_Spot × Bool)) => ∃ pre : List T_Link, T.Links = pre ++ l ∧ (spotsOf pre).Nodup ∧ ∀ p : T_Spot, mget s p false = decide (p ∈ spotsOf pre)) (by omega) ⟨[], rfl, by simp [spotsOf], fun p => by simp [mget, mfind, spotsOf]⟩ (fun i s hI => ?_) (fun i x l s k hI hk => ?_)
    · obtain ⟨pre, h3, h4, h5⟩ := hI
      rw [List.append_nil] at h3
      subst h3
      refine loopI_ex (fun _ l (s : List (T_Spot × Bool) × List (ByteArray × Bool)) => ∃ pre : List T_Host, T.Hosts = pre ++ l ∧ (spotsOf T.Links ++ pre.map fun h : T_Host => h.At).Nodup ∧ ∀ p : T_Spot, mget s.1 p false = decide (p ∈ spotsOf T.Links ++ pre.map fun h : T_Host => h.At)) (by omega) ⟨[], rfl, by simpa using h4, fun p => by simp only [List.map_nil, List.append_nil]; exact h5 p⟩ (fun i s hJ => ?_) (fun i x l s k hJ hk => ?_)
      · obtain ⟨pre, h3, h4, _⟩ := hJ
        exact ⟨0, rfl, fun _ => by rw [List.append_nil] at h3; rw [h3]; exact h4⟩
      · obtain ⟨pre, h3, h4, h6⟩ := hJ
        obtain ⟨b, e1, _⟩ := s_Name x.Name (hn x (by rw [h3]; simp))
        obtain ⟨b2, e2, _⟩ := s_Spot T x.At
        rw [e1, e2]
        simp only [Option.bind_some]
        split
        · exact ⟨2, rfl, fun h => by cases h⟩
        split
        · exact ⟨1, rfl, fun h => by cases h⟩
        split
        · exact ⟨7, rfl, fun h => by cases h⟩
        · rename_i hm
          have hnx : ¬ x.At ∈ spotsOf T.Links ++ pre.map fun h : T_Host => h.At := fun h => hm (by
            rw [h6]
            simp only [Bool.or_eq_true]
            exact .inr (decide_eq_true h))
          have e9 : (spotsOf T.Links ++ (pre ++ [x]).map fun h : T_Host => h.At) = (spotsOf T.Links ++ pre.map fun h : T_Host => h.At) ++ [x.At] := by simp
          refine hk _ ⟨pre ++ [x], by rw [h3]; simp, ?_, fun p => ?_⟩
          · rw [e9, List.nodup_append]
            exact ⟨h4, by simp, fun a ha b hb => by simp at hb; subst hb; exact fun e => hnx (by rw [← e]; exact ha)⟩
          · show mget (mput s.1 x.At true) p false = _
            rw [mget_mput, h6, e9]
            by_cases e : p = x.At
            · simp [e]
            · rw [if_neg e, decide_eq_decide, List.mem_append (t := [x.At])]
              simp [e]
    · obtain ⟨pre, h3, h4, h5⟩ := hI
      obtain ⟨b, e1, _⟩ := s_Spot T x.A
      obtain ⟨b2, e2, _⟩ := s_Spot T x.B
      rw [e1, e2]
      simp only [Option.bind_some]
      have hg : ∃ b3, gd (!!b) default (some b2) = some b3 := by cases b <;> exact ⟨_, rfl⟩
      obtain ⟨b3, hg⟩ := hg
      rw [hg]
      simp only [Option.bind_some]
      split
      · exact ⟨1, rfl, fun h => by cases h⟩
      split
      · exact ⟨7, rfl, fun h => by cases h⟩
      · rename_i hm
        simp only [h5, Bool.or_eq_true, decide_eq_true_eq, not_or] at hm
        obtain ⟨⟨m1, m2⟩, m3⟩ := hm
        have e : spotsOf (pre ++ [x]) = spotsOf pre ++ [x.A, x.B] := by simp [spotsOf]
        refine hk _ ⟨pre ++ [x], by rw [h3]; simp, ?_, fun p => ?_⟩
        · rw [e, List.nodup_append]
          refine ⟨h4, by simp [m3], fun a ha b hb he => ?_⟩
          subst he
          simp at hb
          rcases hb with rfl | rfl
          · exact m1 ha
          · exact m2 ha
        · rw [mget_mput, mget_mput, h5, e]
          by_cases p1 : p = x.B
          · simp [p1]
          · by_cases p2 : p = x.A
            · simp [p2]
            · simp [p1, p2]
  obtain ⟨c, e1, e2⟩ := key
  rw [hc] at e1
  exact e2 (Option.some.inj e1).symm
theorem compact_mem {zs : List Int} {x : Int} : x ∈ Lib.compact zs ↔ x ∈ zs := by
  unfold Lib.compact Lib.compactUpTo
  rw [List.mem_map]
  constructor
  · rintro ⟨j, hj, rfl⟩
    have hj := List.mem_range.1 (List.mem_filter.1 hj).1
    rw [getElem!_pos zs.toArray j (by simpa using hj)]
    simp
  · intro hx
    obtain ⟨j, hj, rfl⟩ := List.getElem_of_mem hx
    have : ∀ j (hj : j < zs.length), ∃ i, i ∈ (List.range zs.length).filter (Lib.keeps zs.toArray) ∧ zs.toArray[i]! = zs[j] := by
      intro j
      induction j with
      | zero =>
        intro hj
        refine ⟨0, List.mem_filter.2 ⟨List.mem_range.2 hj, by simp [Lib.keeps]⟩, ?_⟩
        rw [getElem!_pos zs.toArray 0 (by simpa using hj)]; simp
      | succ j ih =>
        intro hj
        by_cases h : zs.toArray[j + 1]! = zs.toArray[j]!
        · obtain ⟨i, h1, h2⟩ := ih (by omega)
          refine ⟨i, h1, ?_⟩
          rw [getElem!_pos zs.toArray (j + 1) (by simpa using hj), getElem!_pos zs.toArray j (by simp; omega)] at h
          simp at h
          rw [h2, h]
        · refine ⟨j + 1, List.mem_filter.2 ⟨List.mem_range.2 hj, Lib.keeps_pos h⟩, ?_⟩
          rw [getElem!_pos zs.toArray (j + 1) (by simpa using hj)]; simp
    exact this j hj
theorem compact_strict {zs : List Int} (h : zs.Pairwise (· ≤ ·)) : (Lib.compact zs).Pairwise (· < ·) := by
  unfold Lib.compact Lib.compactUpTo
  rw [List.pairwise_map]
  have h1 : ((List.range zs.length).filter (Lib.keeps zs.toArray)).Pairwise (· < ·) := List.Pairwise.filter _ List.pairwise_lt_range
  refine List.Pairwise.imp_of_mem ?_ h1
  intro i j hi hj hij
  obtain ⟨hi, _⟩ := List.mem_filter.1 hi
  obtain ⟨hj, hk⟩ := List.mem_filter.1 hj
  have hi := List.mem_range.1 hi
  have hj := List.mem_range.1 hj
  have hmono : ∀ (i j : Nat) (hi : i < zs.length) (hj : j < zs.length), i < j → zs[i] ≤ zs[j] := fun i j hi hj hij => List.pairwise_iff_getElem.1 h i j hi hj hij
  have hne : zs.toArray[j]! ≠ zs.toArray[j - 1]! := by
    unfold Lib.keeps at hk
    simp only [decide_eq_true_eq] at hk
    exact hk.resolve_left (by omega)
  rw [getElem!_pos zs.toArray j (by simpa using hj), getElem!_pos zs.toArray (j - 1) (by simp; omega)] at hne
  rw [getElem!_pos zs.toArray j (by simpa using hj), getElem!_pos zs.toArray i (by simpa using hi)]
  simp only [List.getElem_toArray] at hne ⊢
  have h2 := hmono (j - 1) j (by omega) hj (by omega)
  have h3 : zs[i] ≤ zs[j - 1] := by
    by_cases e : i = j - 1
    · subst e; exact Int.le_refl _
    · exact hmono i (j - 1) hi (by omega) (by omega)
  omega
theorem strict_eq : ∀ {l m : List Int}, l.Pairwise (· < ·) → m.Pairwise (· < ·) → (∀ x, x ∈ l ↔ x ∈ m) → l = m
  | [], [], _, _, _ => rfl
  | [], y :: m, _, _, h => absurd ((h y).2 (by simp)) (by simp)
  | x :: l, [], _, _, h => absurd ((h x).1 (by simp)) (by simp)
  | x :: l, y :: m, hl, hm, h => by
    obtain ⟨h1, h2⟩ := List.pairwise_cons.1 hl
    obtain ⟨h3, h4⟩ := List.pairwise_cons.1 hm
    have e : x = y := by
      have hx := (h x).1 (by simp)
      have hy := (h y).2 (by simp)
      rcases List.mem_cons.1 hx with e | hx
      · exact e
      · rcases List.mem_cons.1 hy with e | hy
        · exact e.symm
        · have := h3 x hx
          have := h1 y hy
          omega
    subst e
    rw [strict_eq h2 h4 fun z => ?_]
    constructor
    · intro hz
      rcases List.mem_cons.1 ((h z).1 (by simp [hz])) with e | hz'
      · have := h1 z hz; omega
      · exact hz'
    · intro hz
      rcases List.mem_cons.1 ((h z).2 (by simp [hz])) with e | hz'
      · have := h3 z hz; omega
      · exact hz'
theorem sorted_le (l : List Int) : (l.mergeSort fun x y => decide (x ≤ y)).Pairwise (· ≤ ·) := by
  have := List.pairwise_mergeSort (le := fun x y : Int => decide (x ≤ y)) (fun a b c h1 h2 => by simp at h1 h2 ⊢; omega) (fun a b => by simp; omega) l
  exact this.imp fun h => by simpa using h
/-- sorted, one of each -/
def setOf (l : List Int) : List Int := Lib.compact (l.mergeSort fun x y => decide (x ≤ y))
theorem setOf_strict (l : List Int) : (setOf l).Pairwise (· < ·) := compact_strict (sorted_le l)
theorem setOf_mem {l : List Int} {x : Int} : x ∈ setOf l ↔ x ∈ l := by
  unfold setOf
  rw [compact_mem, List.mem_mergeSort]
theorem setOf_len (l : List Int) : (setOf l).length ≤ l.length := by
  unfold setOf
  have := compact_len (l.mergeSort fun x y => decide (x ≤ y))
  rw [List.length_mergeSort] at this
  exact this
theorem s_set (l : List Int) (h : l.length ≤ 4294967296) : ((sortI l).bind fun r => (compactI r).bind fun q => some q) = some (setOf l) := by
  unfold sortI
  rw [if_pos h, Option.bind_some]
  unfold compactI
  rw [if_pos (by rw [List.length_mergeSort]; exact h)]
  rfl

section
variable {α β σ : Type}
theorem loopI_at {l : List α} {step : Int → α → σ → (σ → Option β) → Option β} {fin : σ → Option β} {s : σ} (S : Nat → σ) (h0 : s = S 0) (hl : (l.length : Int) ≤ maxI) (h : ∀ (p : Nat) x k, l[p]? = some x → step (p : Int) x (S p) k = k (S (p + 1))) : loopI l step fin s = fin (S l.length) := by
  rw [loopI_eq hl]
  have : ∀ (m : List α) (p : Nat), l.drop p = m → p ≤ l.length → goI step fin (p : Int) m (S p) = fin (S l.length) := by
    intro m
    induction m with
    | nil =>
      intro p hp hpl
      have : p = l.length := by have := List.drop_eq_nil_iff.1 hp; omega
      rw [goI, this]
    | cons x m ih =>
      intro p hp hpl
      have hx : l[p]? = some x := by rw [← List.head?_drop, hp]; rfl
      have hlt := (List.getElem?_eq_some_iff.1 hx).1
      rw [goI, h p x _ hx]
      have e : (p : Int) + 1 = ((p + 1 : Nat) : Int) := by omega
      rw [e]
      exact ih (p + 1) (by rw [← List.tail_drop, hp]; rfl) (by omega)
  rw [h0]
  exact this l 0 rfl (Nat.zero_le _)
theorem loopU_at {lo hi : Nat} {step : Int → σ → (σ → Option β) → Option β} {fin : Int → σ → Option β} {s : σ} (S : Nat → σ) (h0 : s = S lo) (hl : (hi : Int) ≤ maxI) (hle : lo ≤ hi) (h : ∀ (p : Nat) k, lo ≤ p → p < hi → step (p : Int) (S p) k = k (S (p + 1))) : loopU (lo : Int) (hi : Int) step fin s = fin (hi : Int) (S hi) := by
  rw [loopU_eq (by omega) hl]
  have : ∀ (m p : Nat), lo ≤ p → p + m = hi → goU step fin m (p : Int) (S p) = fin (hi : Int) (S hi) := by
    intro m
    induction m with
    | zero => intro p hp hm; have : p = hi := by omega
              subst this; rfl
    | succ m ih =>
      intro p hp hm
      rw [goU, h p _ hp (by omega)]
      have e : (p : Int) + 1 = ((p + 1 : Nat) : Int) := by omega
      rw [e]
      exact ih (p + 1) (by omega) (by omega)
  rw [h0, show ((hi : Int) - (lo : Int)).toNat = hi - lo by omega]
  exact this (hi - lo) lo (Nat.le_refl _) (by omega)
end
theorem oapp_one {α : Type} {l : List α} {x : α} (h : l.length ≤ 4294967295) : oapp l [x] = some (l ++ [x]) := if_pos ⟨by simp, by simp; omega⟩
/-! who is near -/
def end1 (a : Int) (l : T_Link) : List Int := (if l.A.Switch = a then [l.B.Switch] else []) ++ (if l.B.Switch = a then [l.A.Switch] else [])
def endsV (T : T_Topo) (a : Int) : List Int := T.Links.flatMap (end1 a)
def nearV (T : T_Topo) (a : Int) : List Int := setOf (endsV T a)
def adj (T : T_Topo) (a b : Int) : Prop := ∃ l ∈ T.Links, (l.A.Switch = a ∧ l.B.Switch = b) ∨ (l.B.Switch = a ∧ l.A.Switch = b)
theorem adj_symm {T : T_Topo} {a b : Int} (h : adj T a b) : adj T b a := by
  obtain ⟨l, hl, h⟩ := h
  exact ⟨l, hl, h.symm.imp (fun h => ⟨h.2, h.1⟩) fun h => ⟨h.2, h.1⟩⟩
theorem near_mem {T : T_Topo} {a b : Int} : b ∈ nearV T a ↔ adj T a b := by
  unfold nearV endsV
  rw [setOf_mem, List.mem_flatMap]
  constructor
  · rintro ⟨l, hl, h⟩
    refine ⟨l, hl, ?_⟩
    unfold end1 at h
    rcases List.mem_append.1 h with h | h
    · split at h
      · rename_i e; simp at h; exact .inl ⟨e, h.symm⟩
      · simp at h
    · split at h
      · rename_i e; simp at h; exact .inr ⟨e, h.symm⟩
      · simp at h
  · rintro ⟨l, hl, h⟩
    refine ⟨l, hl, ?_⟩
    unfold end1
    rcases h with ⟨h1, h2⟩ | ⟨h1, h2⟩
    · rw [if_pos h1]; simp [h2]
    · rw [if_pos h1, h2]; simp
theorem end1_len (a : Int) (l : T_Link) : (end1 a l).length ≤ 2 := by
  unfold end1
  split <;> split <;> simp
theorem ends_len (a : Int) (L : List T_Link) : (L.flatMap (end1 a)).length ≤ 2 * L.length := by
  induction L with
  | nil => simp
  | cons x L ih =>
    have := end1_len a x
    rw [List.flatMap_cons, List.length_append, List.length_cons]; omega
theorem s_near {T : T_Topo} (hT : T.Links.length ≤ 200) (a : Int) : t_topo_near T a = some (nearV T a) := by
  have hM : maxI = 9223372036854775807 := rfl
  unfold t_topo_near
  rw [loopI_at (l := T.Links) (s := ([] : List Int)) (S := fun p => (T.Links.take p).flatMap (end1 a)) rfl (by omega) fun p x k hp => ?_]
  · rw [List.take_length, Option.bind_some]
    exact s_set _ (by have := ends_len a T.Links; omega)
  · have hpl := (List.getElem?_eq_some_iff.1 hp).1
    have hlen := ends_len a (T.Links.take p)
    rw [List.length_take] at hlen
    have e : (T.Links.take (p + 1)).flatMap (end1 a) = (T.Links.take p).flatMap (end1 a) ++ end1 a x := by
      rw [List.take_add_one, hp, List.flatMap_append]; simp
    rw [e]
    generalize (T.Links.take p).flatMap (end1 a) = s at hlen
    unfold end1
    by_cases h1 : x.A.Switch = a
    · rw [if_pos (decide_eq_true h1), oapp_one (by omega), Option.bind_some, Option.bind_some, if_pos h1]
      by_cases h2 : x.B.Switch = a
      · rw [if_pos (decide_eq_true h2), oapp_one (by simp; omega), Option.bind_some, Option.bind_some, if_pos h2, List.append_assoc]
      · rw [if_neg (by simpa using h2), Option.bind_some, if_neg h2, List.append_nil]
    · rw [if_neg (by simpa using h1), Option.bind_some, if_neg h1, List.nil_append]
      by_cases h2 : x.B.Switch = a
      · rw [if_pos (decide_eq_true h2), oapp_one (by omega), Option.bind_some, Option.bind_some, if_pos h2]
      · rw [if_neg (by simpa using h2), Option.bind_some, if_neg h2, List.append_nil]
/-! ways -/
def inr (T : T_Topo) (b : Int) : Prop := 1 ≤ b ∧ b ≤ T.Switches
theorem adj_inr {T : T_Topo} (hT : topoGood T) {a b : Int} (h : adj T a b) : inr T a ∧ inr T b := by
  obtain ⟨l, hl, h⟩ := h
  obtain ⟨⟨h1, h2, _⟩, h3, h4, _⟩ := hT.links l hl
  rcases h with ⟨rfl, rfl⟩ | ⟨rfl, rfl⟩
  · exact ⟨⟨h1, h2⟩, h3, h4⟩
  · exact ⟨⟨h3, h4⟩, h1, h2⟩
/-- a way of n links -/
def wk (T : T_Topo) : Nat → Int → Int → Prop
  | 0, a, b => b = a
  | n + 1, a, b => ∃ k, wk T n a k ∧ adj T k b
theorem wk_snoc {T : T_Topo} {n : Nat} {a k b : Int} (h : wk T n a k) (h2 : adj T k b) : wk T (n + 1) a b := ⟨k, h, h2⟩
theorem wk_cons {T : T_Topo} : ∀ {n : Nat} {a k b : Int}, adj T a k → wk T n k b → wk T (n + 1) a b
  | 0, a, k, b, h, h2 => by cases h2; exact ⟨a, rfl, h⟩
  | n + 1, a, k, b, h, h2 => by
    obtain ⟨c, h3, h4⟩ := h2
    exact ⟨c, wk_cons h h3, h4⟩
theorem wk_symm {T : T_Topo} : ∀ {n : Nat} {a b : Int}, wk T n a b → wk T n b a
  | 0, a, b, h => h.symm
  | n + 1, a, b, h => by
    obtain ⟨c, h3, h4⟩ := h
    exact wk_cons (adj_symm h4) (wk_symm h3)
theorem wk_trans {T : T_Topo} {n : Nat} {a b : Int} (h : wk T n a b) : ∀ {m : Nat} {c : Int}, wk T m b c → wk T (n + m) a c
  | 0, c, h2 => by cases h2; exact h
  | m + 1, c, h2 => by
    obtain ⟨k, h3, h4⟩ := h2
    exact ⟨k, wk_trans h h3, h4⟩
theorem wk_inr {T : T_Topo} (hT : topoGood T) : ∀ {n : Nat} {a b : Int}, inr T a → wk T n a b → inr T b
  | 0, a, b, ha, h => by cases h; exact ha
  | n + 1, a, b, ha, h => by
    obtain ⟨k, h3, h4⟩ := h
    exact (adj_inr hT h4).2
/-! the search -/
def fv (far : List Int) (b : Int) : Int := far.getD b.toNat (-1)
theorem fv_set {far : List Int} {k v b : Int} (hk : 0 ≤ k) (hk2 : k < far.length) (hb : 0 ≤ b) : fv (far.set k.toNat v) b = if b = k then v else fv far b := by
  unfold fv
  rw [List.getD, List.getElem?_set]
  by_cases e : b = k
  · subst e
    rw [if_pos rfl, if_pos rfl, if_pos (by omega)]; rfl
  · rw [if_neg e, if_neg (by omega)]; rfl
theorem fv_idx {far : List Int} {b : Int} (h0 : 0 ≤ b) (h1 : b < far.length) : idx far b = some (fv far b) := by
  unfold fv idx
  rw [if_pos h0, List.getD, List.getElem?_eq_getElem (by omega)]; rfl
def unv (far : List Int) : Nat := (far.drop 1).countP fun x => decide (x < 0)
theorem unv_set {far : List Int} {k v : Int} (hk : 1 ≤ k) (hk2 : k < far.length) (h : fv far k < 0) (hv : 0 ≤ v) : unv (far.set k.toNat v) + 1 = unv far := by
  obtain ⟨j, rfl⟩ : ∃ j : Nat, k = ((j + 1 : Nat) : Int) := ⟨(k - 1).toNat, by omega⟩
  unfold unv
  unfold fv at h
  simp only [Int.toNat_natCast] at h ⊢
  cases far with
  | nil => simp at hk2; omega
  | cons x far =>
    simp only [List.set_cons_succ, List.drop_succ_cons, List.drop_zero, List.getD_cons_succ] at h ⊢
    have hj : j < far.length := by simp at hk2; omega
    have : ∀ (l : List Int) (j : Nat), j < l.length → l.getD j (-1) < 0 → (l.set j v).countP (fun x => decide (x < 0)) + 1 = l.countP fun x => decide (x < 0) := by
      intro l
      induction l with
      | nil => intro j hj; simp at hj
      | cons y l ih =>
        intro j hj h
        cases j with
        | zero =>
          simp only [List.getD_cons_zero] at h
          have hv' : ¬ v < 0 := by omega
          simp [h, hv']
        | succ j =>
          simp only [List.getD_cons_succ] at h
          have := ih j (by simpa using hj) h
          simp only [List.set_cons_succ, List.countP_cons]
          omega
    exact this far j hj h
structure BfsI (T : T_Topo) (a x : Int) (P : List Int) (M : Nat) (far q : List Int) : Prop where
  len : (far.length : Int) = T.Switches + 1
  hd : ∃ r, q = x :: r
  qin : ∀ y ∈ q, inr T y ∧ 0 ≤ fv far y
  low : ∀ b, inr T b → -1 ≤ fv far b
  start : fv far a = 0
  zero : ∀ b, inr T b → fv far b = 0 → b = a
  pred : ∀ b, inr T b → 0 < fv far b → ∃ k, inr T k ∧ fv far k = fv far b - 1 ∧ adj T k b
  mono : q.Pairwise fun y z => fv far y ≤ fv far z
  top : ∀ b, inr T b → fv far b ≤ fv far x + 1
  done : ∀ b, inr T b → 0 ≤ fv far b → b ∉ q → ∀ k, adj T b k → 0 ≤ fv far k ∧ fv far k ≤ fv far b + 1
  seen : ∀ k ∈ P, 0 ≤ fv far k
  meas : q.length + unv far = M
  bnd : fv far x + M ≤ T.Switches
structure Fin2 (T : T_Topo) (a : Int) (far : List Int) : Prop where
  len : (far.length : Int) = T.Switches + 1
  low : ∀ b, inr T b → -1 ≤ fv far b
  start : fv far a = 0
  zero : ∀ b, inr T b → fv far b = 0 → b = a
  pred : ∀ b, inr T b → 0 < fv far b → ∃ k, inr T k ∧ fv far k = fv far b - 1 ∧ adj T k b
  done : ∀ b, inr T b → 0 ≤ fv far b → ∀ k, adj T b k → 0 ≤ fv far k ∧ fv far k ≤ fv far b + 1
  ub : ∀ b, inr T b → fv far b ≤ T.Switches
/-- one more is seen -/
theorem bfs_step {T : T_Topo} (hT : topoGood T) {a x : Int} (ha : inr T a) {P : List Int} {M : Nat} {far q : List Int} (h : BfsI T a x P M far q) {k : Int} (hk : adj T x k) :
    BfsI T a x (P ++ [k]) M (if fv far k < 0 then far.set k.toNat (fv far x + 1) else far) (if fv far k < 0 then q ++ [k] else q) := by
  have hki := (adj_inr hT hk).2
  have hxq : inr T x ∧ 0 ≤ fv far x := by
    obtain ⟨r, hr⟩ := h.hd
    exact h.qin x (by rw [hr]; simp)
  have hlen := h.len
  obtain ⟨hk1, hk2⟩ := hki
  by_cases hneg : fv far k < 0
  · rw [if_pos hneg, if_pos hneg]
    have hset : ∀ b, inr T b → fv (far.set k.toNat (fv far x + 1)) b = if b = k then fv far x + 1 else fv far b := fun b hb => fv_set (by omega) (by omega) (by have := hb.1; omega)
    have hkeep : ∀ b, inr T b → 0 ≤ fv far b → fv (far.set k.toNat (fv far x + 1)) b = fv far b := fun b hb h0 => by
      rw [hset b hb, if_neg]
      intro e; subst e; omega
    have hx' := hkeep x hxq.1 hxq.2
    have hpos : 0 ≤ fv far x + 1 := by omega
    have hkv : fv (far.set k.toNat (fv far x + 1)) k = fv far x + 1 := by rw [hset k ⟨hk1, hk2⟩, if_pos rfl]
    have hkq : k ∉ q := fun hm => by have := (h.qin k hm).2; omega
    have hu := unv_set (v := fv far x + 1) hk1 (by omega) hneg hpos
    have hmeas := h.meas
    refine ⟨by rw [List.length_set]; exact hlen, ?_, fun y hy => ?_, fun b hb => ?_, ?_, fun b hb h0 => ?_, fun b hb h0 => ?_, ?_, fun b hb => ?_, fun b hb h0 hq k' hk' => ?_, fun k' hk' => ?_, ?_, ?_⟩
    · obtain ⟨r, hr⟩ := h.hd
      exact ⟨r ++ [k], by rw [hr]; rfl⟩
    · rcases List.mem_append.1 hy with hy | hy
      · obtain ⟨h1, h2⟩ := h.qin y hy
        exact ⟨h1, by rw [hkeep y h1 h2]; exact h2⟩
      · simp at hy; subst hy
        exact ⟨⟨hk1, hk2⟩, by rw [hkv]; exact hpos⟩
    · rw [hset b hb]
      split
      · omega
      · exact h.low b hb
    · rw [hkeep a ha (by rw [h.start]; omega)]; exact h.start
    · rw [hset b hb] at h0
      split at h0
      · omega
      · exact h.zero b hb h0
    · rw [hset b hb] at h0 ⊢
      split
      · rename_i e
        subst e
        exact ⟨x, hxq.1, by rw [hx']; omega, hk⟩
      · rename_i e
        rw [if_neg e] at h0
        obtain ⟨k', q1, q2, q3⟩ := h.pred b hb h0
        exact ⟨k', q1, by rw [hkeep k' q1 (by omega)]; exact q2, q3⟩
    · rw [List.pairwise_append]
      refine ⟨h.mono.imp_of_mem fun {y z} hy hz hyz => ?_, by simp, fun y hy z hz => ?_⟩
      · obtain ⟨h1, h2⟩ := h.qin y hy
        obtain ⟨h3, h4⟩ := h.qin z hz
        rw [hkeep y h1 h2, hkeep z h3 h4]; exact hyz
      · simp at hz; subst hz
        obtain ⟨h1, h2⟩ := h.qin y hy
        rw [hkeep y h1 h2, hkv]; exact h.top y h1
    · rw [hx', hset b hb]
      split
      · omega
      · exact h.top b hb
    · have hbq : b ∉ q ∧ b ≠ k := by simpa using hq
      rw [hset b hb, if_neg hbq.2] at h0
      obtain ⟨q1, q2⟩ := h.done b hb h0 hbq.1 k' hk'
      have hk'i := (adj_inr hT hk').2
      rw [hkeep b hb h0, hkeep k' hk'i q1]
      exact ⟨q1, q2⟩
    · rcases List.mem_append.1 hk' with hk' | hk'
      · have h1 := h.seen k' hk'
        unfold fv at h1 ⊢
        rw [List.getD, List.getElem?_set]
        split
        · split
          · exact hpos
          · rename_i e _; omega
        · exact h1
      · simp at hk'; subst hk'
        rw [hkv]; exact hpos
    · rw [List.length_append, List.length_singleton]; omega
    · rw [hx']; exact h.bnd
  · rw [if_neg hneg, if_neg hneg]
    refine { h with seen := fun k' hk' => ?_ }
    rcases List.mem_append.1 hk' with hk' | hk'
    · exact h.seen k' hk'
    · simp at hk'; subst hk'; omega
/-- the loop over those that are near -/
theorem bfs_inner {T : T_Topo} (hT : topoGood T) {a x : Int} (ha : inr T a) {M : Nat} {β : Type} {fin : List Int × List Int → Option β} (hM : M ≤ 1000) :
    ∀ (L P : List Int) (i : Int) (far q : List Int), (∀ k ∈ L, adj T x k) → BfsI T a x P M far q → ∃ far' q', BfsI T a x (P ++ L) M far' q' ∧
    goI (fun (i59 : Int) x60 (s55 : ((List Int) × (List Int))) k56 =>
       need (decide (0 ≤ x60) && decide (x60 < (List.length s55.1 : Int))) (
       (idx s55.1 x60).bind fun r70 =>
       (if (decide (r70 < 0)) = true then (
       (idx s55.2 0).bind fun r80 =>
       need (decide (0 ≤ r80) && decide (r80 < (List.length s55.1 : Int))) (
       (idx s55.1 r80).bind fun r85 =>
       need (decide (0 ≤ x60) && decide (x60 < (List.length s55.1 : Int))) (
       (oset s55.1 x60 (wr (r85 + 1))).bind fun r91 =>
       (app s55.2 ([x60] : (List Int))).bind fun r94 =>
       some (r91, r94)))) else (
       some (s55.1, s55.2))).bind fun (s74 : ((List Int) × (List Int))) =>
       k56 (s74.1, s74.2))) fin i L (far, q) = fin (far', q')
  | [], P, i, far, q, _, h => ⟨far, q, by rw [List.append_nil]; exact h, rfl⟩
  | k :: L, P, i, far, q, hL, h => by
    have hk := hL k (by simp)
    have hki := (adj_inr hT hk).2
    obtain ⟨hk1, hk2⟩ := hki
    have hsw := hT.sw
    have hlen := h.len
    have hxq : inr T x ∧ 0 ≤ fv far x := by
      obtain ⟨r, hr⟩ := h.hd
      exact h.qin x (by rw [hr]; simp)
    obtain ⟨hx1, hx2⟩ := hxq.1
    have hx3 := hxq.2
    have hb := h.bnd
    obtain ⟨far', q', h1, h2⟩ := bfs_inner hT ha (β := β) (fin := fin) hM L (P ++ [k]) (i + 1) _ _ (fun k' hk' => hL k' (by simp [hk'])) (bfs_step hT ha h hk)
    refine ⟨far', q', by rw [List.append_assoc] at h1; exact h1, ?_⟩
    rw [goI]
    dsimp only
    rw [need_pos (by simp; omega), fv_idx (by omega) (by omega), Option.bind_some]
    have hqlen : q.length ≤ 1000 := by have := h.meas; omega
    by_cases hneg : fv far k < 0
    · rw [if_pos hneg, if_pos hneg] at h2
      obtain ⟨r, hr⟩ := h.hd
      have h0 : idx q 0 = some x := by rw [hr]; rfl
      rw [if_pos (decide_eq_true hneg), h0, Option.bind_some, need_pos (by simp; omega), fv_idx (by omega) (by omega), Option.bind_some, need_pos (by simp; omega)]
      have ho : oset far k (wr (fv far x + 1)) = some (far.set k.toNat (fv far x + 1)) := by
        rw [wr_id (by omega) (by omega)]
        exact if_pos ⟨by omega, by omega⟩
      rw [ho, Option.bind_some, app_eq (by simp; omega), Option.bind_some, Option.bind_some]
      exact h2
    · rw [if_neg hneg, if_neg hneg] at h2
      rw [if_neg (by simpa using hneg), Option.bind_some]
      exact h2
theorem bfs_pop {T : T_Topo} (hT : topoGood T) {a x : Int} {M : Nat} {far r : List Int} (h : BfsI T a x (nearV T x) M far (x :: r)) : (r = [] ∧ Fin2 T a far) ∨ ∃ y r', r = y :: r' ∧ BfsI T a y [] (M - 1) far r := by
  have hsw := hT.sw
  have hxq := h.qin x (by simp)
  have hM : 1 ≤ M := by have := h.meas; simp at this; omega
  have hb := h.bnd
  have hmeas := h.meas
  have hdone : ∀ b, inr T b → 0 ≤ fv far b → b ∉ r → ∀ k, adj T b k → 0 ≤ fv far k ∧ fv far k ≤ fv far b + 1 := fun b hb h0 hbr k hk => by
    by_cases e : b = x
    · subst e
      exact ⟨h.seen k (near_mem.2 hk), h.top k (adj_inr hT hk).2⟩
    · exact h.done b hb h0 (by simp [e, hbr]) k hk
  cases r with
  | nil =>
    exact .inl ⟨rfl, h.len, h.low, h.start, h.zero, h.pred, fun b hb h0 k hk => hdone b hb h0 (by simp) k hk, fun b hb => by have := h.top b hb; omega⟩
  | cons y r' =>
    have hy := h.qin y (by simp)
    obtain ⟨m1, m2⟩ := List.pairwise_cons.1 h.mono
    have hxy := m1 y (by simp)
    have hty := h.top y hy.1
    refine .inr ⟨y, r', rfl, h.len, ⟨r', rfl⟩, fun z hz => h.qin z (List.mem_cons_of_mem _ hz), h.low, h.start, h.zero, h.pred, m2, fun b hb => by have := h.top b hb; omega, hdone, by simp, ?_, ?_⟩
    · simp only [List.length_cons] at hmeas ⊢; omega
    · omega
theorem bfs_run {T : T_Topo} (hT : topoGood T) {a : Int} (ha : inr T a) : ∀ (M N : Nat) (far q : List Int), M < N → M ≤ 1000 → ((q = [] ∧ Fin2 T a far) ∨ ∃ x r, q = x :: r ∧ BfsI T a x [] M far q) → ∃ far', tfix (fun k27 (s26 : ((List Int) × (List Int))) =>
     if (decide (0 < (List.length s26.2 : Int))) = true then (
     ((idx s26.2 0).bind fun r43 =>
     (t_topo_near T r43).bind fun r46 =>
     (loopI r46 (fun (i59 : Int) x60 (s55 : ((List Int) × (List Int))) k56 =>
     need (decide (0 ≤ x60) && decide (x60 < (List.length s55.1 : Int))) (
     (idx s55.1 x60).bind fun r70 =>
     (if (decide (r70 < 0)) = true then (
     (idx s55.2 0).bind fun r80 =>
     need (decide (0 ≤ r80) && decide (r80 < (List.length s55.1 : Int))) (
     (idx s55.1 r80).bind fun r85 =>
     need (decide (0 ≤ x60) && decide (x60 < (List.length s55.1 : Int))) (
     (oset s55.1 x60 (wr (r85 + 1))).bind fun r91 =>
     (app s55.2 ([x60] : (List Int))).bind fun r94 =>
     some (r91, r94)))) else (
     some (s55.1, s55.2))).bind fun (s74 : ((List Int) × (List Int))) =>
     k56 (s74.1, s74.2))) (fun (s55 : ((List Int) × (List Int))) =>
     some (s55.1, s55.2)) (s26.1, s26.2)).bind fun (s50 : ((List Int) × (List Int))) =>
     some (s50.1, s50.2)).bind fun (s36 : ((List Int) × (List Int))) =>
     (slc_lo s36.2 1).bind fun r40 =>
     k27 (s36.1, r40)) else (
     some (s26.1))) N (far, q) = some far' ∧ Fin2 T a far' := by
  intro M
  induction M with
  | zero =>
    intro N far q hN _ h
    obtain ⟨N, rfl⟩ : ∃ n, N = n + 1 := ⟨N - 1, by omega⟩
    rcases h with ⟨rfl, hF⟩ | ⟨x, r, rfl, h⟩
    · exact ⟨far, by simp [tfix], hF⟩
    · have := h.meas; simp at this
  | succ M ih =>
    intro N far q hN hM h
    obtain ⟨N, rfl⟩ : ∃ n, N = n + 1 := ⟨N - 1, by omega⟩
    rcases h with ⟨rfl, hF⟩ | ⟨x, r, rfl, h⟩
    · exact ⟨far, by simp [tfix], hF⟩
    · have hsw := hT.sw
      have hn200 := hT.nl
      have hnl : ((nearV T x).length : Int) ≤ maxI := by
        have h1 := setOf_len (endsV T x)
        have h2 := ends_len x T.Links
        have h3 : (nearV T x).length ≤ 400 := Nat.le_trans h1 (by unfold endsV; omega)
        have hMx : maxI = 9223372036854775807 := rfl
        omega
      obtain ⟨far', q', h1, h2⟩ := bfs_inner hT ha (fin := fun (s55 : ((List Int) × (List Int))) => some (s55.1, s55.2)) hM (nearV T x) [] 0 far (x :: r) (fun k hk => near_mem.1 hk) h
      rw [List.nil_append] at h1
      obtain ⟨r', rfl⟩ := h1.hd
      obtain ⟨far2, e1, e2⟩ := ih N far' r' (by omega) (by omega) ((bfs_pop hT h1).imp id fun ⟨y, r2, e, h⟩ => ⟨y, r2, e, h⟩)
      refine ⟨far2, ?_, e2⟩
      rw [tfix]
      revert e1
      generalize tfix _ N = K
      intro e1
      have hpos : decide (0 < (List.length (x :: r) : Int)) = true := by simp
      have h0 : idx (x :: r) 0 = some x := rfl
      simp only [hpos, if_true, h0, Option.bind_some, s_near hn200, loopI_eq hnl, h2]
      have hs : slc_lo (x :: r') 1 = some r' := by
        unfold slc_lo
        rw [if_pos ⟨by omega, by simp; omega⟩]; rfl
      rw [hs, Option.bind_some]
      exact e1
theorem s_Links {T : T_Topo} (hT : topoGood T) {a : Int} (ha : inr T a) : ∃ far, t_topo_Links T a = some far ∧ Fin2 T a far := by
  have hM : maxI = 9223372036854775807 := rfl
  have hsw := hT.sw
  obtain ⟨ha1, ha2⟩ := ha
  have ha : inr T a := ⟨ha1, ha2⟩
  obtain ⟨n, hn⟩ : ∃ n : Nat, T.Switches = (n : Int) := ⟨T.Switches.toNat, by omega⟩
  unfold t_topo_Links
  have ew : wr (T.Switches + 1) = ((n + 1 : Nat) : Int) := by rw [wr_id (by omega) (by omega)]; omega
  have ho : omake (wr (T.Switches + 1)) (wr (T.Switches + 1)) 0 = some (List.replicate (n + 1) (0 : Int)) := by
    rw [ew]
    unfold omake
    rw [if_pos ⟨rfl, by omega, by omega⟩, Int.toNat_natCast]
  rw [ho, Option.bind_some]
  have hfill : loopI (List.replicate (n + 1) (0 : Int)) (fun (i108 : Int) x109 (s104 : (List Int)) k105 =>
      need (decide (0 ≤ i108) && decide (i108 < (List.length s104 : Int))) ((oset s104 i108 (-1 : Int)).bind fun r118 => k105 (r118))) (fun (s104 : (List Int)) => some (s104)) (List.replicate (n + 1) (0 : Int)) = some (List.replicate (n + 1) (-1 : Int)) := by
    refine (loopI_at (S := fun p => (List.range (n + 1)).map fun j => if j < p then (-1 : Int) else 0) ?_ (by simp; omega) fun p x k hp => ?_).trans ?_
    · refine List.ext_getElem (by simp) fun i h1 h2 => ?_
      simp
    · have hpl := (List.getElem?_eq_some_iff.1 hp).1
      simp at hpl
      have hol : oset ((List.range (n + 1)).map fun j => if j < p then (-1 : Int) else 0) (p : Int) (-1) = some (((List.range (n + 1)).map fun j => if j < p then (-1 : Int) else 0).set p (-1)) := if_pos ⟨by omega, by simp; omega⟩
      rw [need_pos (by simp; omega), hol, Option.bind_some]
      congr 1
      refine List.ext_getElem (by simp) fun i h1 h2 => ?_
      rw [List.getElem_set]
      simp only [List.getElem_map, List.getElem_range]
      by_cases e : p = i
      · subst e; rw [if_pos rfl, if_pos (by omega)]
      · rw [if_neg e]
        by_cases hi : i < p
        · rw [if_pos hi, if_pos (by omega)]
        · rw [if_neg hi, if_neg (by omega)]
    · congr 1
      refine List.ext_getElem (by simp) fun i h1 h2 => ?_
      simp at h1
      simp [h1]
  rw [hfill, Option.bind_some, need_pos (by simp; omega)]
  have hol : oset (List.replicate (n + 1) (-1 : Int)) a 0 = some ((List.replicate (n + 1) (-1 : Int)).set a.toNat 0) := if_pos ⟨by omega, by simp; omega⟩
  rw [hol, Option.bind_some]
  have hrep : ∀ b : Int, fv (List.replicate (n + 1) (-1 : Int)) b = -1 := fun b => by
    unfold fv
    rw [List.getD, List.getElem?_replicate]
    split <;> rfl
  have hset : ∀ b, inr T b → fv ((List.replicate (n + 1) (-1 : Int)).set a.toNat 0) b = if b = a then 0 else -1 := fun b hb => by
    rw [fv_set (by omega) (by simp; omega) (by have := hb.1; omega), hrep]
  have hfa : fv ((List.replicate (n + 1) (-1 : Int)).set a.toNat 0) a = 0 := by rw [hset a ha, if_pos rfl]
  have hu := unv_set (far := List.replicate (n + 1) (-1 : Int)) (v := 0) ha1 (by simp; omega) (by rw [hrep]; decide) (by decide)
  have hur : unv (List.replicate (n + 1) (-1 : Int)) = n := by
    unfold unv
    simp [List.countP_replicate]
  have hI : BfsI T a a [] n ((List.replicate (n + 1) (-1 : Int)).set a.toNat 0) [a] := by
    refine ⟨by simp; omega, ⟨[], rfl⟩, fun y hy => ?_, fun b hb => ?_, hfa, fun b hb h0 => ?_, fun b hb h0 => ?_, by simp, fun b hb => ?_, fun b hb h0 hq => ?_, by simp, ?_, ?_⟩
    · simp at hy; subst hy
      exact ⟨ha, by rw [hfa]; omega⟩
    · rw [hset b hb]; split <;> omega
    · rw [hset b hb] at h0
      split at h0
      · assumption
      · omega
    · rw [hset b hb] at h0
      split at h0 <;> omega
    · rw [hfa, hset b hb]; split <;> omega
    · simp at hq
      rw [hset b hb, if_neg hq] at h0; omega
    · simp only [List.length_singleton]; omega
    · rw [hfa]; omega
  obtain ⟨far, e1, e2⟩ := bfs_run hT ha n bigN _ [a] (Nat.lt_trans (by omega) bigN_gt) (by omega) (.inr ⟨a, [], rfl, hI⟩)
  refine ⟨far, ?_, e2⟩
  rw [e1]
  rfl
theorem fin_le {T : T_Topo} (hT : topoGood T) {a : Int} (ha : inr T a) {far : List Int} (h : Fin2 T a far) : ∀ {n : Nat} {b : Int}, wk T n a b → 0 ≤ fv far b ∧ fv far b ≤ n
  | 0, b, hw => by cases hw; rw [h.start]; exact ⟨Int.le_refl _, Int.le_refl _⟩
  | n + 1, b, hw => by
    obtain ⟨k, h1, h2⟩ := hw
    obtain ⟨h3, h4⟩ := fin_le hT ha h h1
    obtain ⟨h5, h6⟩ := h.done k (wk_inr hT ha h1) h3 b h2
    exact ⟨h5, by omega⟩
theorem fin_wk {T : T_Topo} {a : Int} {far : List Int} (h : Fin2 T a far) : ∀ (m : Nat) (b : Int), inr T b → fv far b = m → wk T m a b
  | 0, b, hb, he => h.zero b hb he
  | m + 1, b, hb, he => by
    obtain ⟨k, h1, h2, h3⟩ := h.pred b hb (by omega)
    exact ⟨k, fin_wk h m k h1 (by omega), h3⟩
/-- how far it is -/
theorem s_FarV {T : T_Topo} (hT : topoGood T) (hc : t_topo_Check T = some 0) {a b : Int} (ha : inr T a) (hb : inr T b) :
    ∃ d, t_topo_Far T a b = some d ∧ ((d.2 = 0 ∧ 0 ≤ d.1 ∧ d.1 ≤ 6 ∧ wk T d.1.toNat a b ∧ ∀ n, wk T n a b → d.1 ≤ n) ∨ (d = (0, 5) ∧ ∀ n, ¬ wk T n a b)) := by
  have hM : maxI = 9223372036854775807 := rfl
  have hsw := hT.sw
  obtain ⟨far, e1, e2⟩ := s_Links hT ha
  have hready : ∀ x, inr T x → t_topo_ready T (T_Spot.mk x 1) = some 0 := fun x hx => by
    unfold t_topo_ready
    obtain ⟨c, f1, f2⟩ := s_Spot T (T_Spot.mk x 1)
    have : c = true := f2.2 ⟨hx.1, hx.2, by show (1 : Int) ≤ 1; omega, by show (1 : Int) ≤ 4; omega⟩
    subst this
    rw [hc, Option.bind_some, if_neg (by decide), f1, Option.bind_some, if_neg (by decide)]
  have hlen := e2.len
  obtain ⟨hb1, hb2⟩ := hb
  have hb : inr T b := ⟨hb1, hb2⟩
  have hlow := e2.low b hb
  have hub := e2.ub b hb
  unfold t_topo_Far
  rw [join_eq, loopI_eq (by simp; omega)]
  simp only [goI, hready a ha, hready b hb, Option.bind_some, decide_true, Bool.not_true, Bool.false_eq_true, if_false, e1, fv_idx (far := far) (b := b) (by omega) (by omega)]
  by_cases hneg : fv far b < 0
  · refine ⟨(0, 5), by rw [if_pos (decide_eq_true hneg)], .inr ⟨rfl, fun n hw => ?_⟩⟩
    have := (fin_le hT ha e2 hw).1
    omega
  · refine ⟨(fv far b, 0), by rw [if_neg (by simpa using hneg)], .inl ⟨rfl, by show 0 ≤ fv far b; omega, by show fv far b ≤ 6; omega, fin_wk e2 _ b hb (by show fv far b = ((fv far b).toNat : Int); omega), fun n hw => (fin_le hT ha e2 hw).2⟩⟩
/-- what is wrong -/
theorem s_FarE {T : T_Topo} {c : Int} (hc : t_topo_Check T = some c) (h0 : c ≠ 0) (a b : Int) : t_topo_Far T a b = some (0, c) := by
  have hM : maxI = 9223372036854775807 := rfl
  unfold t_topo_Far
  have hready : t_topo_ready T (T_Spot.mk a 1) = some c := by
    unfold t_topo_ready
    rw [hc, Option.bind_some, if_pos (by simpa using h0)]
  rw [join_eq, loopI_eq (by simp; omega)]
  simp only [goI, hready, Option.bind_some]
  rw [if_pos (by simpa using h0)]
theorem s_FarR {T : T_Topo} (hc : t_topo_Check T = some 0) {a b : Int} (h : ¬ (inr T a ∧ inr T b)) : t_topo_Far T a b = some (0, 1) := by
  have hM : maxI = 9223372036854775807 := rfl
  unfold t_topo_Far
  have hready : ∀ x, t_topo_ready T (T_Spot.mk x 1) = some (if 1 ≤ x ∧ x ≤ T.Switches then 0 else 1) := fun x => by
    unfold t_topo_ready
    obtain ⟨c, f1, f2⟩ := s_Spot T (T_Spot.mk x 1)
    rw [hc, Option.bind_some, if_neg (by decide), f1, Option.bind_some]
    by_cases hx : 1 ≤ x ∧ x ≤ T.Switches
    · have : c = true := f2.2 ⟨hx.1, hx.2, by show (1 : Int) ≤ 1; omega, by show (1 : Int) ≤ 4; omega⟩
      subst this
      rw [if_neg (by decide), if_pos hx]
    · have : c = false := by
        cases hcc : c with
        | false => rfl
        | true => exact absurd ⟨(f2.1 hcc).1, (f2.1 hcc).2.1⟩ hx
      subst this
      rw [if_pos (by decide), if_neg hx]
  rw [join_eq, loopI_eq (by simp; omega)]
  simp only [goI, hready, Option.bind_some]
  unfold inr at h
  by_cases ha : 1 ≤ a ∧ a ≤ T.Switches
  · have hb : ¬ (1 ≤ b ∧ b ≤ T.Switches) := fun hb => h ⟨ha, hb⟩
    simp [ha, hb]
  · simp [ha]
def lineT (k : Nat) : T_Topo := ⟨(k : Int), (List.range (k - 1)).map fun i : Nat => T_Link.mk (T_Spot.mk ((i + 1 : Nat) : Int) 2) (T_Spot.mk ((i + 2 : Nat) : Int) 1), [T_Host.mk (ByteArray.mk #[97]) (T_Spot.mk 1 3), T_Host.mk (ByteArray.mk #[98]) (T_Spot.mk (k : Int) 4)]⟩
theorem line_adj {k : Nat} {a b : Int} : adj (lineT k) a b ↔ 1 ≤ a ∧ a ≤ k ∧ 1 ≤ b ∧ b ≤ k ∧ (b = a + 1 ∨ a = b + 1) := by
  unfold adj lineT
  simp only [List.mem_map, List.mem_range]
  constructor
  · rintro ⟨l, ⟨i, hi, rfl⟩, h⟩
    simp only at h
    omega
  · rintro ⟨h1, h2, h3, h4, h5 | h5⟩
    · exact ⟨_, ⟨(a - 1).toNat, by omega, rfl⟩, .inl ⟨by simp only; omega, by simp only; omega⟩⟩
    · exact ⟨_, ⟨(b - 1).toNat, by omega, rfl⟩, .inr ⟨by simp only; omega, by simp only; omega⟩⟩
theorem line_low {k : Nat} : ∀ {n : Nat} {a b : Int}, wk (lineT k) n a b → (a - b).natAbs ≤ n
  | 0, a, b, h => by cases h; simp
  | n + 1, a, b, h => by
    obtain ⟨c, h1, h2⟩ := h
    have := line_low h1
    have := line_adj.1 h2
    omega
theorem line_up {k : Nat} : ∀ (d : Nat) {a b : Int}, 1 ≤ a → b ≤ k → b = a + d → wk (lineT k) d a b
  | 0, a, b, _, _, h => by show b = a; omega
  | d + 1, a, b, h1, h2, h => ⟨b - 1, line_up d h1 (by omega) (by omega), line_adj.2 (by omega)⟩
theorem line_wk {k : Nat} {a b : Int} (ha : 1 ≤ a ∧ a ≤ k) (hb : 1 ≤ b ∧ b ≤ k) : wk (lineT k) (a - b).natAbs a b := by
  rcases Int.le_total a b with h | h
  · exact line_up _ ha.1 hb.2 (by omega)
  · exact wk_symm (line_up _ hb.1 ha.2 (by omega))
theorem line_near {k : Nat} {a : Int} (ha : 1 ≤ a ∧ a ≤ k) : nearV (lineT k) a = (if a = 1 then [] else [a - 1]) ++ (if a = k then [] else [a + 1]) := by
  refine strict_eq (setOf_strict _) ?_ fun x => ?_
  · split <;> split <;> simp; omega
  · rw [near_mem, line_adj]
    by_cases h1 : a = 1 <;> by_cases h2 : a = k <;> simp only [h1, h2, if_true, if_false, List.mem_append, List.mem_singleton, List.not_mem_nil, or_false, false_or] <;> (try simp only [← h2]) <;> (try (split <;> simp)) <;> omega
theorem line_len {k : Nat} {a : Int} (ha : 1 ≤ a ∧ a ≤ k) : ((nearV (lineT k) a).length : Int) = (if a = k then (if a = 1 then 1 else 2) - 1 else (if a = 1 then 1 else 2)) := by
  rw [line_near ha]
  by_cases h1 : a = 1 <;> by_cases h2 : a = k <;> simp [h1, h2] <;> (try omega) <;> (split <;> (try simp) <;> omega)
theorem line_law {k : Nat} (hk : 1 ≤ k ∧ k ≤ 6) (e1 : t_raillaw4_line (k : Int) = some (lineT k)) (e2 : t_topo_Check (lineT k) = some 0) (a b : Int) : t_raillaw4_TopoLine (k : Int) a b = some true := by
  have hM : maxI = 9223372036854775807 := rfl
  have hnm : ∀ h ∈ (lineT k).Hosts, (h.Name.size : Int) ≤ maxI := fun h hh => by
    have : h = T_Host.mk (ByteArray.mk #[97]) (T_Spot.mk 1 3) ∨ h = T_Host.mk (ByteArray.mk #[98]) (T_Spot.mk (k : Int) 4) := by simpa [lineT] using hh
    rcases this with rfl | rfl
    · show ((1 : Nat) : Int) ≤ maxI; omega
    · show ((1 : Nat) : Int) ≤ maxI; omega
  obtain ⟨c, c1, c2⟩ := s_topoCheck (lineT k) hnm
  rw [e2] at c1
  obtain rfl := Option.some.inj c1
  have hT := c2 rfl
  have hS : (lineT k).Switches = (k : Int) := rfl
  unfold t_raillaw4_TopoLine
  rw [if_neg (by simp only [Bool.or_eq_true, decide_eq_true_eq]; omega), e1, Option.bind_some, e2, Option.bind_some, if_neg (by decide)]
  by_cases hab : inr (lineT k) a ∧ inr (lineT k) b
  rotate_left
  · rw [s_FarR e2 hab, Option.bind_some, if_pos]
    · rfl
    · simp only [Bool.or_eq_true, decide_eq_true_eq]
      unfold inr at hab
      rw [hS] at hab
      omega
  obtain ⟨ha, hb⟩ := hab
  obtain ⟨d, d1, d2⟩ := s_FarV hT e2 ha hb
  have ha' : 1 ≤ a ∧ a ≤ (k : Int) := ha
  have hb' : 1 ≤ b ∧ b ≤ (k : Int) := hb
  have hw := line_wk ha' hb'
  rw [d1, Option.bind_some, if_neg (by simp only [Bool.or_eq_true, decide_eq_true_eq]; omega)]
  rcases d2 with ⟨p1, p2, p3, p4, p5⟩ | ⟨_, p5⟩
  rotate_left
  · exact absurd hw (p5 _)
  have h1 := p5 _ hw
  have h2 := line_low p4
  have hd : d.1 = ((a - b).natAbs : Int) := by omega
  have hnear : t_topo_Near (lineT k) a = some (nearV (lineT k) a, 0) := by
    unfold t_topo_Near t_topo_ready
    obtain ⟨c, f1, f2⟩ := s_Spot (lineT k) (T_Spot.mk a 1)
    have : c = true := f2.2 ⟨ha'.1, ha'.2, by show (1 : Int) ≤ 1; omega, by show (1 : Int) ≤ 4; omega⟩
    subst this
    rw [e2, Option.bind_some, if_neg (by decide), f1, Option.bind_some, if_neg (by decide), Option.bind_some, if_neg (by decide), s_near hT.nl, Option.bind_some]
  have hab : (if (decide ((wr (a - b)) < 0)) = true then (some (wr (-(wr (a - b))))) else (some (wr (a - b)))) = some ((a - b).natAbs : Int) := by
    rw [wr_id (by omega) (by omega)]
    split
    · rename_i h
      have h := of_decide_eq_true h
      rw [wr_id (by omega) (by omega)]
      refine congrArg some ?_
      omega
    · rename_i h
      have h : ¬ (a - b < 0) := fun h' => h (decide_eq_true h')
      refine congrArg some ?_
      omega
  have hl := line_len ha'
  rw [hab, Option.bind_some, hnear, Option.bind_some]
  have w1 : wr (2 - 1) = 1 := rfl
  by_cases g1 : a = 1
  · rw [if_pos (decide_eq_true g1), Option.bind_some]
    by_cases g2 : a = (k : Int)
    · rw [if_pos (decide_eq_true g2), Option.bind_some]
      rw [if_pos g2, if_pos g1] at hl
      rw [w1, show wr (1 - 1) = 0 from rfl]
      simp [p1, hd, hl]
    · rw [if_neg (by simpa using g2), Option.bind_some]
      rw [if_neg g2, if_pos g1] at hl
      rw [w1]
      simp [p1, hd, hl]
  · rw [if_neg (by simpa using g1), Option.bind_some]
    by_cases g2 : a = (k : Int)
    · rw [if_pos (decide_eq_true g2), Option.bind_some]
      rw [if_pos g2, if_neg g1] at hl
      rw [w1]
      simp [p1, hd, hl]
    · rw [if_neg (by simpa using g2), Option.bind_some]
      rw [if_neg g2, if_neg g1] at hl
      simp [p1, hd, hl]
theorem walk_TopoLine (a0 a1 a2 : Int) (_ : wi64 a0) (_ : wi64 a1) (_ : wi64 a2) : t_raillaw4_TopoLine a0 a1 a2 = some true := by
  by_cases h : a0 < 1 ∨ 6 < a0
  · unfold t_raillaw4_TopoLine
    rw [if_pos (by simpa using h)]
    kernel_rfl
  · have : a0 = 1 ∨ a0 = 2 ∨ a0 = 3 ∨ a0 = 4 ∨ a0 = 5 ∨ a0 = 6 := by omega
    rcases this with rfl | rfl | rfl | rfl | rfl | rfl
    · exact line_law (k := 1) (by omega) (by kernel_rfl) (by kernel_rfl) a1 a2
    · exact line_law (k := 2) (by omega) (by kernel_rfl) (by kernel_rfl) a1 a2
    · exact line_law (k := 3) (by omega) (by kernel_rfl) (by kernel_rfl) a1 a2
    · exact line_law (k := 4) (by omega) (by kernel_rfl) (by kernel_rfl) a1 a2
    · exact line_law (k := 5) (by omega) (by kernel_rfl) (by kernel_rfl) a1 a2
    · exact line_law (k := 6) (by omega) (by kernel_rfl) (by kernel_rfl) a1 a2
end Go.Proofs.YtpafgegoieakoaaDoor.Ty
