/- TopoTells, as it is read: no memory in sight. -/
import Derived.Test.YtpafgegoieakoaaDoorSBase
import Derived.Test.YtpafgegoieakoaaDoorTyA
import Derived.Test.YtpafgegoieakoaaDoorVcS
import Derived.Test.YtpafgegoieakoaaDoorTyM
import Derived.Test.YtpafgegoieakoaaDoorTyS
import Derived.Test.YtpafgegoieakoaaDoorTyN
namespace Go.Proofs.YtpafgegoieakoaaDoor.Ty
open Go Go.RowKit Go.Proofs.YtpafgegoieakoaaDoor.Den
set_option linter.unusedSimpArgs false
set_option linter.unusedVariables false
set_option maxRecDepth 100000

section
variable {α β σ : Type}
/-- a loop comes to something that has Q -/
theorem goI_ex {step : Int → α → σ → (σ → Option β) → Option β} {fin : σ → Option β} {I : Int → List α → σ → Prop} {Q : β → Prop} (hfin : ∀ i s, I i [] s → ∃ v, fin s = some v ∧ Q v)
    (hstep : ∀ i x l s k, I i (x :: l) s → (∀ s', I (i + 1) l s' → ∃ v, k s' = some v ∧ Q v) → ∃ v, step i x s k = some v ∧ Q v) : ∀ (l : List α) (i : Int) (s : σ), I i l s → ∃ v, goI step fin i l s = some v ∧ Q v
  | [], i, s, h => hfin i s h
  | x :: l, i, s, h => hstep i x l s _ h fun s' h' => goI_ex hfin hstep l (i + 1) s' h'
theorem loopI_ex {step : Int → α → σ → (σ → Option β) → Option β} {fin : σ → Option β} (I : Int → List α → σ → Prop) {Q : β → Prop} {l : List α} {s : σ} (hl : (l.length : Int) ≤ 9223372036854775807) (h0 : I 0 l s) (hfin : ∀ i s, I i [] s → ∃ v, fin s = some v ∧ Q v)
    (hstep : ∀ i x l s k, I i (x :: l) s → (∀ s', I (i + 1) l s' → ∃ v, k s' = some v ∧ Q v) → ∃ v, step i x s k = some v ∧ Q v) : ∃ v, loopI l step fin s = some v ∧ Q v := by
  rw [loopI_eq hl]; exact goI_ex hfin hstep l 0 s h0
theorem goU_ex {step : Int → σ → (σ → Option β) → Option β} {fin : Int → σ → Option β} {I : Nat → Int → σ → Prop} {Q : β → Prop} (hfin : ∀ i s, I 0 i s → ∃ v, fin i s = some v ∧ Q v)
    (hstep : ∀ m i s k, I (m + 1) i s → (∀ s', I m (i + 1) s' → ∃ v, k s' = some v ∧ Q v) → ∃ v, step i s k = some v ∧ Q v) : ∀ (m : Nat) (i : Int) (s : σ), I m i s → ∃ v, goU step fin m i s = some v ∧ Q v
  | 0, i, s, h => hfin i s h
  | m + 1, i, s, h => hstep m i s _ h fun s' h' => goU_ex hfin hstep m (i + 1) s' h'
end

def spotOk (T : T_Topo) (s : T_Spot) : Prop := 1 ≤ s.Switch ∧ s.Switch ≤ T.Switches ∧ 1 ≤ s.Port ∧ s.Port ≤ 4
structure topoGood (T : T_Topo) : Prop where
  sw : 1 ≤ T.Switches ∧ T.Switches ≤ 6
  nl : T.Links.length ≤ 200
  nh : T.Hosts.length ≤ 8
  links : ∀ l ∈ T.Links, spotOk T l.A ∧ spotOk T l.B
  hosts : ∀ h ∈ T.Hosts, h.Name ≠ ByteArray.mk #[] ∧ spotOk T h.At
theorem s_Spot (T : T_Topo) (s : T_Spot) : ∃ b, t_topo_Spot T s = some b ∧ (b = true ↔ spotOk T s) :=
  ⟨_, rfl, by simp [spotOk, and_assoc]⟩
theorem s_Name (s : ByteArray) (hs : (s.size : Int) ≤ maxI) : ∃ b, t_topo_Name s = some b ∧ (b = true → s ≠ ByteArray.mk #[]) := by
  unfold t_topo_Name
  rw [need_pos (by simpa using hs), join_eq]
  refine loopI_ex (fun _ _ _ => True) (by rw [numsOf_len]; exact hs) trivial (fun i s' _ => ⟨_, rfl, fun h => ?_⟩) (fun i x l s' k _ hk => ?_)
  · simp only [Bool.and_eq_true, Bool.not_eq_true', decide_eq_false_iff_not] at h
    exact h.1
  · split
    · exact ⟨false, rfl, fun h => by cases h⟩
    · exact hk () trivial
theorem s_topoCheck (T : T_Topo) (hn : ∀ h ∈ T.Hosts, (h.Name.size : Int) ≤ maxI) : ∃ c, t_topo_Check T = some c ∧ (c = 0 → topoGood T) := by
  unfold t_topo_Check
  split
  · exact ⟨1, rfl, fun h => by cases h⟩
  · rename_i h1
    simp only [Bool.or_eq_true, decide_eq_true_eq, not_or, Int.not_lt] at h1
    split
    · exact ⟨4, rfl, fun h => by cases h⟩
    · rename_i h2
      simp only [Bool.or_eq_true, decide_eq_true_eq, not_or, Int.not_lt] at h2
      simp only [join_eq]
      refine loopI_ex (fun _ l _ => ∀ x ∈ T.Links, x ∈ l ∨ (spotOk T x.A ∧ spotOk T x.B)) (by omega) (fun x hx => .inl hx) (fun i s hI => ?_) (fun i x l s k hI hk => ?_)
      · refine loopI_ex (fun _ l _ => (∀ x ∈ l, x ∈ T.Hosts) ∧ ∀ x ∈ T.Hosts, x ∈ l ∨ (x.Name ≠ ByteArray.mk #[] ∧ spotOk T x.At)) (by omega) ⟨fun _ h => h, fun x hx => .inl hx⟩ (fun i s hJ => ?_) (fun i x l s k hJ hk => ?_)
        · refine ⟨0, rfl, fun _ => ⟨h1, by omega, by omega, fun l hl => (hI l hl).resolve_left (by simp), fun h hh => (hJ.2 h hh).resolve_left (by simp)⟩⟩
        · have hx := hJ.1 x (by simp)
          obtain ⟨b, e1, e2⟩ := s_Name x.Name (hn x hx)
          rw [e1]
          simp only [Option.bind_some]
          split
          · exact ⟨2, rfl, fun h => by cases h⟩
          · rename_i hb
            obtain ⟨b2, f1, f2⟩ := s_Spot T x.At
            rw [f1]
            simp only [Option.bind_some]
            split
            · exact ⟨1, rfl, fun h => by cases h⟩
            · rename_i hb2
              split
              · exact ⟨7, rfl, fun h => by cases h⟩
              · refine hk _ ⟨fun y hy => hJ.1 y (by simp [hy]), fun y hy => ?_⟩
                rcases hJ.2 y hy with h | h
                · rcases List.mem_cons.1 h with rfl | h
                  · exact .inr ⟨e2 (by simpa using hb), f2.1 (by simpa using hb2)⟩
                  · exact .inl h
                · exact .inr h
      · obtain ⟨b, e1, e2⟩ := s_Spot T x.A
        obtain ⟨b2, f1, f2⟩ := s_Spot T x.B
        rw [e1, f1]
        simp only [Option.bind_some]
        cases hb1 : b with
        | false => exact ⟨1, by simp [gd], fun h => by cases h⟩
        | true =>
          cases hb2 : b2 with
          | false => exact ⟨1, by simp [gd], fun h => by cases h⟩
          | true =>
            simp only [gd, Bool.not_true, Bool.not_false, if_true, Option.bind_some, Bool.or_self, Bool.false_eq_true, if_false]
            split
            · exact ⟨7, rfl, fun h => by cases h⟩
            · refine hk _ fun y hy => ?_
              rcases hI y hy with h | h
              · rcases List.mem_cons.1 h with rfl | h
                · exact .inr ⟨e2.1 hb1, f2.1 hb2⟩
                · exact .inl h
              · exact .inr h

theorem idx_some {α : Type} {l : List α} {i : Int} (h0 : 0 ≤ i) (h1 : i < l.length) : ∃ x, idx l i = some x ∧ x ∈ l ∧ l[i.toNat]? = some x := by
  have : i.toNat < l.length := by omega
  exact ⟨l[i.toNat], by simp [idx, h0, List.getElem?_eq_getElem this], List.getElem_mem this, List.getElem?_eq_getElem this⟩

section
variable {α β σ : Type}
/-- what each end of a loop has -/
theorem goI_post {step : Int → α → σ → (σ → Option β) → Option β} {fin : σ → Option β} {Q : β → Prop} (hfin : ∀ s v, fin s = some v → Q v)
    (hstep : ∀ i x s k, (∀ s' v, k s' = some v → Q v) → ∀ v, step i x s k = some v → Q v) : ∀ (l : List α) (i : Int) (s : σ) (v : β), goI step fin i l s = some v → Q v
  | [], i, s, v, h => hfin s v h
  | x :: l, i, s, v, h => hstep i x s _ (fun s' v' h' => goI_post hfin hstep l (i + 1) s' v' h') v h
theorem loopI_post {step : Int → α → σ → (σ → Option β) → Option β} {fin : σ → Option β} (Q : β → Prop) {l : List α} {s : σ} {v : β} (h : loopI l step fin s = some v) (hfin : ∀ s v, fin s = some v → Q v)
    (hstep : ∀ i x s k, (∀ s' v, k s' = some v → Q v) → ∀ v, step i x s k = some v → Q v) : Q v := by
  unfold loopI at h
  rw [need_some] at h
  exact goI_post hfin hstep l 0 s v h.2
end
section
variable {α β σ τ : Type}
/-- two loops that go alike -/
theorem goI_sim {step : Int → α → σ → (σ → Option β) → Option β} {step' : Int → α → τ → (τ → Option β) → Option β} {fin : σ → Option β} {fin' : τ → Option β} (I : Int → List α → σ → τ → Prop) (hfin : ∀ i s t, I i [] s t → fin s = fin' t)
    (hstep : ∀ i x l s t k k', I i (x :: l) s t → (∀ s' t', I (i + 1) l s' t' → k s' = k' t') → step i x s k = step' i x t k') : ∀ (l : List α) (i : Int) (s : σ) (t : τ), I i l s t → goI step fin i l s = goI step' fin' i l t
  | [], i, s, t, h => hfin i s t h
  | x :: l, i, s, t, h => hstep i x l s t _ _ h fun s' t' h' => goI_sim I hfin hstep l (i + 1) s' t' h'
theorem loopI_sim {step : Int → α → σ → (σ → Option β) → Option β} {step' : Int → α → τ → (τ → Option β) → Option β} {fin : σ → Option β} {fin' : τ → Option β} (I : Int → List α → σ → τ → Prop) {l : List α} {s : σ} {t : τ} (h0 : I 0 l s t) (hfin : ∀ i s t, I i [] s t → fin s = fin' t)
    (hstep : ∀ i x l s t k k', I i (x :: l) s t → (∀ s' t', I (i + 1) l s' t' → k s' = k' t') → step i x s k = step' i x t k') : loopI l step fin s = loopI l step' fin' t := by
  unfold loopI; rw [goI_sim I hfin hstep l 0 s t h0]
theorem loopI_any {step : Int → α → Unit → (Unit → Option β) → Option β} {f : Option β} (p : α → Bool) {r : β} {l : List α} (hl : (l.length : Int) ≤ maxI) (h : ∀ x i k, step i x () k = if p x = true then some r else k ()) : loopI l step (fun _ => f) () = if l.any p = true then some r else f := by
  rw [loopI_eq hl, goI_any (p := p) (r := r) l 0 fun x _ i k => h x i k]
theorem goU_any {l : List α} {p : α → Bool} {r : β} {step : Int → Unit → (Unit → Option β) → Option β} {f : Option β} (h : ∀ (j : Nat) x k, l[j]? = some x → step (j : Int) () k = if p x = true then some r else k ()) : ∀ (m i : Nat), i + m ≤ l.length → goU step (fun _ _ => f) m (i : Int) () = if ((l.drop i).take m).any p = true then some r else f
  | 0, i, _ => by simp [goU]
  | m + 1, i, hm => by
    have hi : i < l.length := by omega
    rw [goU, h i l[i] _ (List.getElem?_eq_getElem hi), List.drop_eq_getElem_cons hi, List.take_succ_cons, List.any_cons]
    have e : (i : Int) + 1 = ((i + 1 : Nat) : Int) := by omega
    rw [e, goU_any h m (i + 1) (by omega)]
    cases p l[i] <;> simp
theorem loopU_any {l : List α} (p : α → Bool) {r : β} {step : Int → Unit → (Unit → Option β) → Option β} {f : Option β} {i : Int} (h0 : 0 ≤ i) (h1 : i ≤ l.length) (h2 : i ≤ maxI) (h : ∀ (j : Nat) x k, l[j]? = some x → step (j : Int) () k = if p x = true then some r else k ()) : loopU 0 i step (fun _ _ => f) () = if (l.take i.toNat).any p = true then some r else f := by
  rw [loopU_eq (Int.le_refl 0) h2, Int.sub_zero]
  have := goU_any (f := f) h i.toNat 0 (by omega)
  simpa using this
end
section
variable {K α : Type} [DecidableEq K]
theorem mfind_off : ∀ (l : List (K × α)) (a : K) (i : Nat), mfind l a i = (mfind l a 0).map fun p => (p.1 + i, p.2)
  | [], _, _ => rfl
  | (b, u) :: r, a, i => by
    simp only [mfind]
    split
    · simp
    · rw [mfind_off r a (i + 1), mfind_off r a (0 + 1)]
      cases mfind r a 0 with
      | none => rfl
      | some p => simp; omega
theorem mget_cons (b : K) (u : α) (r : List (K × α)) (a : K) (d : α) : mget ((b, u) :: r) a d = if a = b then u else mget r a d := by
  unfold mget
  simp only [mfind]
  by_cases h : a = b
  · simp [h]
  · rw [if_neg h, if_neg h, mfind_off r a (0 + 1)]
    cases mfind r a 0 <;> rfl
theorem mput_cons (b : K) (u : α) (r : List (K × α)) (a : K) (v : α) : mput ((b, u) :: r) a v = if a = b then (a, v) :: r else (b, u) :: mput r a v := by
  unfold mput
  simp only [mfind]
  by_cases h : a = b
  · simp [h]
  · rw [if_neg h, if_neg h, mfind_off r a (0 + 1)]
    cases mfind r a 0 <;> simp
theorem mget_mput : ∀ (l : List (K × α)) (a : K) (v : α) (b : K) (d : α), mget (mput l a v) b d = if b = a then v else mget l b d
  | [], a, v, b, d => by
    show mget ([(a, v)]) b d = _
    rw [mget_cons]
  | (c, u) :: r, a, v, b, d => by
    rw [mput_cons]
    by_cases h : a = c
    · subst h
      rw [if_pos rfl, mget_cons, mget_cons]
      split <;> rfl
    · rw [if_neg h, mget_cons, mget_cons, mget_mput r a v b d]
      by_cases h2 : b = c
      · subst h2
        rw [if_pos rfl, if_neg (fun e => h e.symm), if_pos rfl]
      · rw [if_neg h2, if_neg h2]
omit [DecidableEq K] in
theorem any_two (p q : K → Bool) : ∀ l : List K, (l.any fun y => p y || q y) = (l.any p || l.any q)
  | [] => rfl
  | x :: l => by
    rw [List.any_cons, List.any_cons, List.any_cons, any_two p q l]
    cases p x <;> cases q x <;> cases l.any p <;> rfl
theorem any_is (l : List K) (a : K) : (l.any fun y => decide (y = a)) = decide (a ∈ l) := by
  rw [Bool.eq_iff_iff]
  simp
end


def spotsOf (l : List T_Link) : List T_Spot := l.flatMap fun x => [x.A, x.B]
theorem link_spots {T : T_Topo} (hn : ∀ h ∈ T.Hosts, (h.Name.size : Int) ≤ maxI) (hc : t_topo_Check T = some 0) : (spotsOf T.Links).Nodup := by
  have hM : maxI = 9223372036854775807 := rfl
  have key : ∃ c, t_topo_Check T = some c ∧ (c = 0 → (spotsOf T.Links).Nodup) := by
    unfold t_topo_Check
    split
    · exact ⟨1, rfl, fun h => by cases h⟩
    split
    · exact ⟨4, rfl, fun h => by cases h⟩
    rename_i h1 h2
    simp only [Bool.or_eq_true, decide_eq_true_eq, not_or, Int.not_lt] at h2
    simp only [join_eq]
    refine loopI_ex (fun _ l (s : List (T_Spot × Bool)) => ∃ pre : List T_Link, T.Links = pre ++ l ∧ (spotsOf pre).Nodup ∧ ∀ p : T_Spot, mget s p false = decide (p ∈ spotsOf pre)) (by omega) ⟨[], rfl, by simp [spotsOf], fun p => by simp [mget, mfind, spotsOf]⟩ (fun i s hI => ?_) (fun i x l s k hI hk => ?_)
    · obtain ⟨pre, h3, h4, _⟩ := hI
      rw [List.append_nil] at h3
      refine loopI_ex (fun _ l _ => ∀ x ∈ l, x ∈ T.Hosts) (by omega) (fun _ h => h) (fun i s hJ => ⟨0, rfl, fun _ => by rw [h3]; exact h4⟩) (fun i x l s k hJ hk => ?_)
      obtain ⟨b, e1, _⟩ := s_Name x.Name (hn x (hJ x (by simp)))
      obtain ⟨b2, e2, _⟩ := s_Spot T x.At
      rw [e1, e2]
      simp only [Option.bind_some]
      split
      · exact ⟨2, rfl, fun h => by cases h⟩
      split
      · exact ⟨1, rfl, fun h => by cases h⟩
      split
      · exact ⟨7, rfl, fun h => by cases h⟩
      · exact hk _ fun y hy => hJ y (by simp [hy])
    · obtain ⟨pre, h3, h4, h5⟩ := hI
      obtain ⟨b, e1, _⟩ := s_Spot T x.A
      obtain ⟨b2, e2, _⟩ := s_Spot T x.B
      rw [e1, e2]
      simp only [Option.bind_some]
      have hg : ∃ b3, gd (!!b) default (some b2) = some b3 := by cases b <;> exact ⟨_, rfl⟩
      obtain ⟨b3, hg⟩ := hg
      rw [hg]
      simp only [Option.bind_some]
      split
      · exact ⟨1, rfl, fun h => by cases h⟩
      split
      · exact ⟨7, rfl, fun h => by cases h⟩
      · rename_i hm
        simp only [h5, Bool.or_eq_true, decide_eq_true_eq, not_or] at hm
        obtain ⟨⟨m1, m2⟩, m3⟩ := hm
        have e : spotsOf (pre ++ [x]) = spotsOf pre ++ [x.A, x.B] := by simp [spotsOf]
        refine hk _ ⟨pre ++ [x], by rw [h3]; simp, ?_, fun p => ?_⟩
        · rw [e, List.nodup_append]
          refine ⟨h4, by simp [m3], fun a ha b hb he => ?_⟩
          subst he
          simp at hb
          rcases hb with rfl | rfl
          · exact m1 ha
          · exact m2 ha
        · rw [mget_mput, mget_mput, h5, e]
          by_cases p1 : p = x.B
          · simp [p1]
          · by_cases p2 : p = x.A
            · simp [p2]
            · simp [p1, p2]
  obtain ⟨c, e1, e2⟩ := key
  rw [hc] at e1
  exact e2 (Option.some.inj e1).symm
/-- at a spot there is one link -/
theorem spot_link {l : List T_Link} (h : (spotsOf l).Nodup) {i j : Nat} {x y : T_Link} {p : T_Spot} (hi : l[i]? = some x) (hj : l[j]? = some y) (hx : x.A = p ∨ x.B = p) (hy : y.A = p ∨ y.B = p) : i = j := by
  induction l generalizing i j with
  | nil => simp at hi
  | cons z l ih =>
    have e : spotsOf (z :: l) = [z.A, z.B] ++ spotsOf l := by simp [spotsOf]
    rw [e, List.nodup_append] at h
    have hin : ∀ {k : Nat} {w : T_Link}, l[k]? = some w → (w.A = p ∨ w.B = p) → p ∈ spotsOf l := fun {k w} hk hw => by
      refine List.mem_flatMap.2 ⟨w, List.mem_of_getElem? hk, ?_⟩
      rcases hw with e | e <;> simp [e]
    have hz : (z.A = p ∨ z.B = p) → p ∈ [z.A, z.B] := fun h => by rcases h with e | e <;> simp [e]
    cases i with
    | zero =>
      simp at hi
      subst hi
      cases j with
      | zero => rfl
      | succ j =>
        exact absurd rfl (h.2.2 p (hz hx) p (hin (by simpa using hj) hy))
    | succ i =>
      cases j with
      | zero =>
        simp at hj
        subst hj
        exact absurd rfl (h.2.2 p (hz hy) p (hin (by simpa using hi) hx))
      | succ j =>
        have := ih h.2.1 (i := i) (j := j) (by simpa using hi) (by simpa using hj)
        omega

/-- hosts have names of their own -/
theorem host_names {T : T_Topo} (hn : ∀ h ∈ T.Hosts, (h.Name.size : Int) ≤ maxI) (hc : t_topo_Check T = some 0) : (T.Hosts.map fun h => h.Name).Nodup := by
  have hM : maxI = 9223372036854775807 := rfl
  have key : ∃ c, t_topo_Check T = some c ∧ (c = 0 → (T.Hosts.map fun h => h.Name).Nodup) := by
    unfold t_topo_Check
    split
    · exact ⟨1, rfl, fun h => by cases h⟩
    split
    · exact ⟨4, rfl, fun h => by cases h⟩
    rename_i h1 h2
    simp only [Bool.or_eq_true, decide_eq_true_eq, not_or, Int.not_lt] at h2
    simp only [join_eq]
    refine loopI_ex (fun _ l _ => True) (by omega) trivial (fun i s hI => ?_) (fun i x l s k hI hk => ?_)
    · refine loopI_ex (fun _ l (s : List (T_Spot × Bool) × List (ByteArray × Bool)) => ∃ pre : List T_Host, T.Hosts = pre ++ l ∧ (pre.map fun h : T_Host => h.Name).Nodup ∧ ∀ nm : ByteArray, mget s.2 nm false = pre.any fun h : T_Host => decide (h.Name = nm)) (by omega) ⟨[], rfl, by simp, fun nm => by simp [mget, mfind]⟩ (fun i s hJ => ?_) (fun i x l s k hJ hk => ?_)
      · obtain ⟨pre, h3, h4, _⟩ := hJ
        exact ⟨0, rfl, fun _ => by rw [h3, List.append_nil]; exact h4⟩
      · obtain ⟨pre, h3, h4, h5⟩ := hJ
        obtain ⟨b, e1, _⟩ := s_Name x.Name (hn x (by rw [h3]; simp))
        obtain ⟨b2, e2, _⟩ := s_Spot T x.At
        rw [e1, e2]
        simp only [Option.bind_some]
        split
        · exact ⟨2, rfl, fun h => by cases h⟩
        split
        · exact ⟨1, rfl, fun h => by cases h⟩
        split
        · exact ⟨7, rfl, fun h => by cases h⟩
        · rename_i hm
          have hnx : ¬ x.Name ∈ pre.map fun h : T_Host => h.Name := fun h => hm (by
            obtain ⟨y, hy, hy2⟩ := List.mem_map.1 h
            rw [h5]
            simp only [Bool.or_eq_true, List.any_eq_true]
            exact .inl ⟨y, hy, decide_eq_true hy2⟩)
          refine hk _ ⟨pre ++ [x], by rw [h3]; simp, ?_, fun nm => ?_⟩
          · rw [List.map_append, List.nodup_append]
            exact ⟨h4, by simp, fun a ha b hb => by simp at hb; subst hb; exact fun e => hnx (by rw [← e]; exact ha)⟩
          · rw [mget_mput, h5]
            by_cases e : nm = x.Name
            · simp [e]
            · have e' : ¬ x.Name = nm := fun h => e h.symm
              simp [e, e']
    · obtain ⟨b, e1, _⟩ := s_Spot T x.A
      obtain ⟨b2, e2, _⟩ := s_Spot T x.B
      rw [e1, e2]
      simp only [Option.bind_some]
      have hg : ∃ b3, gd (!!b) default (some b2) = some b3 := by cases b <;> exact ⟨_, rfl⟩
      obtain ⟨b3, hg⟩ := hg
      rw [hg]
      simp only [Option.bind_some]
      split
      · exact ⟨1, rfl, fun h => by cases h⟩
      split
      · exact ⟨7, rfl, fun h => by cases h⟩
      · exact hk _ trivial
  obtain ⟨c, e1, e2⟩ := key
  rw [hc] at e1
  exact e2 (Option.some.inj e1).symm
theorem nodup_eq {α β : Type} {f : α → β} : ∀ {l : List α}, (l.map f).Nodup → ∀ x ∈ l, ∀ y ∈ l, f x = f y → x = y
  | [], _, x, hx, _, _, _ => by cases hx
  | a :: l, h, x, hx, y, hy, e => by
    rw [List.map_cons, List.nodup_cons] at h
    rcases List.mem_cons.1 hx with h1 | h1
    · rcases List.mem_cons.1 hy with h2 | h2
      · rw [h1, h2]
      · exact absurd (by rw [← h1, e]; exact List.mem_map_of_mem h2) h.1
    · rcases List.mem_cons.1 hy with h2 | h2
      · exact absurd (by rw [← h2, ← e]; exact List.mem_map_of_mem h1) h.1
      · exact nodup_eq h.2 x h1 y h2 e
/-- a spot is at one link or at one host -/
theorem host_spots {T : T_Topo} (hn : ∀ h ∈ T.Hosts, (h.Name.size : Int) ≤ maxI) (hc : t_topo_Check T = some 0) : (spotsOf T.Links ++ T.Hosts.map fun h => h.At).Nodup := by
  have hM : maxI = 9223372036854775807 := rfl
  have key : ∃ c, t_topo_Check T = some c ∧ (c = 0 → (spotsOf T.Links ++ T.Hosts.map fun h => h.At).Nodup) := by
    unfold t_topo_Check
    split
    · exact ⟨1, rfl, fun h => by cases h⟩
    split
    · exact ⟨4, rfl, fun h => by cases h⟩
    rename_i h1 h2
    simp only [Bool.or_eq_true, decide_eq_true_eq, not_or, Int.not_lt] at h2
    simp only [join_eq]
    refine loopI_ex (fun _ l (s : List (T_Spot × Bool)) => ∃ pre : List T_Link, T.Links = pre ++ l ∧ (spotsOf pre).Nodup ∧ ∀ p : T_Spot, mget s p false = decide (p ∈ spotsOf pre)) (by omega) ⟨[], rfl, by simp [spotsOf], fun p => by simp [mget, mfind, spotsOf]⟩ (fun i s hI => ?_) (fun i x l s k hI hk => ?_)
    · obtain ⟨pre, h3, h4, h5⟩ := hI
      rw [List.append_nil] at h3
      subst h3
      refine loopI_ex (fun _ l (s : List (T_Spot × Bool) × List (ByteArray × Bool)) => ∃ pre : List T_Host, T.Hosts = pre ++ l ∧ (spotsOf T.Links ++ pre.map fun h : T_Host => h.At).Nodup ∧ ∀ p : T_Spot, mget s.1 p false = decide (p ∈ spotsOf T.Links ++ pre.map fun h : T_Host => h.At)) (by omega) ⟨[], rfl, by simpa using h4, fun p => by simp only [List.map_nil, List.append_nil]; exact h5 p⟩ (fun i s hJ => ?_) (fun i x l s k hJ hk => ?_)
      · obtain ⟨pre, h3, h4, _⟩ := hJ
        exact ⟨0, rfl, fun _ => by rw [List.append_nil] at h3; rw [h3]; exact h4⟩
      · obtain ⟨pre, h3, h4, h6⟩ := hJ
        obtain ⟨b, e1, _⟩ := s_Name x.Name (hn x (by rw [h3]; simp))
        obtain ⟨b2, e2, _⟩ := s_Spot T x.At
        rw [e1, e2]
        simp only [Option.bind_some]
        split
        · exact ⟨2, rfl, fun h => by cases h⟩
        split
        · exact ⟨1, rfl, fun h => by cases h⟩
        split
        · exact ⟨7, rfl, fun h => by cases h⟩
        · rename_i hm
          have hnx : ¬ x.At ∈ spotsOf T.Links ++ pre.map fun h : T_Host => h.At := fun h => hm (by
            rw [h6]
            simp only [Bool.or_eq_true]
            exact .inr (decide_eq_true h))
          have e9 : (spotsOf T.Links ++ (pre ++ [x]).map fun h : T_Host => h.At) = (spotsOf T.Links ++ pre.map fun h : T_Host => h.At) ++ [x.At] := by simp
          refine hk _ ⟨pre ++ [x], by rw [h3]; simp, ?_, fun p => ?_⟩
          · rw [e9, List.nodup_append]
            exact ⟨h4, by simp, fun a ha b hb => by simp at hb; subst hb; exact fun e => hnx (by rw [← e]; exact ha)⟩
          · show mget (mput s.1 x.At true) p false = _
            rw [mget_mput, h6, e9]
            by_cases e : p = x.At
            · simp [e]
            · rw [if_neg e, decide_eq_decide, List.mem_append (t := [x.At])]
              simp [e]
    · obtain ⟨pre, h3, h4, h5⟩ := hI
      obtain ⟨b, e1, _⟩ := s_Spot T x.A
      obtain ⟨b2, e2, _⟩ := s_Spot T x.B
      rw [e1, e2]
      simp only [Option.bind_some]
      have hg : ∃ b3, gd (!!b) default (some b2) = some b3 := by cases b <;> exact ⟨_, rfl⟩
      obtain ⟨b3, hg⟩ := hg
      rw [hg]
      simp only [Option.bind_some]
      split
      · exact ⟨1, rfl, fun h => by cases h⟩
      split
      · exact ⟨7, rfl, fun h => by cases h⟩
      · rename_i hm
        simp only [h5, Bool.or_eq_true, decide_eq_true_eq, not_or] at hm
        obtain ⟨⟨m1, m2⟩, m3⟩ := hm
        have e : spotsOf (pre ++ [x]) = spotsOf pre ++ [x.A, x.B] := by simp [spotsOf]
        refine hk _ ⟨pre ++ [x], by rw [h3]; simp, ?_, fun p => ?_⟩
        · rw [e, List.nodup_append]
          refine ⟨h4, by simp [m3], fun a ha b hb he => ?_⟩
          subst he
          simp at hb
          rcases hb with rfl | rfl
          · exact m1 ha
          · exact m2 ha
        · rw [mget_mput, mget_mput, h5, e]
          by_cases p1 : p = x.B
          · simp [p1]
          · by_cases p2 : p = x.A
            · simp [p2]
            · simp [p1, p2]
  obtain ⟨c, e1, e2⟩ := key
  rw [hc] at e1
  exact e2 (Option.some.inj e1).symm
theorem compact_mem {zs : List Int} {x : Int} : x ∈ Lib.compact zs ↔ x ∈ zs := by
  unfold Lib.compact Lib.compactUpTo
  rw [List.mem_map]
  constructor
  · rintro ⟨j, hj, rfl⟩
    have hj := List.mem_range.1 (List.mem_filter.1 hj).1
    rw [getElem!_pos zs.toArray j (by simpa using hj)]
    simp
  · intro hx
    obtain ⟨j, hj, rfl⟩ := List.getElem_of_mem hx
    have : ∀ j (hj : j < zs.length), ∃ i, i ∈ (List.range zs.length).filter (Lib.keeps zs.toArray) ∧ zs.toArray[i]! = zs[j] := by
      intro j
      induction j with
      | zero =>
        intro hj
        refine ⟨0, List.mem_filter.2 ⟨List.mem_range.2 hj, by simp [Lib.keeps]⟩, ?_⟩
        rw [getElem!_pos zs.toArray 0 (by simpa using hj)]; simp
      | succ j ih =>
        intro hj
        by_cases h : zs.toArray[j + 1]! = zs.toArray[j]!
        · obtain ⟨i, h1, h2⟩ := ih (by omega)
          refine ⟨i, h1, ?_⟩
          rw [getElem!_pos zs.toArray (j + 1) (by simpa using hj), getElem!_pos zs.toArray j (by simp; omega)] at h
          simp at h
          rw [h2, h]
        · refine ⟨j + 1, List.mem_filter.2 ⟨List.mem_range.2 hj, Lib.keeps_pos h⟩, ?_⟩
          rw [getElem!_pos zs.toArray (j + 1) (by simpa using hj)]; simp
    exact this j hj
theorem compact_strict {zs : List Int} (h : zs.Pairwise (· ≤ ·)) : (Lib.compact zs).Pairwise (· < ·) := by
  unfold Lib.compact Lib.compactUpTo
  rw [List.pairwise_map]
  have h1 : ((List.range zs.length).filter (Lib.keeps zs.toArray)).Pairwise (· < ·) := List.Pairwise.filter _ List.pairwise_lt_range
  refine List.Pairwise.imp_of_mem ?_ h1
  intro i j hi hj hij
  obtain ⟨hi, _⟩ := List.mem_filter.1 hi
  obtain ⟨hj, hk⟩ := List.mem_filter.1 hj
  have hi := List.mem_range.1 hi
  have hj := List.mem_range.1 hj
  have hmono : ∀ (i j : Nat) (hi : i < zs.length) (hj : j < zs.length), i < j → zs[i] ≤ zs[j] := fun i j hi hj hij => List.pairwise_iff_getElem.1 h i j hi hj hij
  have hne : zs.toArray[j]! ≠ zs.toArray[j - 1]! := by
    unfold Lib.keeps at hk
    simp only [decide_eq_true_eq] at hk
    exact hk.resolve_left (by omega)
  rw [getElem!_pos zs.toArray j (by simpa using hj), getElem!_pos zs.toArray (j - 1) (by simp; omega)] at hne
  rw [getElem!_pos zs.toArray j (by simpa using hj), getElem!_pos zs.toArray i (by simpa using hi)]
  simp only [List.getElem_toArray] at hne ⊢
  have h2 := hmono (j - 1) j (by omega) hj (by omega)
  have h3 : zs[i] ≤ zs[j - 1] := by
    by_cases e : i = j - 1
    · subst e; exact Int.le_refl _
    · exact hmono i (j - 1) hi (by omega) (by omega)
  omega
theorem strict_eq : ∀ {l m : List Int}, l.Pairwise (· < ·) → m.Pairwise (· < ·) → (∀ x, x ∈ l ↔ x ∈ m) → l = m
  | [], [], _, _, _ => rfl
  | [], y :: m, _, _, h => absurd ((h y).2 (by simp)) (by simp)
  | x :: l, [], _, _, h => absurd ((h x).1 (by simp)) (by simp)
  | x :: l, y :: m, hl, hm, h => by
    obtain ⟨h1, h2⟩ := List.pairwise_cons.1 hl
    obtain ⟨h3, h4⟩ := List.pairwise_cons.1 hm
    have e : x = y := by
      have hx := (h x).1 (by simp)
      have hy := (h y).2 (by simp)
      rcases List.mem_cons.1 hx with e | hx
      · exact e
      · rcases List.mem_cons.1 hy with e | hy
        · exact e.symm
        · have := h3 x hx
          have := h1 y hy
          omega
    subst e
    rw [strict_eq h2 h4 fun z => ?_]
    constructor
    · intro hz
      rcases List.mem_cons.1 ((h z).1 (by simp [hz])) with e | hz'
      · have := h1 z hz; omega
      · exact hz'
    · intro hz
      rcases List.mem_cons.1 ((h z).2 (by simp [hz])) with e | hz'
      · have := h3 z hz; omega
      · exact hz'
theorem sorted_le (l : List Int) : (l.mergeSort fun x y => decide (x ≤ y)).Pairwise (· ≤ ·) := by
  have := List.pairwise_mergeSort (le := fun x y : Int => decide (x ≤ y)) (fun a b c h1 h2 => by simp at h1 h2 ⊢; omega) (fun a b => by simp; omega) l
  exact this.imp fun h => by simpa using h
/-- sorted, one of each -/
def setOf (l : List Int) : List Int := Lib.compact (l.mergeSort fun x y => decide (x ≤ y))
theorem setOf_strict (l : List Int) : (setOf l).Pairwise (· < ·) := compact_strict (sorted_le l)
theorem setOf_mem {l : List Int} {x : Int} : x ∈ setOf l ↔ x ∈ l := by
  unfold setOf
  rw [compact_mem, List.mem_mergeSort]
theorem setOf_len (l : List Int) : (setOf l).length ≤ l.length := by
  unfold setOf
  have := compact_len (l.mergeSort fun x y => decide (x ≤ y))
  rw [List.length_mergeSort] at this
  exact this
theorem s_set (l : List Int) (h : l.length ≤ 4294967296) : ((sortI l).bind fun r => (compactI r).bind fun q => some q) = some (setOf l) := by
  unfold sortI
  rw [if_pos h, Option.bind_some]
  unfold compactI
  rw [if_pos (by rw [List.length_mergeSort]; exact h)]
  rfl

section
variable {α β σ : Type}
theorem loopI_at {l : List α} {step : Int → α → σ → (σ → Option β) → Option β} {fin : σ → Option β} {s : σ} (S : Nat → σ) (h0 : s = S 0) (hl : (l.length : Int) ≤ maxI) (h : ∀ (p : Nat) x k, l[p]? = some x → step (p : Int) x (S p) k = k (S (p + 1))) : loopI l step fin s = fin (S l.length) := by
  rw [loopI_eq hl]
  have : ∀ (m : List α) (p : Nat), l.drop p = m → p ≤ l.length → goI step fin (p : Int) m (S p) = fin (S l.length) := by
    intro m
    induction m with
    | nil =>
      intro p hp hpl
      have : p = l.length := by have := List.drop_eq_nil_iff.1 hp; omega
      rw [goI, this]
    | cons x m ih =>
      intro p hp hpl
      have hx : l[p]? = some x := by rw [← List.head?_drop, hp]; rfl
      have hlt := (List.getElem?_eq_some_iff.1 hx).1
      rw [goI, h p x _ hx]
      have e : (p : Int) + 1 = ((p + 1 : Nat) : Int) := by omega
      rw [e]
      exact ih (p + 1) (by rw [← List.tail_drop, hp]; rfl) (by omega)
  rw [h0]
  exact this l 0 rfl (Nat.zero_le _)
theorem loopU_at {lo hi : Nat} {step : Int → σ → (σ → Option β) → Option β} {fin : Int → σ → Option β} {s : σ} (S : Nat → σ) (h0 : s = S lo) (hl : (hi : Int) ≤ maxI) (hle : lo ≤ hi) (h : ∀ (p : Nat) k, lo ≤ p → p < hi → step (p : Int) (S p) k = k (S (p + 1))) : loopU (lo : Int) (hi : Int) step fin s = fin (hi : Int) (S hi) := by
  rw [loopU_eq (by omega) hl]
  have : ∀ (m p : Nat), lo ≤ p → p + m = hi → goU step fin m (p : Int) (S p) = fin (hi : Int) (S hi) := by
    intro m
    induction m with
    | zero => intro p hp hm; have : p = hi := by omega
              subst this; rfl
    | succ m ih =>
      intro p hp hm
      rw [goU, h p _ hp (by omega)]
      have e : (p : Int) + 1 = ((p + 1 : Nat) : Int) := by omega
      rw [e]
      exact ih (p + 1) (by omega) (by omega)
  rw [h0, show ((hi : Int) - (lo : Int)).toNat = hi - lo by omega]
  exact this (hi - lo) lo (Nat.le_refl _) (by omega)
end
theorem oapp_one {α : Type} {l : List α} {x : α} (h : l.length ≤ 4294967295) : oapp l [x] = some (l ++ [x]) := if_pos ⟨by simp, by simp; omega⟩
/-! who is near -/
def end1 (a : Int) (l : T_Link) : List Int := (if l.A.Switch = a then [l.B.Switch] else []) ++ (if l.B.Switch = a then [l.A.Switch] else [])
def endsV (T : T_Topo) (a : Int) : List Int := T.Links.flatMap (end1 a)
def nearV (T : T_Topo) (a : Int) : List Int := setOf (endsV T a)
def adj (T : T_Topo) (a b : Int) : Prop := ∃ l ∈ T.Links, (l.A.Switch = a ∧ l.B.Switch = b) ∨ (l.B.Switch = a ∧ l.A.Switch = b)
theorem adj_symm {T : T_Topo} {a b : Int} (h : adj T a b) : adj T b a := by
  obtain ⟨l, hl, h⟩ := h
  exact ⟨l, hl, h.symm.imp (fun h => ⟨h.2, h.1⟩) fun h => ⟨h.2, h.1⟩⟩
theorem near_mem {T : T_Topo} {a b : Int} : b ∈ nearV T a ↔ adj T a b := by
  unfold nearV endsV
  rw [setOf_mem, List.mem_flatMap]
  constructor
  · rintro ⟨l, hl, h⟩
    refine ⟨l, hl, ?_⟩
    unfold end1 at h
    rcases List.mem_append.1 h with h | h
    · split at h
      · rename_i e; simp at h; exact .inl ⟨e, h.symm⟩
      · simp at h
    · split at h
      · rename_i e; simp at h; exact .inr ⟨e, h.symm⟩
      · simp at h
  · rintro ⟨l, hl, h⟩
    refine ⟨l, hl, ?_⟩
    unfold end1
    rcases h with ⟨h1, h2⟩ | ⟨h1, h2⟩
    · rw [if_pos h1]; simp [h2]
    · rw [if_pos h1, h2]; simp
theorem end1_len (a : Int) (l : T_Link) : (end1 a l).length ≤ 2 := by
  unfold end1
  split <;> split <;> simp
theorem ends_len (a : Int) (L : List T_Link) : (L.flatMap (end1 a)).length ≤ 2 * L.length := by
  induction L with
  | nil => simp
  | cons x L ih =>
    have := end1_len a x
    rw [List.flatMap_cons, List.length_append, List.length_cons]; omega
theorem s_near {T : T_Topo} (hT : T.Links.length ≤ 200) (a : Int) : t_topo_near T a = some (nearV T a) := by
  have hM : maxI = 9223372036854775807 := rfl
  unfold t_topo_near
  rw [loopI_at (l := T.Links) (s := ([] : List Int)) (S := fun p => (T.Links.take p).flatMap (end1 a)) rfl (by omega) fun p x k hp => ?_]
  · rw [List.take_length, Option.bind_some]
    exact s_set _ (by have := ends_len a T.Links; omega)
  · have hpl := (List.getElem?_eq_some_iff.1 hp).1
    have hlen := ends_len a (T.Links.take p)
    rw [List.length_take] at hlen
    have e : (T.Links.take (p + 1)).flatMap (end1 a) = (T.Links.take p).flatMap (end1 a) ++ end1 a x := by
      rw [List.take_add_one, hp, List.flatMap_append]; simp
    rw [e]
    generalize (T.Links.take p).flatMap (end1 a) = s at hlen
    unfold end1
    by_cases h1 : x.A.Switch = a
    · rw [if_pos (decide_eq_true h1), oapp_one (by omega), Option.bind_some, Option.bind_some, if_pos h1]
      by_cases h2 : x.B.Switch = a
      · rw [if_pos (decide_eq_true h2), oapp_one (by simp; omega), Option.bind_some, Option.bind_some, if_pos h2, List.append_assoc]
      · rw [if_neg (by simpa using h2), Option.bind_some, if_neg h2, List.append_nil]
    · rw [if_neg (by simpa using h1), Option.bind_some, if_neg h1, List.nil_append]
      by_cases h2 : x.B.Switch = a
      · rw [if_pos (decide_eq_true h2), oapp_one (by omega), Option.bind_some, Option.bind_some, if_pos h2]
      · rw [if_neg (by simpa using h2), Option.bind_some, if_neg h2, List.append_nil]
/-! ways -/
def inr (T : T_Topo) (b : Int) : Prop := 1 ≤ b ∧ b ≤ T.Switches
theorem adj_inr {T : T_Topo} (hT : topoGood T) {a b : Int} (h : adj T a b) : inr T a ∧ inr T b := by
  obtain ⟨l, hl, h⟩ := h
  obtain ⟨⟨h1, h2, _⟩, h3, h4, _⟩ := hT.links l hl
  rcases h with ⟨rfl, rfl⟩ | ⟨rfl, rfl⟩
  · exact ⟨⟨h1, h2⟩, h3, h4⟩
  · exact ⟨⟨h3, h4⟩, h1, h2⟩
/-- a way of n links -/
def wk (T : T_Topo) : Nat → Int → Int → Prop
  | 0, a, b => b = a
  | n + 1, a, b => ∃ k, wk T n a k ∧ adj T k b
theorem wk_snoc {T : T_Topo} {n : Nat} {a k b : Int} (h : wk T n a k) (h2 : adj T k b) : wk T (n + 1) a b := ⟨k, h, h2⟩
theorem wk_cons {T : T_Topo} : ∀ {n : Nat} {a k b : Int}, adj T a k → wk T n k b → wk T (n + 1) a b
  | 0, a, k, b, h, h2 => by cases h2; exact ⟨a, rfl, h⟩
  | n + 1, a, k, b, h, h2 => by
    obtain ⟨c, h3, h4⟩ := h2
    exact ⟨c, wk_cons h h3, h4⟩
theorem wk_symm {T : T_Topo} : ∀ {n : Nat} {a b : Int}, wk T n a b → wk T n b a
  | 0, a, b, h => h.symm
  | n + 1, a, b, h => by
    obtain ⟨c, h3, h4⟩ := h
    exact wk_cons (adj_symm h4) (wk_symm h3)
theorem wk_trans {T : T_Topo} {n : Nat} {a b : Int} (h : wk T n a b) : ∀ {m : Nat} {c : Int}, wk T m b c → wk T (n + m) a c
  | 0, c, h2 => by cases h2; exact h
  | m + 1, c, h2 => by
    obtain ⟨k, h3, h4⟩ := h2
    exact ⟨k, wk_trans h h3, h4⟩
theorem wk_inr {T : T_Topo} (hT : topoGood T) : ∀ {n : Nat} {a b : Int}, inr T a → wk T n a b → inr T b
  | 0, a, b, ha, h => by cases h; exact ha
  | n + 1, a, b, ha, h => by
    obtain ⟨k, h3, h4⟩ := h
    exact (adj_inr hT h4).2
/-! the search -/
def fv (far : List Int) (b : Int) : Int := far.getD b.toNat (-1)
theorem fv_set {far : List Int} {k v b : Int} (hk : 0 ≤ k) (hk2 : k < far.length) (hb : 0 ≤ b) : fv (far.set k.toNat v) b = if b = k then v else fv far b := by
  unfold fv
  rw [List.getD, List.getElem?_set]
  by_cases e : b = k
  · subst e
    rw [if_pos rfl, if_pos rfl, if_pos (by omega)]; rfl
  · rw [if_neg e, if_neg (by omega)]; rfl
theorem fv_idx {far : List Int} {b : Int} (h0 : 0 ≤ b) (h1 : b < far.length) : idx far b = some (fv far b) := by
  unfold fv idx
  rw [if_pos h0, List.getD, List.getElem?_eq_getElem (by omega)]; rfl
def unv (far : List Int) : Nat := (far.drop 1).countP fun x => decide (x < 0)
theorem unv_set {far : List Int} {k v : Int} (hk : 1 ≤ k) (hk2 : k < far.length) (h : fv far k < 0) (hv : 0 ≤ v) : unv (far.set k.toNat v) + 1 = unv far := by
  obtain ⟨j, rfl⟩ : ∃ j : Nat, k = ((j + 1 : Nat) : Int) := ⟨(k - 1).toNat, by omega⟩
  unfold unv
  unfold fv at h
  simp only [Int.toNat_natCast] at h ⊢
  cases far with
  | nil => simp at hk2; omega
  | cons x far =>
    simp only [List.set_cons_succ, List.drop_succ_cons, List.drop_zero, List.getD_cons_succ] at h ⊢
    have hj : j < far.length := by simp at hk2; omega
    have : ∀ (l : List Int) (j : Nat), j < l.length → l.getD j (-1) < 0 → (l.set j v).countP (fun x => decide (x < 0)) + 1 = l.countP fun x => decide (x < 0) := by
      intro l
      induction l with
      | nil => intro j hj; simp at hj
      | cons y l ih =>
        intro j hj h
        cases j with
        | zero =>
          simp only [List.getD_cons_zero] at h
          have hv' : ¬ v < 0 := by omega
          simp [h, hv']
        | succ j =>
          simp only [List.getD_cons_succ] at h
          have := ih j (by simpa using hj) h
          simp only [List.set_cons_succ, List.countP_cons]
          omega
    exact this far j hj h
structure BfsI (T : T_Topo) (a x : Int) (P : List Int) (M : Nat) (far q : List Int) : Prop where
  len : (far.length : Int) = T.Switches + 1
  hd : ∃ r, q = x :: r
  qin : ∀ y ∈ q, inr T y ∧ 0 ≤ fv far y
  low : ∀ b, inr T b → -1 ≤ fv far b
  start : fv far a = 0
  zero : ∀ b, inr T b → fv far b = 0 → b = a
  pred : ∀ b, inr T b → 0 < fv far b → ∃ k, inr T k ∧ fv far k = fv far b - 1 ∧ adj T k b
  mono : q.Pairwise fun y z => fv far y ≤ fv far z
  top : ∀ b, inr T b → fv far b ≤ fv far x + 1
  done : ∀ b, inr T b → 0 ≤ fv far b → b ∉ q → ∀ k, adj T b k → 0 ≤ fv far k ∧ fv far k ≤ fv far b + 1
  seen : ∀ k ∈ P, 0 ≤ fv far k
  meas : q.length + unv far = M
  bnd : fv far x + M ≤ T.Switches
structure Fin2 (T : T_Topo) (a : Int) (far : List Int) : Prop where
  len : (far.length : Int) = T.Switches + 1
  low : ∀ b, inr T b → -1 ≤ fv far b
  start : fv far a = 0
  zero : ∀ b, inr T b → fv far b = 0 → b = a
  pred : ∀ b, inr T b → 0 < fv far b → ∃ k, inr T k ∧ fv far k = fv far b - 1 ∧ adj T k b
  done : ∀ b, inr T b → 0 ≤ fv far b → ∀ k, adj T b k → 0 ≤ fv far k ∧ fv far k ≤ fv far b + 1
  ub : ∀ b, inr T b → fv far b ≤ T.Switches
/-- one more is seen -/
theorem bfs_step {T : T_Topo} (hT : topoGood T) {a x : Int} (ha : inr T a) {P : List Int} {M : Nat} {far q : List Int} (h : BfsI T a x P M far q) {k : Int} (hk : adj T x k) :
    BfsI T a x (P ++ [k]) M (if fv far k < 0 then far.set k.toNat (fv far x + 1) else far) (if fv far k < 0 then q ++ [k] else q) := by
  have hki := (adj_inr hT hk).2
  have hxq : inr T x ∧ 0 ≤ fv far x := by
    obtain ⟨r, hr⟩ := h.hd
    exact h.qin x (by rw [hr]; simp)
  have hlen := h.len
  obtain ⟨hk1, hk2⟩ := hki
  by_cases hneg : fv far k < 0
  · rw [if_pos hneg, if_pos hneg]
    have hset : ∀ b, inr T b → fv (far.set k.toNat (fv far x + 1)) b = if b = k then fv far x + 1 else fv far b := fun b hb => fv_set (by omega) (by omega) (by have := hb.1; omega)
    have hkeep : ∀ b, inr T b → 0 ≤ fv far b → fv (far.set k.toNat (fv far x + 1)) b = fv far b := fun b hb h0 => by
      rw [hset b hb, if_neg]
      intro e; subst e; omega
    have hx' := hkeep x hxq.1 hxq.2
    have hpos : 0 ≤ fv far x + 1 := by omega
    have hkv : fv (far.set k.toNat (fv far x + 1)) k = fv far x + 1 := by rw [hset k ⟨hk1, hk2⟩, if_pos rfl]
    have hkq : k ∉ q := fun hm => by have := (h.qin k hm).2; omega
    have hu := unv_set (v := fv far x + 1) hk1 (by omega) hneg hpos
    have hmeas := h.meas
    refine ⟨by rw [List.length_set]; exact hlen, ?_, fun y hy => ?_, fun b hb => ?_, ?_, fun b hb h0 => ?_, fun b hb h0 => ?_, ?_, fun b hb => ?_, fun b hb h0 hq k' hk' => ?_, fun k' hk' => ?_, ?_, ?_⟩
    · obtain ⟨r, hr⟩ := h.hd
      exact ⟨r ++ [k], by rw [hr]; rfl⟩
    · rcases List.mem_append.1 hy with hy | hy
      · obtain ⟨h1, h2⟩ := h.qin y hy
        exact ⟨h1, by rw [hkeep y h1 h2]; exact h2⟩
      · simp at hy; subst hy
        exact ⟨⟨hk1, hk2⟩, by rw [hkv]; exact hpos⟩
    · rw [hset b hb]
      split
      · omega
      · exact h.low b hb
    · rw [hkeep a ha (by rw [h.start]; omega)]; exact h.start
    · rw [hset b hb] at h0
      split at h0
      · omega
      · exact h.zero b hb h0
    · rw [hset b hb] at h0 ⊢
      split
      · rename_i e
        subst e
        exact ⟨x, hxq.1, by rw [hx']; omega, hk⟩
      · rename_i e
        rw [if_neg e] at h0
        obtain ⟨k', q1, q2, q3⟩ := h.pred b hb h0
        exact ⟨k', q1, by rw [hkeep k' q1 (by omega)]; exact q2, q3⟩
    · rw [List.pairwise_append]
      refine ⟨h.mono.imp_of_mem fun {y z} hy hz hyz => ?_, by simp, fun y hy z hz => ?_⟩
      · obtain ⟨h1, h2⟩ := h.qin y hy
        obtain ⟨h3, h4⟩ := h.qin z hz
        rw [hkeep y h1 h2, hkeep z h3 h4]; exact hyz
      · simp at hz; subst hz
        obtain ⟨h1, h2⟩ := h.qin y hy
        rw [hkeep y h1 h2, hkv]; exact h.top y h1
    · rw [hx', hset b hb]
      split
      · omega
      · exact h.top b hb
    · have hbq : b ∉ q ∧ b ≠ k := by simpa using hq
      rw [hset b hb, if_neg hbq.2] at h0
      obtain ⟨q1, q2⟩ := h.done b hb h0 hbq.1 k' hk'
      have hk'i := (adj_inr hT hk').2
      rw [hkeep b hb h0, hkeep k' hk'i q1]
      exact ⟨q1, q2⟩
    · rcases List.mem_append.1 hk' with hk' | hk'
      · have h1 := h.seen k' hk'
        unfold fv at h1 ⊢
        rw [List.getD, List.getElem?_set]
        split
        · split
          · exact hpos
          · rename_i e _; omega
        · exact h1
      · simp at hk'; subst hk'
        rw [hkv]; exact hpos
    · rw [List.length_append, List.length_singleton]; omega
    · rw [hx']; exact h.bnd
  · rw [if_neg hneg, if_neg hneg]
    refine { h with seen := fun k' hk' => ?_ }
    rcases List.mem_append.1 hk' with hk' | hk'
    · exact h.seen k' hk'
    · simp at hk'; subst hk'; omega
/-- the loop over those that are near -/
theorem bfs_inner {T : T_Topo} (hT : topoGood T) {a x : Int} (ha : inr T a) {M : Nat} {β : Type} {fin : List Int × List Int → Option β} (hM : M ≤ 1000) :
    ∀ (L P : List Int) (i : Int) (far q : List Int), (∀ k ∈ L, adj T x k) → BfsI T a x P M far q → ∃ far' q', BfsI T a x (P ++ L) M far' q' ∧
    goI (fun (i59 : Int) x60 (s55 : ((List Int) × (List Int))) k56 =>
       need (decide (0 ≤ x60) && decide (x60 < (List.length s55.1 : Int))) (
       (idx s55.1 x60).bind fun r70 =>
       (if (decide (r70 < 0)) = true then (
       (idx s55.2 0).bind fun r80 =>
       need (decide (0 ≤ r80) && decide (r80 < (List.length s55.1 : Int))) (
       (idx s55.1 r80).bind fun r85 =>
       need (decide (0 ≤ x60) && decide (x60 < (List.length s55.1 : Int))) (
       (oset s55.1 x60 (wr (r85 + 1))).bind fun r91 =>
       (app s55.2 ([x60] : (List Int))).bind fun r94 =>
       some (r91, r94)))) else (
       some (s55.1, s55.2))).bind fun (s74 : ((List Int) × (List Int))) =>
       k56 (s74.1, s74.2))) fin i L (far, q) = fin (far', q')
  | [], P, i, far, q, _, h => ⟨far, q, by rw [List.append_nil]; exact h, rfl⟩
  | k :: L, P, i, far, q, hL, h => by
    have hk := hL k (by simp)
    have hki := (adj_inr hT hk).2
    obtain ⟨hk1, hk2⟩ := hki
    have hsw := hT.sw
    have hlen := h.len
    have hxq : inr T x ∧ 0 ≤ fv far x := by
      obtain ⟨r, hr⟩ := h.hd
      exact h.qin x (by rw [hr]; simp)
    obtain ⟨hx1, hx2⟩ := hxq.1
    have hx3 := hxq.2
    have hb := h.bnd
    obtain ⟨far', q', h1, h2⟩ := bfs_inner hT ha (β := β) (fin := fin) hM L (P ++ [k]) (i + 1) _ _ (fun k' hk' => hL k' (by simp [hk'])) (bfs_step hT ha h hk)
    refine ⟨far', q', by rw [List.append_assoc] at h1; exact h1, ?_⟩
    rw [goI]
    dsimp only
    rw [need_pos (by simp; omega), fv_idx (by omega) (by omega), Option.bind_some]
    have hqlen : q.length ≤ 1000 := by have := h.meas; omega
    by_cases hneg : fv far k < 0
    · rw [if_pos hneg, if_pos hneg] at h2
      obtain ⟨r, hr⟩ := h.hd
      have h0 : idx q 0 = some x := by rw [hr]; rfl
      rw [if_pos (decide_eq_true hneg), h0, Option.bind_some, need_pos (by simp; omega), fv_idx (by omega) (by omega), Option.bind_some, need_pos (by simp; omega)]
      have ho : oset far k (wr (fv far x + 1)) = some (far.set k.toNat (fv far x + 1)) := by
        rw [wr_id (by omega) (by omega)]
        exact if_pos ⟨by omega, by omega⟩
      rw [ho, Option.bind_some, app_eq (by simp; omega), Option.bind_some, Option.bind_some]
      exact h2
    · rw [if_neg hneg, if_neg hneg] at h2
      rw [if_neg (by simpa using hneg), Option.bind_some]
      exact h2
theorem bfs_pop {T : T_Topo} (hT : topoGood T) {a x : Int} {M : Nat} {far r : List Int} (h : BfsI T a x (nearV T x) M far (x :: r)) : (r = [] ∧ Fin2 T a far) ∨ ∃ y r', r = y :: r' ∧ BfsI T a y [] (M - 1) far r := by
  have hsw := hT.sw
  have hxq := h.qin x (by simp)
  have hM : 1 ≤ M := by have := h.meas; simp at this; omega
  have hb := h.bnd
  have hmeas := h.meas
  have hdone : ∀ b, inr T b → 0 ≤ fv far b → b ∉ r → ∀ k, adj T b k → 0 ≤ fv far k ∧ fv far k ≤ fv far b + 1 := fun b hb h0 hbr k hk => by
    by_cases e : b = x
    · subst e
      exact ⟨h.seen k (near_mem.2 hk), h.top k (adj_inr hT hk).2⟩
    · exact h.done b hb h0 (by simp [e, hbr]) k hk
  cases r with
  | nil =>
    exact .inl ⟨rfl, h.len, h.low, h.start, h.zero, h.pred, fun b hb h0 k hk => hdone b hb h0 (by simp) k hk, fun b hb => by have := h.top b hb; omega⟩
  | cons y r' =>
    have hy := h.qin y (by simp)
    obtain ⟨m1, m2⟩ := List.pairwise_cons.1 h.mono
    have hxy := m1 y (by simp)
    have hty := h.top y hy.1
    refine .inr ⟨y, r', rfl, h.len, ⟨r', rfl⟩, fun z hz => h.qin z (List.mem_cons_of_mem _ hz), h.low, h.start, h.zero, h.pred, m2, fun b hb => by have := h.top b hb; omega, hdone, by simp, ?_, ?_⟩
    · simp only [List.length_cons] at hmeas ⊢; omega
    · omega
theorem bfs_run {T : T_Topo} (hT : topoGood T) {a : Int} (ha : inr T a) : ∀ (M N : Nat) (far q : List Int), M < N → M ≤ 1000 → ((q = [] ∧ Fin2 T a far) ∨ ∃ x r, q = x :: r ∧ BfsI T a x [] M far q) → ∃ far', tfix (fun k27 (s26 : ((List Int) × (List Int))) =>
     if (decide (0 < (List.length s26.2 : Int))) = true then (
     ((idx s26.2 0).bind fun r43 =>
     (t_topo_near T r43).bind fun r46 =>
     (loopI r46 (fun (i59 : Int) x60 (s55 : ((List Int) × (List Int))) k56 =>
     need (decide (0 ≤ x60) && decide (x60 < (List.length s55.1 : Int))) (
     (idx s55.1 x60).bind fun r70 =>
     (if (decide (r70 < 0)) = true then (
     (idx s55.2 0).bind fun r80 =>
     need (decide (0 ≤ r80) && decide (r80 < (List.length s55.1 : Int))) (
     (idx s55.1 r80).bind fun r85 =>
     need (decide (0 ≤ x60) && decide (x60 < (List.length s55.1 : Int))) (
     (oset s55.1 x60 (wr (r85 + 1))).bind fun r91 =>
     (app s55.2 ([x60] : (List Int))).bind fun r94 =>
     some (r91, r94)))) else (
     some (s55.1, s55.2))).bind fun (s74 : ((List Int) × (List Int))) =>
     k56 (s74.1, s74.2))) (fun (s55 : ((List Int) × (List Int))) =>
     some (s55.1, s55.2)) (s26.1, s26.2)).bind fun (s50 : ((List Int) × (List Int))) =>
     some (s50.1, s50.2)).bind fun (s36 : ((List Int) × (List Int))) =>
     (slc_lo s36.2 1).bind fun r40 =>
     k27 (s36.1, r40)) else (
     some (s26.1))) N (far, q) = some far' ∧ Fin2 T a far' := by
  intro M
  induction M with
  | zero =>
    intro N far q hN _ h
    obtain ⟨N, rfl⟩ : ∃ n, N = n + 1 := ⟨N - 1, by omega⟩
    rcases h with ⟨rfl, hF⟩ | ⟨x, r, rfl, h⟩
    · exact ⟨far, by simp [tfix], hF⟩
    · have := h.meas; simp at this
  | succ M ih =>
    intro N far q hN hM h
    obtain ⟨N, rfl⟩ : ∃ n, N = n + 1 := ⟨N - 1, by omega⟩
    rcases h with ⟨rfl, hF⟩ | ⟨x, r, rfl, h⟩
    · exact ⟨far, by simp [tfix], hF⟩
    · have hsw := hT.sw
      have hn200 := hT.nl
      have hnl : ((nearV T x).length : Int) ≤ maxI := by
        have h1 := setOf_len (endsV T x)
        have h2 := ends_len x T.Links
        have h3 : (nearV T x).length ≤ 400 := Nat.le_trans h1 (by unfold endsV; omega)
        have hMx : maxI = 9223372036854775807 := rfl
        omega
      obtain ⟨far', q', h1, h2⟩ := bfs_inner hT ha (fin := fun (s55 : ((List Int) × (List Int))) => some (s55.1, s55.2)) hM (nearV T x) [] 0 far (x :: r) (fun k hk => near_mem.1 hk) h
      rw [List.nil_append] at h1
      obtain ⟨r', rfl⟩ := h1.hd
      obtain ⟨far2, e1, e2⟩ := ih N far' r' (by omega) (by omega) ((bfs_pop hT h1).imp id fun ⟨y, r2, e, h⟩ => ⟨y, r2, e, h⟩)
      refine ⟨far2, ?_, e2⟩
      rw [tfix]
      revert e1
      generalize tfix _ N = K
      intro e1
      have hpos : decide (0 < (List.length (x :: r) : Int)) = true := by simp
      have h0 : idx (x :: r) 0 = some x := rfl
      simp only [hpos, if_true, h0, Option.bind_some, s_near hn200, loopI_eq hnl, h2]
      have hs : slc_lo (x :: r') 1 = some r' := by
        unfold slc_lo
        rw [if_pos ⟨by omega, by simp; omega⟩]; rfl
      rw [hs, Option.bind_some]
      exact e1
theorem s_Links {T : T_Topo} (hT : topoGood T) {a : Int} (ha : inr T a) : ∃ far, t_topo_Links T a = some far ∧ Fin2 T a far := by
  have hM : maxI = 9223372036854775807 := rfl
  have hsw := hT.sw
  obtain ⟨ha1, ha2⟩ := ha
  have ha : inr T a := ⟨ha1, ha2⟩
  obtain ⟨n, hn⟩ : ∃ n : Nat, T.Switches = (n : Int) := ⟨T.Switches.toNat, by omega⟩
  unfold t_topo_Links
  have ew : wr (T.Switches + 1) = ((n + 1 : Nat) : Int) := by rw [wr_id (by omega) (by omega)]; omega
  have ho : omake (wr (T.Switches + 1)) (wr (T.Switches + 1)) 0 = some (List.replicate (n + 1) (0 : Int)) := by
    rw [ew]
    unfold omake
    rw [if_pos ⟨rfl, by omega, by omega⟩, Int.toNat_natCast]
  rw [ho, Option.bind_some]
  have hfill : loopI (List.replicate (n + 1) (0 : Int)) (fun (i108 : Int) x109 (s104 : (List Int)) k105 =>
      need (decide (0 ≤ i108) && decide (i108 < (List.length s104 : Int))) ((oset s104 i108 (-1 : Int)).bind fun r118 => k105 (r118))) (fun (s104 : (List Int)) => some (s104)) (List.replicate (n + 1) (0 : Int)) = some (List.replicate (n + 1) (-1 : Int)) := by
    refine (loopI_at (S := fun p => (List.range (n + 1)).map fun j => if j < p then (-1 : Int) else 0) ?_ (by simp; omega) fun p x k hp => ?_).trans ?_
    · refine List.ext_getElem (by simp) fun i h1 h2 => ?_
      simp
    · have hpl := (List.getElem?_eq_some_iff.1 hp).1
      simp at hpl
      have hol : oset ((List.range (n + 1)).map fun j => if j < p then (-1 : Int) else 0) (p : Int) (-1) = some (((List.range (n + 1)).map fun j => if j < p then (-1 : Int) else 0).set p (-1)) := if_pos ⟨by omega, by simp; omega⟩
      rw [need_pos (by simp; omega), hol, Option.bind_some]
      congr 1
      refine List.ext_getElem (by simp) fun i h1 h2 => ?_
      rw [List.getElem_set]
      simp only [List.getElem_map, List.getElem_range]
      by_cases e : p = i
      · subst e; rw [if_pos rfl, if_pos (by omega)]
      · rw [if_neg e]
        by_cases hi : i < p
        · rw [if_pos hi, if_pos (by omega)]
        · rw [if_neg hi, if_neg (by omega)]
    · congr 1
      refine List.ext_getElem (by simp) fun i h1 h2 => ?_
      simp at h1
      simp [h1]
  rw [hfill, Option.bind_some, need_pos (by simp; omega)]
  have hol : oset (List.replicate (n + 1) (-1 : Int)) a 0 = some ((List.replicate (n + 1) (-1 : Int)).set a.toNat 0) := if_pos ⟨by omega, by simp; omega⟩
  rw [hol, Option.bind_some]
  have hrep : ∀ b : Int, fv (List.replicate (n + 1) (-1 : Int)) b = -1 := fun b => by
    unfold fv
    rw [List.getD, List.getElem?_replicate]
    split <;> rfl
  have hset : ∀ b, inr T b → fv ((List.replicate (n + 1) (-1 : Int)).set a.toNat 0) b = if b = a then 0 else -1 := fun b hb => by
    rw [fv_set (by omega) (by simp; omega) (by have := hb.1; omega), hrep]
  have hfa : fv ((List.replicate (n + 1) (-1 : Int)).set a.toNat 0) a = 0 := by rw [hset a ha, if_pos rfl]
  have hu := unv_set (far := List.replicate (n + 1) (-1 : Int)) (v := 0) ha1 (by simp; omega) (by rw [hrep]; decide) (by decide)
  have hur : unv (List.replicate (n + 1) (-1 : Int)) = n := by
    unfold unv
    simp [List.countP_replicate]
  have hI : BfsI T a a [] n ((List.replicate (n + 1) (-1 : Int)).set a.toNat 0) [a] := by
    refine ⟨by simp; omega, ⟨[], rfl⟩, fun y hy => ?_, fun b hb => ?_, hfa, fun b hb h0 => ?_, fun b hb h0 => ?_, by simp, fun b hb => ?_, fun b hb h0 hq => ?_, by simp, ?_, ?_⟩
    · simp at hy; subst hy
      exact ⟨ha, by rw [hfa]; omega⟩
    · rw [hset b hb]; split <;> omega
    · rw [hset b hb] at h0
      split at h0
      · assumption
      · omega
    · rw [hset b hb] at h0
      split at h0 <;> omega
    · rw [hfa, hset b hb]; split <;> omega
    · simp at hq
      rw [hset b hb, if_neg hq] at h0; omega
    · simp only [List.length_singleton]; omega
    · rw [hfa]; omega
  obtain ⟨far, e1, e2⟩ := bfs_run hT ha n bigN _ [a] (Nat.lt_trans (by omega) bigN_gt) (by omega) (.inr ⟨a, [], rfl, hI⟩)
  refine ⟨far, ?_, e2⟩
  rw [e1]
  rfl
theorem fin_le {T : T_Topo} (hT : topoGood T) {a : Int} (ha : inr T a) {far : List Int} (h : Fin2 T a far) : ∀ {n : Nat} {b : Int}, wk T n a b → 0 ≤ fv far b ∧ fv far b ≤ n
  | 0, b, hw => by cases hw; rw [h.start]; exact ⟨Int.le_refl _, Int.le_refl _⟩
  | n + 1, b, hw => by
    obtain ⟨k, h1, h2⟩ := hw
    obtain ⟨h3, h4⟩ := fin_le hT ha h h1
    obtain ⟨h5, h6⟩ := h.done k (wk_inr hT ha h1) h3 b h2
    exact ⟨h5, by omega⟩
theorem fin_wk {T : T_Topo} {a : Int} {far : List Int} (h : Fin2 T a far) : ∀ (m : Nat) (b : Int), inr T b → fv far b = m → wk T m a b
  | 0, b, hb, he => h.zero b hb he
  | m + 1, b, hb, he => by
    obtain ⟨k, h1, h2, h3⟩ := h.pred b hb (by omega)
    exact ⟨k, fin_wk h m k h1 (by omega), h3⟩
/-- how far it is -/
theorem s_FarV {T : T_Topo} (hT : topoGood T) (hc : t_topo_Check T = some 0) {a b : Int} (ha : inr T a) (hb : inr T b) :
    ∃ d, t_topo_Far T a b = some d ∧ ((d.2 = 0 ∧ 0 ≤ d.1 ∧ d.1 ≤ 6 ∧ wk T d.1.toNat a b ∧ ∀ n, wk T n a b → d.1 ≤ n) ∨ (d = (0, 5) ∧ ∀ n, ¬ wk T n a b)) := by
  have hM : maxI = 9223372036854775807 := rfl
  have hsw := hT.sw
  obtain ⟨far, e1, e2⟩ := s_Links hT ha
  have hready : ∀ x, inr T x → t_topo_ready T (T_Spot.mk x 1) = some 0 := fun x hx => by
    unfold t_topo_ready
    obtain ⟨c, f1, f2⟩ := s_Spot T (T_Spot.mk x 1)
    have : c = true := f2.2 ⟨hx.1, hx.2, by show (1 : Int) ≤ 1; omega, by show (1 : Int) ≤ 4; omega⟩
    subst this
    rw [hc, Option.bind_some, if_neg (by decide), f1, Option.bind_some, if_neg (by decide)]
  have hlen := e2.len
  obtain ⟨hb1, hb2⟩ := hb
  have hb : inr T b := ⟨hb1, hb2⟩
  have hlow := e2.low b hb
  have hub := e2.ub b hb
  unfold t_topo_Far
  rw [join_eq, loopI_eq (by simp; omega)]
  simp only [goI, hready a ha, hready b hb, Option.bind_some, decide_true, Bool.not_true, Bool.false_eq_true, if_false, e1, fv_idx (far := far) (b := b) (by omega) (by omega)]
  by_cases hneg : fv far b < 0
  · refine ⟨(0, 5), by rw [if_pos (decide_eq_true hneg)], .inr ⟨rfl, fun n hw => ?_⟩⟩
    have := (fin_le hT ha e2 hw).1
    omega
  · refine ⟨(fv far b, 0), by rw [if_neg (by simpa using hneg)], .inl ⟨rfl, by show 0 ≤ fv far b; omega, by show fv far b ≤ 6; omega, fin_wk e2 _ b hb (by show fv far b = ((fv far b).toNat : Int); omega), fun n hw => (fin_le hT ha e2 hw).2⟩⟩
/-- what is wrong -/
theorem s_FarE {T : T_Topo} {c : Int} (hc : t_topo_Check T = some c) (h0 : c ≠ 0) (a b : Int) : t_topo_Far T a b = some (0, c) := by
  have hM : maxI = 9223372036854775807 := rfl
  unfold t_topo_Far
  have hready : t_topo_ready T (T_Spot.mk a 1) = some c := by
    unfold t_topo_ready
    rw [hc, Option.bind_some, if_pos (by simpa using h0)]
  rw [join_eq, loopI_eq (by simp; omega)]
  simp only [goI, hready, Option.bind_some]
  rw [if_pos (by simpa using h0)]
theorem s_FarR {T : T_Topo} (hc : t_topo_Check T = some 0) {a b : Int} (h : ¬ (inr T a ∧ inr T b)) : t_topo_Far T a b = some (0, 1) := by
  have hM : maxI = 9223372036854775807 := rfl
  unfold t_topo_Far
  have hready : ∀ x, t_topo_ready T (T_Spot.mk x 1) = some (if 1 ≤ x ∧ x ≤ T.Switches then 0 else 1) := fun x => by
    unfold t_topo_ready
    obtain ⟨c, f1, f2⟩ := s_Spot T (T_Spot.mk x 1)
    rw [hc, Option.bind_some, if_neg (by decide), f1, Option.bind_some]
    by_cases hx : 1 ≤ x ∧ x ≤ T.Switches
    · have : c = true := f2.2 ⟨hx.1, hx.2, by show (1 : Int) ≤ 1; omega, by show (1 : Int) ≤ 4; omega⟩
      subst this
      rw [if_neg (by decide), if_pos hx]
    · have : c = false := by
        cases hcc : c with
        | false => rfl
        | true => exact absurd ⟨(f2.1 hcc).1, (f2.1 hcc).2.1⟩ hx
      subst this
      rw [if_pos (by decide), if_neg hx]
  rw [join_eq, loopI_eq (by simp; omega)]
  simp only [goI, hready, Option.bind_some]
  unfold inr at h
  by_cases ha : 1 ≤ a ∧ a ≤ T.Switches
  · have hb : ¬ (1 ≤ b ∧ b ≤ T.Switches) := fun hb => h ⟨ha, hb⟩
    simp [ha, hb]
  · simp [ha]
/-- the number of the first one, or -1 -/
def fI (o : Option Nat) : Int := match o with
  | some r => (r : Int)
  | none => -1
theorem fI_nn (r : Nat) : ¬ fI (some r) < 0 := by
  show ¬ ((r : Int) < 0)
  omega
theorem fI_loop {q : T_Host → Bool} {step : Int → T_Host → Unit → (Unit → Option Int) → Option Int} (hs : ∀ i x k, step i x () k = if q x = true then some i else k ()) : ∀ (m : List T_Host) (p : Nat), goI step (fun _ => some (-1)) (p : Int) m () = some (fI ((m.findIdx? q).map (· + p)))
  | [], p => by simp [goI, fI]
  | x :: m, p => by
    rw [goI, hs, List.findIdx?_cons]
    by_cases h : q x = true
    · simp [h, fI]
    · have e : (p : Int) + 1 = ((p + 1 : Nat) : Int) := by omega
      rw [if_neg h, if_neg h, e, fI_loop hs m (p + 1), Option.map_map]
      congr 3
      funext j
      simp; omega
theorem idx_host {l : List T_Host} (hl : (l.length : Int) ≤ maxI) {g : T_Host → Option Bool} {q : T_Host → Bool} (hg : ∀ a, g a = some (q a)) : t_slices_IndexFunc_api_Host_api_Host l g = some (fI (l.findIdx? q)) := by
  unfold t_slices_IndexFunc_api_Host_api_Host
  rw [join_eq, loopI_eq hl]
  have := fI_loop (q := q) (step := fun (i13 : Int) x14 (s9 : Unit) k10 => (g x14).bind fun r22 => if r22 = true then (some i13) else (k10 ())) (fun i x k => by simp [hg]) l 0
  simpa using this
theorem find_some {l : List T_Host} {q : T_Host → Bool} {r : Nat} (h : l.findIdx? q = some r) : ∃ x, l[r]? = some x ∧ q x = true ∧ x ∈ l := by
  obtain ⟨h1, h2⟩ := List.findIdx?_eq_some_iff_findIdx_eq.1 h
  refine ⟨l[r], List.getElem?_eq_getElem h1, ?_, List.getElem_mem h1⟩
  have h3 : l.findIdx q < l.length := by omega
  have := List.findIdx_getElem (w := h3)
  simpa [h2] using this
theorem find_none {l : List T_Host} {q : T_Host → Bool} (h : l.findIdx? q = none) : ∀ x ∈ l, q x = false := by
  simpa using h
/-- the other end -/
theorem s_OtherV {T : T_Topo} (hT : topoGood T) (s : T_Spot) : ∃ r, t_topo_Other T s = some r ∧ ((r.2 = true ∧ ∃ l ∈ T.Links, (s = l.A ∧ r.1 = l.B) ∨ (s = l.B ∧ r.1 = l.A)) ∨ (r.2 = false ∧ ∀ l ∈ T.Links, s ≠ l.A ∧ s ≠ l.B)) := by
  have hM : maxI = 9223372036854775807 := rfl
  have hn := hT.nl
  unfold t_topo_Other
  simp only [join_eq]
  refine loopI_ex (Q := fun r : T_Spot × Bool => (r.2 = true ∧ ∃ l ∈ T.Links, (s = l.A ∧ r.1 = l.B) ∨ (s = l.B ∧ r.1 = l.A)) ∨ (r.2 = false ∧ ∀ l ∈ T.Links, s ≠ l.A ∧ s ≠ l.B)) (fun _ m _ => (∀ l ∈ m, l ∈ T.Links) ∧ ∀ l ∈ T.Links, l ∈ m ∨ (s ≠ l.A ∧ s ≠ l.B)) (by omega) ⟨fun _ h => h, fun _ h => .inl h⟩ (fun i u hI => ?_) (fun i x m u k hI hk => ?_)
  · exact ⟨_, rfl, .inr ⟨rfl, fun l hl => (hI.2 l hl).resolve_left (by simp)⟩⟩
  · split
    · rename_i h
      exact ⟨_, rfl, .inl ⟨rfl, x, hI.1 x (by simp), .inl ⟨of_decide_eq_true h, rfl⟩⟩⟩
    · rename_i h
      split
      · rename_i h2
        exact ⟨_, rfl, .inl ⟨rfl, x, hI.1 x (by simp), .inr ⟨of_decide_eq_true h2, rfl⟩⟩⟩
      · rename_i h2
        refine hk () ⟨fun l hl => hI.1 l (by simp [hl]), fun l hl => ?_⟩
        rcases hI.2 l hl with h3 | h3
        · rcases List.mem_cons.1 h3 with rfl | h3
          · exact .inr ⟨by simpa using h, by simpa using h2⟩
          · exact .inl h3
        · exact .inr h3
theorem spot_same {l : List T_Link} (h : (spotsOf l).Nodup) {x y : T_Link} {p : T_Spot} (hi : x ∈ l) (hj : y ∈ l) (hx : x.A = p ∨ x.B = p) (hy : y.A = p ∨ y.B = p) : x = y := by
  obtain ⟨i, hi⟩ := List.getElem?_of_mem hi
  obtain ⟨j, hj⟩ := List.getElem?_of_mem hj
  have e := spot_link h hi hj hx hy
  subst e
  rw [hi] at hj
  exact Option.some.inj hj
theorem ends_ne : ∀ {l : List T_Link}, (spotsOf l).Nodup → ∀ x ∈ l, x.A ≠ x.B
  | [], _, x, hx => by simp at hx
  | z :: l, h, x, hx => by
    have e : spotsOf (z :: l) = [z.A, z.B] ++ spotsOf l := by simp [spotsOf]
    rw [e, List.nodup_append] at h
    rcases List.mem_cons.1 hx with rfl | hx
    · have := h.1
      simpa using this
    · exact ends_ne h.2.1 x hx
theorem s_readyV {T : T_Topo} {c : Int} (hc : t_topo_Check T = some c) (s : T_Spot) : t_topo_ready T s = some (if c ≠ 0 then c else if 1 ≤ s.Switch ∧ s.Switch ≤ T.Switches ∧ 1 ≤ s.Port ∧ s.Port ≤ 4 then 0 else 1) := by
  unfold t_topo_ready
  rw [hc, Option.bind_some]
  by_cases h : c = 0
  · rw [if_neg (by simp [h]), if_neg (by simpa using h)]
    obtain ⟨b, f1, f2⟩ := s_Spot T s
    rw [f1, Option.bind_some]
    cases b with
    | true =>
      have h3 : 1 ≤ s.Switch ∧ s.Switch ≤ T.Switches ∧ 1 ≤ s.Port ∧ s.Port ≤ 4 := f2.1 rfl
      rw [if_neg (by decide), if_pos h3]
    | false =>
      rw [if_pos (by decide), if_neg]
      intro h3
      have := f2.2 h3
      cases this
  · rw [if_pos (by simpa using h), if_pos h]
/-- there and back over a link -/
theorem peer_back {T : T_Topo} (hn : ∀ h ∈ T.Hosts, (h.Name.size : Int) ≤ maxI) (s : T_Spot) : ∃ r, t_topo_Peer T s = some r ∧ (r.2 = 0 → t_topo_Peer T r.1 = some (s, 0) ∧ r.1 ≠ s) := by
  obtain ⟨c, e1, e2⟩ := s_topoCheck T hn
  by_cases hc : c = 0
  · subst hc
    have hT := e2 rfl
    have hS := link_spots hn e1
    unfold t_topo_Peer
    simp only [s_readyV e1]
    by_cases hs : 1 ≤ s.Switch ∧ s.Switch ≤ T.Switches ∧ 1 ≤ s.Port ∧ s.Port ≤ 4
    · rw [if_neg (by decide), if_pos hs, Option.bind_some, if_neg (by decide)]
      obtain ⟨r, h1, h2⟩ := s_OtherV hT s
      rw [h1, Option.bind_some]
      rcases h2 with ⟨h2, l, hl, h3⟩ | ⟨h2, _⟩
      · rw [if_neg (by simp [h2])]
        refine ⟨_, rfl, fun _ => ?_⟩
        have hne := ends_ne hS l hl
        have hok := hT.links l hl
        have hr : r.1 = l.A ∨ r.1 = l.B := by
          rcases h3 with ⟨_, h⟩ | ⟨_, h⟩
          · exact .inr h
          · exact .inl h
        have hspot : 1 ≤ r.1.Switch ∧ r.1.Switch ≤ T.Switches ∧ 1 ≤ r.1.Port ∧ r.1.Port ≤ 4 := by
          rcases hr with h | h
          · rw [h]; exact hok.1
          · rw [h]; exact hok.2
        obtain ⟨q, g1, g2⟩ := s_OtherV hT r.1
        refine ⟨?_, ?_⟩
        · show (Option.bind (some (if (0 : Int) ≠ 0 then 0 else if 1 ≤ r.1.Switch ∧ r.1.Switch ≤ T.Switches ∧ 1 ≤ r.1.Port ∧ r.1.Port ≤ 4 then 0 else 1)) _) = _
          rw [if_neg (by decide), if_pos hspot, Option.bind_some, if_neg (by decide), g1, Option.bind_some]
          rcases g2 with ⟨g2, l', hl', g3⟩ | ⟨_, g3⟩
          · rw [if_neg (by simp [g2])]
            have : l = l' := spot_same hS hl hl' (hr.imp (fun h => h.symm) fun h => h.symm) (by rcases g3 with ⟨h, _⟩ | ⟨h, _⟩; exact .inl h.symm; exact .inr h.symm)
            subst this
            congr 2
            rcases h3 with ⟨a1, a2⟩ | ⟨a1, a2⟩ <;> rcases g3 with ⟨b1, b2⟩ | ⟨b1, b2⟩
            · exact absurd (b1.symm.trans a2) hne
            · rw [b2, a1]
            · rw [b2, a1]
            · exact absurd (a2.symm.trans b1) hne
          · obtain ⟨n1, n2⟩ := g3 l hl
            rcases hr with h | h
            · exact absurd h n1
            · exact absurd h n2
        · show r.1 ≠ s
          rcases h3 with ⟨a1, a2⟩ | ⟨a1, a2⟩
          · rw [a1, a2]; exact hne.symm
          · rw [a1, a2]; exact hne
      · rw [if_pos (by simp [h2])]
        exact ⟨_, rfl, fun h => by cases h⟩
    · rw [if_neg (by decide), if_neg hs, Option.bind_some, if_pos (by decide)]
      exact ⟨_, rfl, fun h => by cases h⟩
  · unfold t_topo_Peer
    rw [s_readyV e1, if_pos hc, Option.bind_some, if_pos (by simpa using hc)]
    exact ⟨_, rfl, fun h => absurd h hc⟩
/-- a host is where it is -/
theorem where_at {T : T_Topo} (hn : ∀ h ∈ T.Hosts, (h.Name.size : Int) ≤ maxI) (nm : ByteArray) : ∃ r, t_topo_Where T nm = some r ∧ (r.2 = 0 → t_topo_At T r.1 = some (nm, 0)) := by
  have hM : maxI = 9223372036854775807 := rfl
  obtain ⟨c, e1, e2⟩ := s_topoCheck T hn
  unfold t_topo_Where
  rw [e1, Option.bind_some]
  by_cases hc : c = 0
  · subst hc
    have hT := e2 rfl
    have hnh := hT.nh
    have hS := host_spots hn e1
    rw [if_neg (by decide), idx_host (l := T.Hosts) (g := fun a12 => t_topo_Where_1 a12 nm) (q := fun a => decide (a.Name = nm)) (by omega) (fun a => rfl), Option.bind_some]
    cases hf : T.Hosts.findIdx? (fun a => decide (a.Name = nm)) with
    | none =>
      rw [if_pos (by simp [fI])]
      exact ⟨_, rfl, fun h => by cases h⟩
    | some r =>
      obtain ⟨x, h1, h2, h3⟩ := find_some hf
      have hx : idx T.Hosts (r : Int) = some x := by rw [idx_nat, h1]
      rw [if_neg (fun h => fI_nn _ (of_decide_eq_true h))]
      simp only [fI, hx, Option.bind_some]
      refine ⟨_, rfl, fun _ => ?_⟩
      have hok : 1 ≤ x.At.Switch ∧ x.At.Switch ≤ T.Switches ∧ 1 ≤ x.At.Port ∧ x.At.Port ≤ 4 := (hT.hosts x h3).2
      show t_topo_At T x.At = _
      unfold t_topo_At t_topo_Host
      rw [s_readyV e1, if_neg (by decide), if_pos hok, Option.bind_some, if_neg (by decide), idx_host (l := T.Hosts) (g := fun a4 => t_topo_Host_1 a4 x.At) (q := fun a => decide (a.At = x.At)) (by omega) (fun a => rfl), Option.bind_some]
      cases hg : T.Hosts.findIdx? (fun a => decide (a.At = x.At)) with
      | none =>
        have := find_none hg x h3
        simp at this
      | some r' =>
        obtain ⟨x', g1, g2, g3⟩ := find_some hg
        have hx' : idx T.Hosts (r' : Int) = some x' := by rw [idx_nat, g1]
        rw [if_neg (fun h => fI_nn _ (of_decide_eq_true h))]
        simp only [fI, hx', Option.bind_some]
        rw [if_neg (by simp)]
        have hnd : (T.Hosts.map fun h => h.At).Nodup := (List.nodup_append.1 hS).2.1
        have : x' = x := nodup_eq hnd x' g3 x h3 (of_decide_eq_true g2)
        subst this
        have := of_decide_eq_true h2
        rw [this]
  · rw [if_pos (by simpa using hc)]
    exact ⟨_, rfl, fun h => absurd h hc⟩

theorem numsOf_get {s : ByteArray} {j : Nat} {x : Int} (h : (numsOf s)[j]? = some x) : sidx s (j : Int) = some x := by
  obtain ⟨h1, h2⟩ := List.getElem?_eq_some_iff.1 h
  rw [numsOf_at] at h2
  unfold sidx
  rw [numsOf_len] at h1
  rw [if_pos ⟨by omega, by omega⟩, ← h2]
  rfl
theorem s_rName (s : ByteArray) (hs : (s.size : Int) ≤ maxI) : t_railref1_Name s = t_topo_Name s := by
  unfold t_railref1_Name t_topo_Name
  rw [need_pos (by simpa using hs)]
  simp only [join_eq]
  rw [loopI_any (fun x => decide (x < 97) || decide (122 < x)) (r := false) (by rw [numsOf_len]; exact hs) (fun x i k => rfl)]
  rw [loopU_any (l := numsOf s) (fun x => decide (x < 97) || decide (122 < x)) (r := false) (by omega) (by rw [numsOf_len]; omega) hs (fun j x k hj => ?_)]
  · have ht : (numsOf s).take ((s.size : Int)).toNat = numsOf s := List.take_of_length_le (by rw [numsOf_len]; omega)
    rw [ht]
    generalize (numsOf s).any (fun x => decide (x < 97) || decide (122 < x)) = A
    by_cases h1 : s = ByteArray.mk #[]
    · subst h1
      cases A <;> simp
    · by_cases h2 : (s.size : Int) ≤ 6
      · have : ¬ (6 : Int) < s.size := by omega
        simp [h1, h2, this]
      · have : (6 : Int) < s.size := by omega
        cases A <;> simp [h1, h2, this]
  · rw [numsOf_get hj]
    simp only [Option.bind_some]
    by_cases h1 : x < 97 <;> simp [h1, gd_true, gd_false]
theorem s_rSpot (T : T_Topo) (s : T_Spot) : t_railref1_Spot T s = t_topo_Spot T s := rfl
theorem s_rTopo (T : T_Topo) (hn : ∀ h ∈ T.Hosts, (h.Name.size : Int) ≤ maxI) : t_railref1_Topo T = t_topo_Check T := by
  have hM : maxI = 9223372036854775807 := rfl
  unfold t_railref1_Topo t_topo_Check
  split
  · rfl
  split
  · rfl
  rename_i h1 h2
  simp only [Bool.or_eq_true, decide_eq_true_eq, not_or, Int.not_lt] at h2
  simp only [join_eq]
  refine loopI_sim (fun i l used m => 0 ≤ i ∧ i + l.length = T.Links.length ∧ (used.length : Int) = 2 * i ∧ ∀ s, mget m s false = decide (s ∈ used)) ⟨Int.le_refl _, by omega, rfl, fun s => by simp [mget, mfind]⟩ (fun i used m hI => ?_) (fun i x l used m k k' hI hk => ?_)
  · obtain ⟨i0, i1, i2, i3⟩ := hI
    simp only [List.length_nil] at i1
    refine loopI_sim (fun j l used (t : List (T_Spot × Bool) × List (ByteArray × Bool)) => 0 ≤ j ∧ l = T.Hosts.drop j.toNat ∧ (used.length : Int) ≤ 400 + j ∧ (∀ s, mget t.1 s false = decide (s ∈ used)) ∧ ∀ s, mget t.2 s false = (T.Hosts.take j.toNat).any fun h => decide (h.Name = s)) ⟨Int.le_refl _, rfl, by omega, i3, fun s => by simp [mget, mfind]⟩ (fun _ _ _ _ => rfl) (fun j x l used t k k' hJ hk => ?_)
    obtain ⟨j0, j1, j2, j3, j4⟩ := hJ
    have hx : T.Hosts[j.toNat]? = some x := by
      have := congrArg (fun l => l[0]?) j1
      simpa using this.symm
    have hjl : j.toNat < T.Hosts.length := (List.getElem?_eq_some_iff.1 hx).1
    have hxm : x ∈ T.Hosts := List.mem_of_getElem? hx
    have hl : l = T.Hosts.drop (j.toNat + 1) := by
      rw [List.drop_eq_getElem_cons hjl] at j1
      exact (List.cons.inj j1).2
    rw [s_rName _ (hn x hxm)]
    obtain ⟨b, e1, _⟩ := s_Name x.Name (hn x hxm)
    rw [e1, s_rSpot]
    obtain ⟨b2, e2, _⟩ := s_Spot T x.At
    rw [e2]
    simp only [Option.bind_some]
    split
    · rfl
    split
    · rfl
    rw [loopU_any (l := T.Hosts) (fun h => decide (h.Name = x.Name)) (r := 7) j0 (by omega) (by omega) (fun n y k hy => by rw [idx_nat, hy]; rfl)]
    rw [j3, j4]
    cases (T.Hosts.take j.toNat).any (fun h => decide (h.Name = x.Name)) with
    | true => rfl
    | false =>
      simp only [Bool.false_eq_true, if_false, Bool.false_or]
      rw [loopI_any (fun y => decide (y = x.At)) (r := 7) (by omega) (fun x i k => rfl), any_is]
      by_cases hu : x.At ∈ used
      · simp [hu]
      · rw [if_neg (by simpa using hu), if_neg (by simpa using hu), app_eq (by simp; omega)]
        simp only [Option.bind_some]
        refine hk _ _ ⟨by omega, by rw [hl]; congr 1; omega, by simp; omega, fun s => ?_, fun s => ?_⟩
        · rw [mget_mput, j3]
          by_cases e : s = x.At <;> simp [e]
        · rw [mget_mput, j4]
          have e3 : (j + 1).toNat = j.toNat + 1 := by omega
          rw [e3, List.take_add_one, hx]
          by_cases e : s = x.Name
          · simp [e]
          · have e' : ¬ x.Name = s := fun h => e h.symm
            simp [e, e']
  · obtain ⟨i0, i1, i2, i3⟩ := hI
    simp only [List.length_cons] at i1
    rw [s_rSpot, s_rSpot]
    obtain ⟨b, e1, _⟩ := s_Spot T x.A
    obtain ⟨b2, e2, _⟩ := s_Spot T x.B
    rw [e1, e2]
    simp only [Option.bind_some]
    cases b with
    | false => simp [gd]
    | true =>
      cases b2 with
      | false => simp [gd]
      | true =>
        simp only [gd, Bool.not_true, Bool.not_false, if_true, Option.bind_some, Bool.or_self, Bool.false_eq_true, if_false]
        rw [i3, i3, loopI_any (fun y => decide (y = x.A) || decide (y = x.B)) (r := 7) (by omega) (fun x i k => rfl)]
        have ha : (used.any fun y => decide (y = x.A) || decide (y = x.B)) = (decide (x.A ∈ used) || decide (x.B ∈ used)) := by
          rw [← any_is, ← any_is, any_two]
        rw [ha]
        by_cases h3 : x.A = x.B
        · simp [h3]
        · by_cases h4 : x.A ∈ used
          · simp [h3, h4]
          · by_cases h5 : x.B ∈ used
            · simp [h3, h4, h5]
            · rw [if_neg (by simpa using h3), if_neg (by simp [h4, h5]), if_neg (by simp [h3, h4, h5]), app_eq (by simp; omega), Option.bind_some, app_eq (by simp; omega), Option.bind_some]
              refine hk _ _ ⟨by omega, by omega, by simp; omega, fun s => ?_⟩
              rw [mget_mput, mget_mput, i3]
              by_cases c1 : s = x.B
              · simp [c1]
              · by_cases c2 : s = x.A <;> simp [c1, c2]

def adjB (T : T_Topo) (a b : Int) : Bool := T.Links.any fun l => (decide (l.A.Switch = a) && decide (l.B.Switch = b)) || (decide (l.A.Switch = b) && decide (l.B.Switch = a))
theorem adjB_iff {T : T_Topo} {a b : Int} : adjB T a b = true ↔ adj T a b := by
  unfold adjB adj
  rw [List.any_eq_true]
  constructor
  · rintro ⟨l, hl, h⟩
    simp only [Bool.or_eq_true, Bool.and_eq_true, decide_eq_true_eq] at h
    exact ⟨l, hl, h.imp id fun h => ⟨h.2, h.1⟩⟩
  · rintro ⟨l, hl, h⟩
    refine ⟨l, hl, ?_⟩
    simp only [Bool.or_eq_true, Bool.and_eq_true, decide_eq_true_eq]
    exact h.imp id fun h => ⟨h.2, h.1⟩
theorem s_Joined {T : T_Topo} (hn : T.Links.length ≤ 200) (a b : Int) : t_railref1_Joined T a b = some (adjB T a b) := by
  have hM : maxI = 9223372036854775807 := rfl
  unfold t_railref1_Joined
  simp only [join_eq]
  rw [loopI_any (fun l : T_Link => (decide (l.A.Switch = a) && decide (l.B.Switch = b)) || (decide (l.A.Switch = b) && decide (l.B.Switch = a))) (r := true) (by omega) fun x i k => rfl]
  unfold adjB
  cases T.Links.any _ <;> rfl
/-! lists of seven -/
def lst (f : Nat → Bool) : List Bool := (List.range 7).map f
theorem lst_len (f : Nat → Bool) : (lst f).length = 7 := by simp [lst]
theorem lst_idx {f : Nat → Bool} {i : Nat} (h : i < 7) : idx (lst f) (i : Int) = some (f i) := by
  rw [idx_nat]; simp [lst, h]
theorem lst_set {f : Nat → Bool} {i : Nat} {v : Bool} (h : i < 7) : oset (lst f) (i : Int) v = some (lst fun j => if j = i then v else f j) := by
  have : oset (lst f) (i : Int) v = some ((lst f).set i v) := if_pos ⟨by omega, by rw [lst_len]; omega⟩
  rw [this]
  refine congrArg some (List.ext_getElem (by simp [lst]) fun j h1 h2 => ?_)
  rw [List.getElem_set]
  simp only [lst, List.getElem_map, List.getElem_range]
  by_cases e : i = j
  · subst e; simp
  · rw [if_neg e, if_neg (Ne.symm e)]
theorem lst_congr {f g : Nat → Bool} (h : ∀ j, j < 7 → f j = g j) : lst f = lst g := by
  unfold lst
  exact List.map_congr_left fun j hj => h j (List.mem_range.1 hj)
/-! levels -/
def someB (f : Nat → Bool) (T : T_Topo) (i k : Nat) : Bool := (List.range k).any fun k' => decide (1 ≤ k') && (f k' && adjB T (k' : Int) (i : Int))
def reachB (T : T_Topo) (a : Int) : Nat → Nat → Bool
  | 0, j => decide ((j : Int) = a)
  | n + 1, j => decide (1 ≤ (j : Int) ∧ (j : Int) ≤ T.Switches) && (reachB T a n j || someB (reachB T a n) T j (T.Switches.toNat + 1))
theorem someB_succ (f : Nat → Bool) (T : T_Topo) (i k : Nat) (hk : 1 ≤ k) : someB f T i (k + 1) = (someB f T i k || (f k && adjB T (k : Int) (i : Int))) := by
  unfold someB
  rw [List.range_succ, List.any_append]
  simp [hk]
theorem someB_one (f : Nat → Bool) (T : T_Topo) (i : Nat) : someB f T i 1 = false := by
  unfold someB
  simp [List.range_succ]
theorem need_pos' {β : Type} {b : Bool} {Y : Option β} (h : b = true) : need b Y = Y := need_pos h
theorem level_in {T : T_Topo} (hT : topoGood T) (f g : Nat → Bool) {i : Nat} (h1 : 1 ≤ i) (h2 : (i : Int) ≤ T.Switches) : loopU 1 (T.Switches + 1) (fun (i85 : Int) (s81 : (List Bool)) k82 =>
     (t_railref1_Joined T i85 (i : Int)).bind fun r95 =>
     need (decide (0 ≤ (i : Int)) && decide ((i : Int) < (List.length s81 : Int))) (
     (idx s81 (i : Int)).bind fun r99 =>
     need (r99 || (decide (0 ≤ i85) && decide (i85 < (List.length (lst f) : Int)))) (
     (gd (!r99) default (idx (lst f) i85)).bind fun r112 =>
     need (decide (0 ≤ (i : Int)) && decide ((i : Int) < (List.length s81 : Int))) (
     (oset s81 (i : Int) (r99 || (r112 && r95))).bind fun r125 =>
     k82 (r125))))) (fun (i85 : Int) (s81 : (List Bool)) =>
     some (s81)) (lst g) = some (lst fun j => if j = i then (g i || someB f T i (T.Switches.toNat + 1)) else g j) := by
  have hM : maxI = 9223372036854775807 := rfl
  have hsw := hT.sw
  have hn := hT.nl
  have e : T.Switches + 1 = ((T.Switches.toNat + 1 : Nat) : Int) := by omega
  rw [e, show (1 : Int) = ((1 : Nat) : Int) from rfl]
  refine (loopU_at (S := fun k => lst fun j => if j = i then (g i || someB f T i k) else g j) ?_ (by omega) (by omega) fun k K hk1 hk2 => ?_)
  · refine lst_congr fun j _ => ?_
    rw [someB_one]
    split
    · rename_i e; rw [e, Bool.or_false]
    · rfl
  · have hi : i < 7 := by omega
    have hk : k < 7 := by omega
    rw [s_Joined hn, Option.bind_some, need_pos (by rw [lst_len]; simp; omega), lst_idx hi, Option.bind_some, if_pos rfl, need_pos (by rw [lst_len]; simp; omega), lst_idx hk]
    have hg : ∃ r, gd (!(g i || someB f T i k)) default (some (f k)) = some r ∧ ((g i || someB f T i k) || (r && adjB T (k : Int) (i : Int))) = (g i || someB f T i (k + 1)) := by
      rw [someB_succ f T i k hk1, ← Bool.or_assoc]
      generalize (g i || someB f T i k) = z
      cases z with
      | false => exact ⟨f k, rfl, by simp⟩
      | true => exact ⟨default, rfl, by simp⟩
    obtain ⟨r, r1, r2⟩ := hg
    rw [r1, Option.bind_some, need_pos (by rw [lst_len]; simp; omega), lst_set hi, Option.bind_some, r2]
    congr 1
    refine lst_congr fun j _ => ?_
    by_cases e : j = i
    · rw [if_pos e, if_pos e]
    · rw [if_neg e, if_neg e, if_neg e]
theorem level {T : T_Topo} (hT : topoGood T) {a : Int} (n : Nat) : loopU 1 (T.Switches + 1) (fun (i51 : Int) (s47 : (List Bool)) k48 =>
     (need (decide (0 ≤ i51) && decide (i51 < (List.length (lst (reachB T a n)) : Int))) (
     (idx (lst (reachB T a n)) i51).bind fun r68 =>
     need (decide (0 ≤ i51) && decide (i51 < (List.length s47 : Int))) (
     (oset s47 i51 r68).bind fun r73 =>
     (loopU 1 (T.Switches + 1) (fun (i85 : Int) (s81 : (List Bool)) k82 =>
     (t_railref1_Joined T i85 i51).bind fun r95 =>
     need (decide (0 ≤ i51) && decide (i51 < (List.length s81 : Int))) (
     (idx s81 i51).bind fun r99 =>
     need (r99 || (decide (0 ≤ i85) && decide (i85 < (List.length (lst (reachB T a n)) : Int)))) (
     (gd (!r99) default (idx (lst (reachB T a n)) i85)).bind fun r112 =>
     need (decide (0 ≤ i51) && decide (i51 < (List.length s81 : Int))) (
     (oset s81 i51 (r99 || (r112 && r95))).bind fun r125 =>
     k82 (r125))))) (fun (i85 : Int) (s81 : (List Bool)) =>
     some (s81)) (r73)).bind fun (s76 : (List Bool)) =>
     some (s76)))).bind fun (s61 : (List Bool)) =>
     k48 (s61)) (fun (i51 : Int) (s47 : (List Bool)) =>
     some (s47)) (lst fun _ => false) = some (lst (reachB T a (n + 1))) := by
  have hM : maxI = 9223372036854775807 := rfl
  have hsw := hT.sw
  have e : T.Switches + 1 = ((T.Switches.toNat + 1 : Nat) : Int) := by omega
  have main := loopU_at (lo := 1) (hi := T.Switches.toNat + 1) (s := lst fun _ => false) (step := fun (i51 : Int) (s47 : (List Bool)) (k48 : List Bool → Option (List Bool)) =>
     (need (decide (0 ≤ i51) && decide (i51 < (List.length (lst (reachB T a n)) : Int))) (
     (idx (lst (reachB T a n)) i51).bind fun r68 =>
     need (decide (0 ≤ i51) && decide (i51 < (List.length s47 : Int))) (
     (oset s47 i51 r68).bind fun r73 =>
     (loopU 1 (T.Switches + 1) (fun (i85 : Int) (s81 : (List Bool)) k82 =>
     (t_railref1_Joined T i85 i51).bind fun r95 =>
     need (decide (0 ≤ i51) && decide (i51 < (List.length s81 : Int))) (
     (idx s81 i51).bind fun r99 =>
     need (r99 || (decide (0 ≤ i85) && decide (i85 < (List.length (lst (reachB T a n)) : Int)))) (
     (gd (!r99) default (idx (lst (reachB T a n)) i85)).bind fun r112 =>
     need (decide (0 ≤ i51) && decide (i51 < (List.length s81 : Int))) (
     (oset s81 i51 (r99 || (r112 && r95))).bind fun r125 =>
     k82 (r125))))) (fun (i85 : Int) (s81 : (List Bool)) =>
     some (s81)) (r73)).bind fun (s76 : (List Bool)) =>
     some (s76)))).bind fun (s61 : (List Bool)) =>
     k48 (s61)) (fin := fun (i51 : Int) (s47 : (List Bool)) => some (s47))
     (fun i => lst fun j => decide (1 ≤ j) && decide (j < i) && (reachB T a n j || someB (reachB T a n) T j (T.Switches.toNat + 1)))
     (lst_congr fun j _ => by
       by_cases h1 : 1 ≤ j
       · have : ¬ j < 1 := by omega
         simp [this]
       · simp [h1]) (by omega) (by omega) fun i K hi1 hi2 => by
    have hi : i < 7 := by omega
    rw [need_pos (by rw [lst_len]; simp; omega), lst_idx hi, Option.bind_some, need_pos (by rw [lst_len]; simp; omega), lst_set hi, Option.bind_some, level_in hT (reachB T a n) _ hi1 (by omega)]
    simp only [Option.bind_some]
    congr 1
    refine lst_congr fun j _ => ?_
    by_cases e : j = i
    · subst e
      have : j < j + 1 := by omega
      simp [hi1, this]
    · have : (j < i + 1) = (j < i) := by rw [eq_iff_iff]; omega
      simp only [e, if_false, this]
  rw [← e, show ((1 : Nat) : Int) = 1 from rfl] at main
  rw [main]
  refine congrArg some (lst_congr fun j hj => ?_)
  rw [reachB]
  congr 1
  rw [← Bool.decide_and, decide_eq_decide]
  omega
theorem reach_wk {T : T_Topo} {a : Int} : ∀ (n j : Nat), reachB T a n j = true → ∃ m, m ≤ n ∧ wk T m a (j : Int)
  | 0, j, h => by
    rw [reachB] at h
    have h2 : (j : Int) = a := of_decide_eq_true h
    exact ⟨0, Nat.le_refl _, h2⟩
  | n + 1, j, h => by
    rw [reachB, Bool.and_eq_true, Bool.or_eq_true] at h
    rcases h.2 with h | h
    · obtain ⟨m, h1, h2⟩ := reach_wk n j h
      exact ⟨m, by omega, h2⟩
    · unfold someB at h
      obtain ⟨k, _, hk⟩ := List.any_eq_true.1 h
      rw [Bool.and_eq_true, Bool.and_eq_true] at hk
      obtain ⟨m, h1, h2⟩ := reach_wk n k hk.2.1
      exact ⟨m + 1, by omega, wk_snoc h2 (adjB_iff.1 hk.2.2)⟩
theorem wk_reach {T : T_Topo} (hT : topoGood T) {a : Int} (ha : inr T a) : ∀ (n j : Nat), wk T n a (j : Int) → reachB T a n j = true
  | 0, j, h => by
    have h : (j : Int) = a := h
    rw [reachB]
    exact decide_eq_true h
  | n + 1, j, h => by
    obtain ⟨k, h1, h2⟩ := h
    obtain ⟨⟨k1, k2⟩, j1, j2⟩ := adj_inr hT h2
    obtain ⟨k', rfl⟩ : ∃ k' : Nat, k = (k' : Int) := ⟨k.toNat, by omega⟩
    have := wk_reach hT ha n k' h1
    rw [reachB, Bool.and_eq_true, Bool.or_eq_true]
    refine ⟨decide_eq_true ⟨j1, j2⟩, .inr ?_⟩
    unfold someB
    refine List.any_eq_true.2 ⟨k', List.mem_range.2 (by omega), ?_⟩
    rw [Bool.and_eq_true, Bool.and_eq_true]
    exact ⟨decide_eq_true (by omega), this, adjB_iff.2 h2⟩
/-- the document's -/
theorem s_rFar {T : T_Topo} (hT : topoGood T) {a b : Int} (ha : inr T a) (hb : inr T b) : ∃ d, t_railref1_Far T a b = some d ∧ ((0 ≤ d ∧ d ≤ 6 ∧ reachB T a d.toNat b.toNat = true ∧ ∀ m : Nat, (m : Int) < d → reachB T a m b.toNat = false) ∨ (d = -1 ∧ ∀ m : Nat, m ≤ 6 → reachB T a m b.toNat = false)) := by
  have hM : maxI = 9223372036854775807 := rfl
  have hsw := hT.sw
  obtain ⟨ha1, ha2⟩ := ha
  obtain ⟨hb1, hb2⟩ := hb
  unfold t_railref1_Far
  have ho : omake 7 7 false = some (lst fun _ => false) := by
    unfold omake
    rw [if_pos ⟨rfl, by omega, by omega⟩]; rfl
  obtain ⟨a', rfl⟩ : ∃ a' : Nat, a = (a' : Int) := ⟨a.toNat, by omega⟩
  obtain ⟨b', rfl⟩ : ∃ b' : Nat, b = (b' : Int) := ⟨b.toNat, by omega⟩
  rw [ho, Option.bind_some, need_pos (by rw [lst_len]; simp; omega), lst_set (by omega), Option.bind_some, join_eq]
  have e0 : (lst fun j => if j = a' then true else false) = lst (reachB T (a' : Int) 0) := lst_congr fun j _ => by
    rw [reachB]
    by_cases e : j = a'
    · simp [e]
    · simp [e]; omega
  rw [e0, loopU_eq (by omega) (by omega), show ((6 : Int) + 1 - 0).toNat = 7 from rfl, Int.toNat_natCast]
  refine goU_ex (I := fun m i s => ∃ n : Nat, i = (n : Int) ∧ m + n = 7 ∧ s = lst (reachB T (a' : Int) n) ∧ ∀ m : Nat, m < n → reachB T (a' : Int) m b' = false) (Q := fun d => (0 ≤ d ∧ d ≤ 6 ∧ reachB T (a' : Int) d.toNat b' = true ∧ ∀ m : Nat, (m : Int) < d → reachB T (a' : Int) m b' = false) ∨ (d = -1 ∧ ∀ m : Nat, m ≤ 6 → reachB T (a' : Int) m b' = false)) ?_ ?_ 7 0 _ ⟨0, rfl, rfl, rfl, fun m hm => by omega⟩
  · rintro i s ⟨n, rfl, hn, rfl, h⟩
    exact ⟨-1, rfl, .inr ⟨rfl, fun m hm => h m (by omega)⟩⟩
  · rintro m i s k ⟨n, rfl, hn, rfl, h⟩ hk
    rw [join_eq, need_pos (by rw [lst_len]; simp; omega), lst_idx (by omega), Option.bind_some]
    cases hr : reachB T (a' : Int) n b' with
    | true =>
      rw [if_pos rfl]
      exact ⟨_, rfl, .inl ⟨by omega, by omega, by rw [Int.toNat_natCast]; exact hr, fun m hm => h m (by omega)⟩⟩
    | false =>
      rw [if_neg (by decide), Option.bind_some, level hT n, Option.bind_some]
      refine hk _ ⟨n + 1, by omega, by omega, rfl, fun m hm => ?_⟩
      by_cases e : m = n
      · subst e; exact hr
      · exact h m (by omega)
/-- it tells the same -/
theorem far_same {T : T_Topo} (hT : topoGood T) (hc : t_topo_Check T = some 0) {a b : Int} (ha : inr T a) (hb : inr T b) : ∃ d r, t_topo_Far T a b = some d ∧ t_railref1_Far T a b = some r ∧ ((d.2 = 0 ∧ 0 ≤ r ∧ d.1 = r) ∨ (d = (0, 5) ∧ r = -1)) := by
  obtain ⟨d, d1, d2⟩ := s_FarV hT hc ha hb
  obtain ⟨r, r1, r2⟩ := s_rFar hT ha hb
  refine ⟨d, r, d1, r1, ?_⟩
  have hb0 : ((b.toNat : Nat) : Int) = b := by have := hb.1; omega
  rcases d2 with ⟨p1, p2, p3, p4, p5⟩ | ⟨rfl, p5⟩
  · have hreach : reachB T a d.1.toNat b.toNat = true := wk_reach hT ha _ _ (by rw [hb0]; exact p4)
    rcases r2 with ⟨q1, q2, q3, q4⟩ | ⟨rfl, q4⟩
    · refine .inl ⟨p1, q1, ?_⟩
      obtain ⟨m, m1, m2⟩ := reach_wk _ _ q3
      rw [hb0] at m2
      have h1 := p5 m m2
      rcases Int.lt_trichotomy d.1 r with h | h | h
      · have := q4 d.1.toNat (by omega)
        rw [hreach] at this; cases this
      · exact h
      · omega
    · have := q4 d.1.toNat (by omega)
      rw [hreach] at this; cases this
  · rcases r2 with ⟨q1, q2, q3, q4⟩ | ⟨rfl, q4⟩
    · obtain ⟨m, m1, m2⟩ := reach_wk _ _ q3
      rw [hb0] at m2
      exact absurd m2 (p5 m)
    · exact .inr ⟨rfl, rfl⟩
theorem s_ErrorT (x y : Int) : t_railsame_Error x y = some (decide (x = y)) := rfl
theorem s_rPeerT (T : T_Topo) (s : T_Spot) : t_railref1_Peer T s = t_topo_Other T s := by
  unfold t_railref1_Peer t_topo_Other
  simp only [join_eq, eq_comm]
theorem other_none {T : T_Topo} (hT : topoGood T) (s : T_Spot) {r : T_Spot × Bool} (h : t_topo_Other T s = some r) (h2 : r.2 = false) : r.1 = T_Spot.mk 0 0 := by
  have hM : maxI = 9223372036854775807 := rfl
  have hn := hT.nl
  have key : ∃ r, t_topo_Other T s = some r ∧ (r.2 = false → r.1 = T_Spot.mk 0 0) := by
    unfold t_topo_Other
    simp only [join_eq]
    refine loopI_ex (Q := fun r : T_Spot × Bool => r.2 = false → r.1 = T_Spot.mk 0 0) (fun _ _ _ => True) (by omega) trivial (fun i u hI => ⟨_, rfl, fun _ => rfl⟩) (fun i x m u k hI hk => ?_)
    split
    · exact ⟨_, rfl, fun h => by cases h⟩
    · split
      · exact ⟨_, rfl, fun h => by cases h⟩
      · exact hk () trivial
  obtain ⟨r', e1, e2⟩ := key
  rw [h] at e1
  obtain rfl := Option.some.inj e1
  exact e2 h2
theorem s_rHostT {T : T_Topo} (hl : (T.Hosts.length : Int) ≤ maxI) (s : T_Spot) : t_railref1_Host T s = some (fI (T.Hosts.findIdx? fun h => decide (h.At = s))) := by
  unfold t_railref1_Host
  rw [join_eq, loopI_eq hl]
  have := fI_loop (q := fun h => decide (h.At = s)) (step := fun (i13 : Int) x14 (s9 : Unit) k10 => if (decide (x14.At = s)) = true then (some i13) else (k10 ())) (fun i x k => rfl) T.Hosts 0
  simpa using this
theorem s_rNamedT {T : T_Topo} (hl : (T.Hosts.length : Int) ≤ maxI) (s : ByteArray) : t_railref1_Named T s = some (fI (T.Hosts.findIdx? fun h => decide (h.Name = s))) := by
  unfold t_railref1_Named
  rw [join_eq, loopI_eq hl]
  have := fI_loop (q := fun h => decide (h.Name = s)) (step := fun (i13 : Int) x14 (s9 : Unit) k10 => if (decide (x14.Name = s)) = true then (some i13) else (k10 ())) (fun i x k => rfl) T.Hosts 0
  simpa using this
theorem s_IntsT (a : List Int) (ha : (a.length : Int) ≤ maxI) : t_railsame_Ints a a = some true := by
  unfold t_railsame_Ints
  rw [if_neg (by simp), join_eq]
  exact loopI_at (S := fun _ => ()) rfl ha fun i x k hx => by rw [idx_nat, hx, Option.bind_some, if_neg (by simp)]
def six (f : Int → Bool) (p : Nat) : List Int := (List.range p).flatMap fun j : Nat => if 1 ≤ j ∧ f (j : Int) = true then [(j : Int)] else []
theorem six_len (f : Int → Bool) : ∀ p, (six f p).length ≤ p
  | 0 => by simp [six]
  | p + 1 => by
    have := six_len f p
    unfold six at this ⊢
    rw [List.range_succ, List.flatMap_append, List.length_append, List.flatMap_singleton]
    split
    · rw [List.length_singleton]; omega
    · rw [List.length_nil]; omega
theorem six_near {T : T_Topo} (hT : topoGood T) (a : Int) : nearV T a = six (adjB T a) 7 := by
  have hsw := hT.sw
  refine strict_eq (setOf_strict _) ?_ fun x => ?_
  · have : ∀ p, (six (adjB T a) p).Pairwise (· < ·) ∧ ∀ x ∈ six (adjB T a) p, x < p := by
      intro p
      induction p with
      | zero => exact ⟨by simp [six], by simp [six]⟩
      | succ p ih =>
        have e : six (adjB T a) (p + 1) = six (adjB T a) p ++ (if 1 ≤ p ∧ adjB T a (p : Int) = true then [(p : Int)] else []) := by
          unfold six
          rw [List.range_succ, List.flatMap_append, List.flatMap_singleton]
        rw [e]
        constructor
        · rw [List.pairwise_append]
          refine ⟨ih.1, by split <;> simp, fun y hy z hz => ?_⟩
          split at hz
          · simp at hz; subst hz; exact ih.2 y hy
          · simp at hz
        · intro x hx
          rcases List.mem_append.1 hx with hx | hx
          · have := ih.2 x hx; omega
          · split at hx
            · simp at hx; subst hx; omega
            · simp at hx
    exact (this 7).1
  · rw [near_mem]
    unfold six
    rw [List.mem_flatMap]
    constructor
    · intro h
      obtain ⟨h1, h2⟩ := (adj_inr hT h).2
      refine ⟨x.toNat, List.mem_range.2 (by omega), ?_⟩
      have e : ((x.toNat : Nat) : Int) = x := by omega
      rw [e, if_pos ⟨by omega, adjB_iff.2 h⟩]; simp
    · rintro ⟨j, _, h⟩
      split at h
      · rename_i hc
        simp at h; subst h
        exact adjB_iff.1 hc.2
      · simp at h
theorem doc_near {T : T_Topo} (hT : topoGood T) (a : Int) : loopU 1 (6 + 1) (fun (i218 : Int) (s214 : (List Int)) k215 =>
   if (decide ((0 : Int) = 0)) = true then (
   (t_railref1_Joined T a i218).bind fun r232 =>
   (if r232 = true then (
   (app s214 ([i218] : (List Int))).bind fun r242 =>
   some (r242)) else (
   some (s214))).bind fun (s235 : (List Int)) =>
   k215 (s235)) else (
   some (s214))) (fun (i218 : Int) (s214 : (List Int)) =>
   some (s214)) [] = some (six (adjB T a) 7) := by
  have hM : maxI = 9223372036854775807 := rfl
  have hn := hT.nl
  refine (loopU_at (lo := 1) (hi := 7) (S := fun p => six (adjB T a) p) (by simp [six, List.range_succ]) (by omega) (by omega) fun p k h1 h2 => ?_)
  have hl := six_len (adjB T a) p
  rw [if_pos (by decide), s_Joined hn, Option.bind_some]
  have e : six (adjB T a) (p + 1) = six (adjB T a) p ++ (if 1 ≤ p ∧ adjB T a (p : Int) = true then [(p : Int)] else []) := by
    unfold six
    rw [List.range_succ, List.flatMap_append, List.flatMap_singleton]
  rw [e]
  by_cases h : adjB T a (p : Int) = true
  · rw [if_pos h, if_pos ⟨h1, h⟩, app_eq (by simp; omega), Option.bind_some, Option.bind_some]
  · rw [if_neg h, if_neg (fun h' => h h'.2), Option.bind_some, List.append_nil]
theorem doc_near0 (T : T_Topo) (a c : Int) (hc : c ≠ 0) : loopU 1 (6 + 1) (fun (i218 : Int) (s214 : (List Int)) k215 =>
   if (decide (c = 0)) = true then (
   (t_railref1_Joined T a i218).bind fun r232 =>
   (if r232 = true then (
   (app s214 ([i218] : (List Int))).bind fun r242 =>
   some (r242)) else (
   some (s214))).bind fun (s235 : (List Int)) =>
   k215 (s235)) else (
   some (s214))) (fun (i218 : Int) (s214 : (List Int)) =>
   some (s214)) [] = some [] := by
  rw [loopU_eq (by decide) (by decide), show ((6 : Int) + 1 - 1).toNat = 5 + 1 from rfl, goU, if_neg (by simpa using hc)]
/-- a spot: who is at the other end, who is there -/
theorem part_spot {T : T_Topo} {c : Int} (hc : t_topo_Check T = some c) (hg : c = 0 → topoGood T) (s : T_Spot) {b : Bool} (hb : b = true ↔ spotOk T s) : ∃ f g p h, ((if ((decide (c = 0)) && (!b)) = true then (some (1 : Int)) else (some (c))).bind fun (s24 : Int) =>
    (if (decide (s24 = 0)) = true then (
     (t_railref1_Peer T s).bind fun r271 =>
     (if (!r271.2) = true then (some (5)) else (some (s24))).bind fun (s280 : Int) =>
     (t_railref1_Host T s).bind fun r286 =>
     (if (decide (r286 < 0)) = true then (some (5, (ByteArray.mk #[]))) else ((idx T.Hosts r286).bind fun r296 => some (s24, r296.Name))).bind fun (s290 : (Int × ByteArray)) =>
     some (s280, s290.1, r271.1, s290.2)) else (
     some (s24, s24, (T_Spot.mk 0 0), (ByteArray.mk #[])))).bind fun (s30 : (Int × Int × T_Spot × ByteArray)) => some s30) = some (f, g, p, h) ∧ t_topo_Peer T s = some (p, f) ∧ t_topo_At T s = some (h, g) := by
  have hM : maxI = 9223372036854775807 := rfl
  unfold t_topo_Peer t_topo_At t_topo_Host
  simp only [s_readyV hc]
  by_cases h0 : c = 0
  rotate_left
  · refine ⟨c, c, T_Spot.mk 0 0, ByteArray.mk #[], ?_, ?_, ?_⟩
    · rw [if_neg (by simp [h0]), Option.bind_some, if_neg (by simpa using h0)]; rfl
    · rw [if_pos h0, Option.bind_some, if_pos (by simpa using h0)]
    · rw [if_pos h0, Option.bind_some, if_pos (by simpa using h0)]
  subst h0
  have hT := hg rfl
  have hnh := hT.nh
  cases hbb : b with
  | false =>
    have hs : ¬ (1 ≤ s.Switch ∧ s.Switch ≤ T.Switches ∧ 1 ≤ s.Port ∧ s.Port ≤ 4) := fun h => by have := hb.2 h; rw [hbb] at this; cases this
    refine ⟨1, 1, T_Spot.mk 0 0, ByteArray.mk #[], rfl, ?_, ?_⟩
    · rw [if_neg (by decide), if_neg hs]; rfl
    · rw [if_neg (by decide), if_neg hs]; rfl
  | true =>
    have hs : 1 ≤ s.Switch ∧ s.Switch ≤ T.Switches ∧ 1 ≤ s.Port ∧ s.Port ≤ 4 := hb.1 hbb
    obtain ⟨r, r1, r2⟩ := s_OtherV hT s
    have hnone := other_none hT s r1
    have hz : (if (0 : Int) ≠ 0 then (0 : Int) else if 1 ≤ s.Switch ∧ s.Switch ≤ T.Switches ∧ 1 ≤ s.Port ∧ s.Port ≤ 4 then 0 else 1) = 0 := by rw [if_neg (by decide), if_pos hs]
    rw [s_rPeerT, s_rHostT (by omega), r1, hz]
    simp only [decide_true, Bool.not_true, Bool.and_false, Bool.false_eq_true, if_false, Option.bind_some, if_true]
    rw [idx_host (l := T.Hosts) (g := fun a4 => t_topo_Host_1 a4 s) (q := fun a => decide (a.At = s)) (by omega) (fun a => rfl)]
    simp only [Option.bind_some]
    have hP : ∃ f, (if (!r.2) = true then (some (5 : Int)) else (some (0 : Int))) = some f ∧ (if (!r.2) = true then some ((T_Spot.mk 0 0), (5 : Int)) else some (r.1, 0)) = some (r.1, f) := by
      cases h2 : r.2 with
      | false => exact ⟨5, rfl, by rw [hnone h2]; rfl⟩
      | true => exact ⟨0, rfl, rfl⟩
    obtain ⟨f, f1, f2⟩ := hP
    rw [f1, f2]
    simp only [Option.bind_some]
    cases hf : T.Hosts.findIdx? (fun a => decide (a.At = s)) with
    | none =>
      have hneg : decide (fI none < 0) = true := by decide
      rw [if_pos hneg, if_pos hneg]
      exact ⟨f, 5, r.1, ByteArray.mk #[], rfl, rfl, rfl⟩
    | some q =>
      obtain ⟨x, x1, x2, x3⟩ := find_some hf
      have hx : idx T.Hosts (fI (some q)) = some x := by
        show idx T.Hosts (q : Int) = some x
        rw [idx_nat, x1]
      have hneg : ¬ decide (fI (some q) < 0) = true := fun h => fI_nn q (of_decide_eq_true h)
      rw [if_neg hneg, if_neg hneg, hx]
      exact ⟨f, 0, r.1, x.Name, rfl, rfl, rfl⟩
theorem part_where {T : T_Topo} {c : Int} (hc : t_topo_Check T = some c) (hg : c = 0 → topoGood T) (nm : ByteArray) : ∃ f p, (if (decide (c = 0)) = true then (
     (t_railref1_Named T nm).bind fun r253 =>
     (if (decide (r253 < 0)) = true then (some ((5 : Int), (T_Spot.mk 0 0))) else ((idx T.Hosts r253).bind fun r263 => some (c, r263.At))).bind fun (s257 : (Int × T_Spot)) =>
     some (s257.1, s257.2)) else (
     some (c, (T_Spot.mk 0 0)))) = some (f, p) ∧ t_topo_Where T nm = some (p, f) := by
  have hM : maxI = 9223372036854775807 := rfl
  unfold t_topo_Where
  rw [hc, Option.bind_some]
  by_cases h0 : c = 0
  rotate_left
  · refine ⟨c, T_Spot.mk 0 0, ?_, ?_⟩
    · rw [if_neg (by simpa using h0)]
    · rw [if_pos (by simpa using h0)]
  subst h0
  have hT := hg rfl
  have hnh := hT.nh
  rw [s_rNamedT (by omega), idx_host (l := T.Hosts) (g := fun a12 => t_topo_Where_1 a12 nm) (q := fun a => decide (a.Name = nm)) (by omega) (fun a => rfl)]
  simp only [Option.bind_some, decide_true, if_true, Bool.not_true, Bool.false_eq_true, if_false]
  cases hf : T.Hosts.findIdx? (fun a => decide (a.Name = nm)) with
  | none =>
    have hneg : decide (fI none < 0) = true := by decide
    rw [if_pos hneg, if_pos hneg]
    exact ⟨5, T_Spot.mk 0 0, rfl, rfl⟩
  | some q =>
    obtain ⟨x, x1, x2, x3⟩ := find_some hf
    have hx : idx T.Hosts (fI (some q)) = some x := by
      show idx T.Hosts (q : Int) = some x
      rw [idx_nat, x1]
    have hneg : ¬ decide (fI (some q) < 0) = true := fun h => fI_nn q (of_decide_eq_true h)
    rw [if_neg hneg, if_neg hneg, hx]
    exact ⟨0, x.At, rfl, rfl⟩
/-- who is near, how far it is -/
theorem part_far {T : T_Topo} {c : Int} (hc : t_topo_Check T = some c) (hg : c = 0 → topoGood T) (a b : Int) : ∃ s88 near s129 f n, ((if ((decide (c = 0)) && ((decide (a < 1)) || (decide (T.Switches < a)))) = true then (some (1 : Int)) else (some (c))) = some s88) ∧
    (loopU 1 (6 + 1) (fun (i218 : Int) (s214 : (List Int)) k215 =>
     if (decide (s88 = 0)) = true then (
     (t_railref1_Joined T a i218).bind fun r232 =>
     (if r232 = true then (
     (app s214 ([i218] : (List Int))).bind fun r242 =>
     some (r242)) else (
     some (s214))).bind fun (s235 : (List Int)) =>
     k215 (s235)) else (
     some (s214))) (fun (i218 : Int) (s214 : (List Int)) =>
     some (s214)) []) = some near ∧ t_topo_Near T a = some (near, s88) ∧ t_railsame_Ints near near = some true ∧
    ((if ((decide (s88 = 0)) && ((decide (b < 1)) || (decide (T.Switches < b)))) = true then (some (1 : Int)) else (some (s88))) = some s129) ∧
    ((if (decide (s129 = 0)) = true then (
     (t_railref1_Far T a b).bind fun r203 =>
     (if (decide (r203 < 0)) = true then (some ((5 : Int), (0 : Int))) else (some (s129, r203))).bind fun (s207 : (Int × Int)) =>
     some (s207.1, s207.2)) else (
     some (s129, 0))) = some (f, n)) ∧ t_topo_Far T a b = some (n, f) := by
  have hM : maxI = 9223372036854775807 := rfl
  unfold t_topo_Near
  rw [s_readyV hc]
  by_cases h0 : c = 0
  rotate_left
  · refine ⟨c, [], c, c, 0, by rw [if_neg (by simp [h0])], doc_near0 T a c h0, ?_, s_IntsT [] (by simp), by rw [if_neg (by simp [h0])], by rw [if_neg (by simpa using h0)], s_FarE hc h0 a b⟩
    rw [if_pos h0, Option.bind_some, if_pos (by simpa using h0)]
  subst h0
  have hT := hg rfl
  have hn := hT.nl
  by_cases ha : inr T a
  rotate_left
  · have ha' : ¬ (1 ≤ a ∧ a ≤ T.Switches) := ha
    have hs : ¬ (1 ≤ (T_Spot.mk a 1).Switch ∧ (T_Spot.mk a 1).Switch ≤ T.Switches ∧ 1 ≤ (T_Spot.mk a 1).Port ∧ (T_Spot.mk a 1).Port ≤ 4) := fun h => ha ⟨h.1, h.2.1⟩
    refine ⟨1, [], 1, 1, 0, ?_, doc_near0 T a 1 (by decide), ?_, s_IntsT [] (by simp), by rw [if_neg (by simp)], by rw [if_neg (by decide)], s_FarR hc fun h => ha h.1⟩
    · rw [if_pos]
      simp only [decide_true, Bool.true_and, Bool.or_eq_true, decide_eq_true_eq]
      omega
    · rw [if_neg (by decide), if_neg hs, Option.bind_some, if_pos (by decide)]
  obtain ⟨ha1, ha2⟩ := ha
  have ha : inr T a := ⟨ha1, ha2⟩
  have hs : 1 ≤ (T_Spot.mk a 1).Switch ∧ (T_Spot.mk a 1).Switch ≤ T.Switches ∧ 1 ≤ (T_Spot.mk a 1).Port ∧ (T_Spot.mk a 1).Port ≤ 4 := ⟨ha1, ha2, by show (1 : Int) ≤ 1; omega, by show (1 : Int) ≤ 4; omega⟩
  have hsix := six_len (adjB T a) 7
  have hnear : ((if (0 : Int) ≠ 0 then some (0 : Int) else if 1 ≤ (T_Spot.mk a 1).Switch ∧ (T_Spot.mk a 1).Switch ≤ T.Switches ∧ 1 ≤ (T_Spot.mk a 1).Port ∧ (T_Spot.mk a 1).Port ≤ 4 then some 0 else some 1).bind fun r5 => if (!decide (r5 = 0)) = true then (some (([] : List Int), r5)) else ((t_topo_near T a).bind fun r10 => some (r10, 0))) = some (six (adjB T a) 7, 0) := by
    rw [if_neg (by decide), if_pos hs, Option.bind_some, if_neg (by decide), s_near hn, Option.bind_some, six_near hT]
  have hcond : ¬ ((decide ((0 : Int) = 0)) && ((decide (a < 1)) || (decide (T.Switches < a)))) = true := by
    simp only [decide_true, Bool.true_and, Bool.or_eq_true, decide_eq_true_eq]
    omega
  have hnear2 : ((some (if (0 : Int) ≠ 0 then (0 : Int) else if 1 ≤ (T_Spot.mk a 1).Switch ∧ (T_Spot.mk a 1).Switch ≤ T.Switches ∧ 1 ≤ (T_Spot.mk a 1).Port ∧ (T_Spot.mk a 1).Port ≤ 4 then 0 else 1)).bind fun r5 => if (!decide (r5 = 0)) = true then (some (([] : List Int), r5)) else ((t_topo_near T a).bind fun r10 => some (r10, 0))) = some (six (adjB T a) 7, 0) := by
    rw [if_neg (by decide), if_pos hs, Option.bind_some, if_neg (by decide), s_near hn, Option.bind_some, six_near hT]
  by_cases hb : inr T b
  rotate_left
  · have hb' : ¬ (1 ≤ b ∧ b ≤ T.Switches) := hb
    refine ⟨0, six (adjB T a) 7, 1, 1, 0, by rw [if_neg hcond], doc_near hT a, hnear2, s_IntsT _ (by omega), ?_, by rw [if_neg (by decide)], s_FarR hc fun h => hb h.2⟩
    rw [if_pos]
    simp only [decide_true, Bool.true_and, Bool.or_eq_true, decide_eq_true_eq]
    omega
  obtain ⟨hb1, hb2⟩ := hb
  obtain ⟨d, r, d1, r1, d2⟩ := far_same hT hc ha ⟨hb1, hb2⟩
  have hcb : ¬ ((decide ((0 : Int) = 0)) && ((decide (b < 1)) || (decide (T.Switches < b)))) = true := by
    simp only [decide_true, Bool.true_and, Bool.or_eq_true, decide_eq_true_eq]
    omega
  rcases d2 with ⟨e1, e2, e3⟩ | ⟨rfl, rfl⟩
  · refine ⟨0, six (adjB T a) 7, 0, 0, r, by rw [if_neg hcond], doc_near hT a, hnear2, s_IntsT _ (by omega), by rw [if_neg hcb], ?_, ?_⟩
    · rw [if_pos (by decide), r1, Option.bind_some, if_neg (by simp; omega)]; rfl
    · rw [d1, ← e3, ← e1]
  · refine ⟨0, six (adjB T a) 7, 0, 5, 0, by rw [if_neg hcond], doc_near hT a, hnear2, s_IntsT _ (by omega), by rw [if_neg hcb], ?_, d1⟩
    rw [if_pos (by decide), r1, Option.bind_some, if_pos (by decide)]; rfl
theorem walk_TopoTells (a0 : T_Topo) (a1 : T_Spot) (a2 : ByteArray) (a3 a4 : Int) (u0 : a0.wf maxLen) (_ : a1.wf maxLen) (_ : a2.size ≤ maxLen) (_ : wi64 a3) (_ : wi64 a4) : t_raillaw1_TopoTells a0 a1 a2 a3 a4 = some true := by
  have hM : maxI = 9223372036854775807 := rfl
  have hnm : ∀ h ∈ a0.Hosts, (h.Name.size : Int) ≤ maxI := fun h hh => by
    have h1 : h.Name.size ≤ maxLen := (u0.2.2.2 h hh).1
    unfold maxLen at h1
    omega
  obtain ⟨c, e1, e2⟩ := s_topoCheck a0 hnm
  obtain ⟨b, b1, b2⟩ := s_Spot a0 a1
  obtain ⟨f, g, p, h, p1, p2, p3⟩ := part_spot e1 e2 a1 b2
  obtain ⟨f2, w, w1, w2⟩ := part_where e1 e2 a2
  obtain ⟨s88, near, s129, f3, n, q1, q2, q3, q4, q5, q6, q7⟩ := part_far e1 e2 a3 a4
  unfold t_raillaw1_TopoTells
  rw [s_rTopo a0 hnm, e1, Option.bind_some, Option.bind_some, s_ErrorT, Option.bind_some, s_rSpot, b1, Option.bind_some]
  simp only [bind_some_id] at p1
  rw [p2, p3, w1, w2, q1, q3, q7]
  simp only [Option.bind_some, s_ErrorT, q2, q4, q5, q6]
  cases hX : (if ((decide (c = 0)) && (!b)) = true then (some (1 : Int)) else (some (c))) with
  | none => rw [hX] at p1; cases p1
  | some s24 =>
    rw [hX, Option.bind_some] at p1
    simp only [Option.bind_some]
    rw [p1]
    simp
end Go.Proofs.YtpafgegoieakoaaDoor.Ty
