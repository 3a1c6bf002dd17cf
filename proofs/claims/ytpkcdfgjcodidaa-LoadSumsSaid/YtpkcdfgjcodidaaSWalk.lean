/- What becomes of a packet, hop by hop, as it is read. -/
import Derived.Test.YtpkcdfgjcodidaaSNet
namespace Go.Proofs.Ytpkcdfgjcodidaa.Ty
open Go Go.RowKit Go.Proofs.Ytpkcdfgjcodidaa.Den
set_option linter.unusedSimpArgs false
set_option linter.unusedVariables false
set_option maxRecDepth 100000

abbrev noT : ByteArray := ByteArray.mk #[]
noncomputable def outV (t : List T_Rule) (at_ : T_Spot) (h : Int) : T_Spot × Int × Bool := (t_net_Out t at_ h).getD default
noncomputable def hostV (T : T_Topo) (s : T_Spot) : ByteArray × Bool := (t_topo_Host T s).getD default
noncomputable def otherV (T : T_Topo) (s : T_Spot) : T_Spot × Bool := (t_topo_Other T s).getD default
def tblV (n : T_Net) (h : T_Hop) : List T_Rule := (idx n.Tables (h.At.Switch - 1)).getD []
structure hopOk (n : T_Net) (h : T_Hop) : Prop where
  at_ : spotOk n.Topo h.At
  hd : 0 ≤ h.Header ∧ h.Header < 16
theorem s_tbl {n : T_Net} (hn : netGood n) {x : T_Hop} (hx : spotOk n.Topo x.At) : idx n.Tables (wr (x.At.Switch - 1)) = some (tblV n x) ∧ tblGood (tblV n x) := by
  have h1 := hn.topo.sw
  obtain ⟨h2, h3, _⟩ := hx
  have hl := hn.len
  rw [wr_id (by omega) (by omega)]
  obtain ⟨t, e1, e2, _⟩ := idx_some (l := n.Tables) (i := x.At.Switch - 1) (by omega) (by omega)
  unfold tblV
  rw [e1]
  exact ⟨rfl, hn.tabs t e2⟩
theorem s_out {n : T_Net} (hn : netGood n) {x : T_Hop} (hx : hopOk n x) : t_net_Out (tblV n x) x.At x.Header = some (outV (tblV n x) x.At x.Header) ∧ ((outV (tblV n x) x.At x.Header).2.2 = true → spotOk n.Topo (outV (tblV n x) x.At x.Header).1 ∧ 0 ≤ (outV (tblV n x) x.At x.Header).2.1 ∧ (outV (tblV n x) x.At x.Header).2.1 < 16) := by
  obtain ⟨o, e1, e2⟩ := s_Out (tblV n x) (s_tbl hn hx.at_).2 x.At x.Header hx.hd
  unfold outV
  rw [e1]
  refine ⟨rfl, fun h => ?_⟩
  obtain ⟨f1, f2, f3⟩ := e2 h
  obtain ⟨g1, g2, _⟩ := hx.at_
  simp only [Option.getD_some]
  exact ⟨⟨by rw [f1]; exact g1, by rw [f1]; exact g2, f2⟩, f3⟩
theorem s_host {n : T_Net} (hn : netGood n) (s : T_Spot) : t_topo_Host n.Topo s = some (hostV n.Topo s) ∧ ((hostV n.Topo s).2 = true → (hostV n.Topo s).1 ≠ noT) := by
  obtain ⟨o, e1, e2⟩ := s_Host n.Topo hn.topo s
  unfold hostV
  rw [e1]
  exact ⟨rfl, e2⟩
theorem s_other {n : T_Net} (hn : netGood n) (s : T_Spot) : t_topo_Other n.Topo s = some (otherV n.Topo s) ∧ ((otherV n.Topo s).2 = true → spotOk n.Topo (otherV n.Topo s).1) := by
  obtain ⟨o, e1, e2⟩ := s_Other n.Topo hn.topo s
  unfold otherV
  rw [e1]
  exact ⟨rfl, e2⟩
/-- how it goes on from a hop: 0 to the next one; else how it ends -/
noncomputable def kd (n : T_Net) (x : T_Hop) : Int × ByteArray × T_Hop :=
  if (outV (tblV n x) x.At x.Header).2.2 = true then
    if (hostV n.Topo (outV (tblV n x) x.At x.Header).1).2 = true then (1, (hostV n.Topo (outV (tblV n x) x.At x.Header).1).1, default)
    else if (otherV n.Topo (outV (tblV n x) x.At x.Header).1).2 = true then (0, noT, ⟨(otherV n.Topo (outV (tblV n x) x.At x.Header).1).1, (outV (tblV n x) x.At x.Header).2.1⟩)
    else (3, noT, default)
  else (2, noT, default)
theorem kd_ok {n : T_Net} (hn : netGood n) {x : T_Hop} (hx : hopOk n x) : ((kd n x).1 = 0 → hopOk n (kd n x).2.2) ∧ ((kd n x).1 = 1 → (kd n x).2.1 ≠ noT) ∧ ((kd n x).1 = 0 ∨ (kd n x).1 = 1 ∨ (kd n x).1 = 2 ∨ (kd n x).1 = 3) := by
  obtain ⟨_, ho⟩ := s_out hn hx
  unfold kd
  split
  · rename_i h1
    split
    · rename_i h2
      exact ⟨fun h => (by cases h), fun _ => (s_host hn _).2 h2, .inr (.inl rfl)⟩
    · split
      · rename_i h3
        exact ⟨fun _ => ⟨(s_other hn _).2 h3, (ho h1).2⟩, fun h => (by cases h), .inl rfl⟩
      · exact ⟨fun h => (by cases h), fun h => (by cases h), .inr (.inr (.inr rfl))⟩
  · exact ⟨fun h => (by cases h), fun h => (by cases h), .inr (.inr (.inl rfl))⟩
theorem idx_last {α : Type} (l : List α) (x : α) (hl : l.length ≤ 100) : idx (l ++ [x]) (wr (((l ++ [x]).length : Int) - 1)) = some x := by
  have e : (((l ++ [x]).length : Int) - 1) = (l.length : Int) := by simp
  rw [e, wr_id (by omega) (by omega), idx_nat]
  simp
/-- one step -/
noncomputable def goV (n : T_Net) (l : List T_Hop) (x : T_Hop) : Bool × T_Fate :=
  if (kd n x).1 = 0 then (if (kd n x).2.2 ∈ l ++ [x] ∨ 24 ≤ (l ++ [x]).length then (false, ⟨4, noT, l ++ [x]⟩) else (true, ⟨0, noT, l ++ [x] ++ [(kd n x).2.2]⟩))
  else (false, ⟨(kd n x).1, if (kd n x).1 = 1 then (kd n x).2.1 else noT, l ++ [x]⟩)
theorem s_Go {n : T_Net} (hn : netGood n) (l : List T_Hop) {x : T_Hop} (hx : hopOk n x) (hl : (l ++ [x]).length ≤ 24) : t_net_Go n.Topo (tblV n x) ⟨0, noT, l ++ [x]⟩ = some (goV n l x) := by
  unfold t_net_Go
  have hl2 : l.length ≤ 100 := by simp at hl; omega
  simp only [idx_last l x hl2, Option.bind_some, (s_out hn hx).1]
  unfold goV kd
  by_cases h1 : (outV (tblV n x) x.At x.Header).2.2 = true
  · simp only [h1, Bool.not_true, Bool.false_eq_true, if_false, if_true, (s_host hn _).1, Option.bind_some]
    by_cases h2 : (hostV n.Topo (outV (tblV n x) x.At x.Header).1).2 = true
    · simp [h2]
    · simp only [h2, if_false, (s_other hn _).1, Option.bind_some]
      by_cases h3 : (otherV n.Topo (outV (tblV n x) x.At x.Header).1).2 = true
      · simp only [h3, Bool.not_true, Bool.false_eq_true, if_false, if_true, Option.bind_some]
        rw [s_Contains _ (by have : maxI = 9223372036854775807 := rfl; omega)]
        simp only [Option.bind_some]
        generalize (⟨(otherV n.Topo (outV (tblV n x) x.At x.Header).1).1, (outV (tblV n x) x.At x.Header).2.1⟩ : T_Hop) = y
        by_cases h4 : y ∈ l ++ [x] ∨ 24 ≤ (l ++ [x]).length
        · have : (decide (y ∈ l ++ [x]) || decide (24 ≤ ((l ++ [x]).length : Int))) = true := by
            rcases h4 with h | h
            · simp only [Bool.or_eq_true, decide_eq_true_eq]; exact .inl h
            · simp only [Bool.or_eq_true, decide_eq_true_eq]; right; omega
          rw [if_pos this, if_pos h4]
        · have : ¬ (decide (y ∈ l ++ [x]) || decide (24 ≤ ((l ++ [x]).length : Int))) = true := by
            simp only [Bool.or_eq_true, decide_eq_true_eq]
            intro h
            exact h4 (h.elim .inl fun h => .inr (by omega))
          rw [if_neg this, if_neg h4]
          have hc : cln (l ++ [x]) = some (l ++ [x]) := if_pos (by omega)
          rw [hc]
          simp only [Option.bind_some]
          rw [app_eq (by simp at hl ⊢; omega)]
          rfl
      · simp [h3]
  · simp [h1]
noncomputable def ofF (n : T_Net) (k : T_Fate → Option T_Fate) (s : T_Fate) : Option T_Fate :=
  (idx s.Hops (wr ((List.length s.Hops : Int) - 1))).bind fun r32 => (idx n.Tables (wr (r32.At.Switch - 1))).bind fun r38 => (t_net_Go n.Topo r38 s).bind fun r42 => if r42.1 = true then k r42.2 else some r42.2
theorem ofF_step {n : T_Net} (hn : netGood n) (k : T_Fate → Option T_Fate) (l : List T_Hop) {x : T_Hop} (hx : hopOk n x) (hl : (l ++ [x]).length ≤ 24) : ofF n k ⟨0, noT, l ++ [x]⟩ = if (goV n l x).1 = true then k (goV n l x).2 else some (goV n l x).2 := by
  unfold ofF
  simp only [idx_last l x (by simp at hl; omega), Option.bind_some, (s_tbl hn hx.at_).1, s_Go hn l hx hl]
theorem s_Of (n : T_Net) (s : T_Spot) (h : Int) : t_net_Of n s h = tfix (ofF n) bigN ⟨0, noT, [] ++ [⟨s, h⟩]⟩ := by
  unfold t_net_Of t_net_Begin
  simp only [Option.bind_some, bind_some_id]
  rfl
/-- each hop is where the one ahead goes, none is there twice -/
structure InvW (n : T_Net) (l : List T_Hop) : Prop where
  walk : ∀ i a b, l[i]? = some a → l[i + 1]? = some b → (kd n a).1 = 0 ∧ (kd n a).2.2 = b
  nodup : l.Nodup
  ok : ∀ y ∈ l, hopOk n y
  len : l.length ≤ 24
structure Fin_ (n : T_Net) (f : T_Fate) (l : List T_Hop) (x : T_Hop) : Prop where
  hops : f.Hops = l ++ [x]
  inv : InvW n (l ++ [x])
  ends : ((kd n x).1 ≠ 0 ∧ f.How = (kd n x).1 ∧ f.Host = if (kd n x).1 = 1 then (kd n x).2.1 else noT) ∨ ((kd n x).1 = 0 ∧ f.How = 4 ∧ f.Host = noT)
theorem run_ex {n : T_Net} (hn : netGood n) : ∀ (d : Nat) (l : List T_Hop) (x : T_Hop) (N : Nat), (l ++ [x]).length + d = 24 → d < N → InvW n (l ++ [x]) → ∃ f q z m, tfix (ofF n) N ⟨0, noT, l ++ [x]⟩ = some f ∧ Fin_ n f q z ∧ q ++ [z] = l ++ [x] ++ m := by
  intro d
  induction d with
  | zero =>
    intro l x N hd hN hI
    obtain ⟨N, rfl⟩ : ∃ M, N = M + 1 := ⟨N - 1, by omega⟩
    rw [show tfix (ofF n) (N + 1) ⟨0, noT, l ++ [x]⟩ = ofF n (tfix (ofF n) N) ⟨0, noT, l ++ [x]⟩ from rfl, ofF_step hn _ l (hI.ok x (by simp)) hI.len]
    unfold goV
    by_cases h0 : (kd n x).1 = 0
    · have h24 : (kd n x).2.2 ∈ l ++ [x] ∨ 24 ≤ (l ++ [x]).length := .inr (by omega)
      rw [if_pos h0, if_pos h24]
      exact ⟨_, l, x, [], rfl, ⟨rfl, hI, .inr ⟨h0, rfl, rfl⟩⟩, by simp⟩
    · rw [if_neg h0]
      exact ⟨_, l, x, [], rfl, ⟨rfl, hI, .inl ⟨h0, rfl, rfl⟩⟩, by simp⟩
  | succ d ih =>
    intro l x N hd hN hI
    obtain ⟨N, rfl⟩ : ∃ M, N = M + 1 := ⟨N - 1, by omega⟩
    rw [show tfix (ofF n) (N + 1) ⟨0, noT, l ++ [x]⟩ = ofF n (tfix (ofF n) N) ⟨0, noT, l ++ [x]⟩ from rfl, ofF_step hn _ l (hI.ok x (by simp)) hI.len]
    unfold goV
    by_cases h0 : (kd n x).1 = 0
    · rw [if_pos h0]
      by_cases h1 : (kd n x).2.2 ∈ l ++ [x] ∨ 24 ≤ (l ++ [x]).length
      · rw [if_pos h1]
        exact ⟨_, l, x, [], rfl, ⟨rfl, hI, .inr ⟨h0, rfl, rfl⟩⟩, by simp⟩
      · rw [if_neg h1]
        simp only [not_or, Nat.not_le] at h1
        simp only [if_true]
        have hok := (kd_ok hn (hI.ok x (by simp))).1 h0
        have hI2 : InvW n (l ++ [x] ++ [(kd n x).2.2]) := by
          refine ⟨fun i a b ha hb => ?_, ?_, fun y hy => ?_, by rw [List.length_append]; simp only [List.length_singleton]; omega⟩
          · by_cases hi : i + 1 < (l ++ [x]).length
            · rw [List.getElem?_append_left (by omega)] at ha
              rw [List.getElem?_append_left hi] at hb
              exact hI.walk i a b ha hb
            · have hi2 := (List.getElem?_eq_some_iff.1 hb).1
              rw [List.length_append, List.length_singleton] at hi2
              have ei : i + 1 = (l ++ [x]).length := by omega
              rw [ei, List.getElem?_append_right (Nat.le_refl _), Nat.sub_self] at hb
              simp only [List.getElem?_cons_zero, Option.some.injEq] at hb
              have ei2 : i = l.length := by simp at ei; omega
              rw [ei2, List.append_assoc, List.getElem?_append_right (Nat.le_refl _), Nat.sub_self] at ha
              simp only [List.cons_append, List.getElem?_cons_zero, Option.some.injEq] at ha
              subst ha
              exact ⟨h0, hb⟩
          · rw [List.nodup_append]
            exact ⟨hI.nodup, by simp, fun a ha b hb => by simp only [List.mem_singleton] at hb; subst hb; exact fun e => h1.1 (by rw [← e]; exact ha)⟩
          · rcases List.mem_append.1 hy with h | h
            · exact hI.ok y h
            · simp only [List.mem_singleton] at h; subst h; exact hok
        obtain ⟨f, q, z, m, e1, e2, e3⟩ := ih (l ++ [x]) (kd n x).2.2 N (by rw [List.length_append]; simp only [List.length_singleton]; omega) (by omega) hI2
        exact ⟨f, q, z, (kd n x).2.2 :: m, e1, e2, by rw [e3]; simp⟩
    · rw [if_neg h0]
      exact ⟨_, l, x, [], rfl, ⟨rfl, hI, .inl ⟨h0, rfl, rfl⟩⟩, by simp⟩
/-- from any of its hops on it ends likewise -/
theorem run_det {n : T_Net} (hn : netGood n) {q : List T_Hop} {z : T_Hop} (hI : InvW n (q ++ [z])) (hz : (kd n z).1 ≠ 0) : ∀ (r l : List T_Hop) (x : T_Hop) (N : Nat), l ++ [x] ++ r = q ++ [z] → r.length < N → tfix (ofF n) N ⟨0, noT, l ++ [x]⟩ = some ⟨(kd n z).1, if (kd n z).1 = 1 then (kd n z).2.1 else noT, q ++ [z]⟩
  | [], l, x, N, he, hN => by
    obtain ⟨N, rfl⟩ : ∃ M, N = M + 1 := ⟨N - 1, by simp at hN; omega⟩
    rw [List.append_nil] at he
    obtain ⟨rfl, h2⟩ := List.append_inj' he rfl
    obtain rfl : x = z := by simpa using h2
    rw [show tfix (ofF n) (N + 1) ⟨0, noT, l ++ [x]⟩ = ofF n (tfix (ofF n) N) ⟨0, noT, l ++ [x]⟩ from rfl, ofF_step hn _ l (hI.ok x (by simp)) hI.len]
    unfold goV
    rw [if_neg hz]
    rfl
  | y :: r, l, x, N, he, hN => by
    obtain ⟨N, rfl⟩ : ∃ M, N = M + 1 := ⟨N - 1, by simp at hN; omega⟩
    have hlen : (l ++ [x]).length + 1 + r.length ≤ 24 := by
      have := hI.len
      rw [← he] at this
      rw [List.length_append, List.length_cons] at this
      omega
    have hok : hopOk n x := hI.ok x (by rw [← he]; simp)
    rw [show tfix (ofF n) (N + 1) ⟨0, noT, l ++ [x]⟩ = ofF n (tfix (ofF n) N) ⟨0, noT, l ++ [x]⟩ from rfl, ofF_step hn _ l hok (by omega)]
    obtain ⟨h0, h1⟩ := hI.walk l.length x y (by rw [← he]; simp) (by rw [← he, List.append_assoc, List.getElem?_append_right (by omega)]; simp)
    have hny : y ∉ l ++ [x] := by
      have := hI.nodup
      rw [← he, List.nodup_append] at this
      exact fun h => this.2.2 y h y (by simp) rfl
    unfold goV
    have hno : ¬ (y ∈ l ++ [x] ∨ 24 ≤ (l ++ [x]).length) := fun h => h.elim hny fun h => by omega
    rw [if_pos h0, h1, if_neg hno]
    simp only [if_true]
    exact run_det hn hI hz r (l ++ [x]) y N (by rw [← he]; simp) (by simp at hN; omega)
theorem s_ready (n : T_Net) (hn : ∀ h ∈ n.Topo.Hosts, (h.Name.size : Int) ≤ maxI) (s : T_Spot) (h : Int) : ∃ c, t_net_ready n s h = some c ∧ (c = 0 → netGood n ∧ t_net_Check n = some 0 ∧ spotOk n.Topo s ∧ 0 ≤ h ∧ h < 16) ∧ (t_net_Check n = some 0 → spotOk n.Topo s → 0 ≤ h → h < 16 → c = 0) := by
  unfold t_net_ready
  obtain ⟨c, e1, e2⟩ := s_netCheck n hn
  obtain ⟨b, f1, f2⟩ := s_Spot n.Topo s
  obtain ⟨b2, g1, g2⟩ := s_Header h
  rw [e1, f1, g1]
  simp only [Option.bind_some]
  by_cases hc : c = 0
  · subst hc
    simp only [decide_true, Bool.not_true, Bool.false_eq_true, if_false]
    cases hb : b with
    | false => exact ⟨1, by simp [gd], fun h => (by cases h), fun _ h _ _ => by rw [f2.2 h] at hb; cases hb⟩
    | true =>
      cases hb2 : b2 with
      | false => exact ⟨1, by simp [gd], fun h => (by cases h), fun _ _ h1 h2 => by rw [g2.2 ⟨h1, h2⟩] at hb2; cases hb2⟩
      | true => exact ⟨0, by simp [gd], fun _ => ⟨e2 rfl, trivial, f2.1 hb, g2.1 hb2⟩, fun _ _ _ _ => rfl⟩
  · refine ⟨c, by simp [hc], fun h => absurd h hc, fun h => ?_⟩
    have := Option.some.inj h
    exact absurd this hc
theorem s_From (n : T_Net) (hn : ∀ h ∈ n.Topo.Hosts, (h.Name.size : Int) ≤ maxI) (s : T_Spot) (h : Int) : ∃ r, t_net_From n s h = some r ∧ (r.2 = 0 → netGood n ∧ t_net_Check n = some 0 ∧ spotOk n.Topo s ∧ (0 ≤ h ∧ h < 16) ∧ ∃ q z m, Fin_ n r.1 q z ∧ q ++ [z] = [⟨s, h⟩] ++ m) := by
  unfold t_net_From
  obtain ⟨c, e1, e2, _⟩ := s_ready n hn s h
  rw [e1]
  simp only [Option.bind_some]
  by_cases hc : c = 0
  · subst hc
    obtain ⟨g1, g2, g3, g4, g5⟩ := e2 rfl
    obtain ⟨f, q, z, m, h1, h2, h3⟩ := run_ex g1 23 [] ⟨s, h⟩ bigN rfl (Nat.lt_trans (by decide) bigN_gt) ⟨fun i a b _ hb => by simp at hb, by simp, fun y hy => by simp at hy; subst hy; exact ⟨g3, g4, g5⟩, by simp⟩
    rw [s_Of, h1]
    exact ⟨(f, 0), by simp, fun _ => ⟨g1, g2, g3, ⟨g4, g5⟩, q, z, m, h2, h3⟩⟩
  · exact ⟨(⟨0, noT, []⟩, c), by simp [hc], fun h => absurd h hc⟩
end Go.Proofs.Ytpkcdfgjcodidaa.Ty
