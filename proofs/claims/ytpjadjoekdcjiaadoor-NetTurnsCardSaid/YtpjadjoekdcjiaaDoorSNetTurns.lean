/- NetTurns, as it is read: no memory in sight. -/
import Derived.Test.YtpjadjoekdcjiaaDoorSWalk
namespace Go.Proofs.YtpjadjoekdcjiaaDoor.Ty
open Go Go.RowKit Go.Proofs.YtpjadjoekdcjiaaDoor.Den
set_option linter.unusedSimpArgs false
set_option linter.unusedVariables false
set_option maxRecDepth 100000

theorem tfix_at {σ β : Type} {F : (σ → Option β) → σ → Option β} {s : σ} {v : Option β} (c : Nat) (hc : c ≤ 100) (h : ∀ n, tfix F (n + c) s = v) : tfix F bigN s = v := by
  obtain ⟨n, hn⟩ : ∃ n, bigN = n + c := ⟨bigN - c, by have := bigN_gt; omega⟩
  rw [hn]; exact h n
def T2 : T_Topo := ⟨2, [⟨⟨1, 2⟩, ⟨2, 1⟩⟩], [⟨ByteArray.mk #[97], ⟨1, 3⟩⟩, ⟨ByteArray.mk #[98], ⟨2, 4⟩⟩]⟩
theorem line_2 : t_raillaw4_line 2 = some T2 := by kernel_rfl
def nO : T_Net := ⟨T2, [[], []]⟩
def nA : T_Net := ⟨T2, [[⟨1, ⟨0, 0⟩, 2, 0, 0⟩], [⟨1, ⟨0, 0⟩, 1, 0, 0⟩]]⟩
def nB (h : Int) : T_Net := ⟨T2, [[⟨1, ⟨0, 0⟩, 2, 0, 0⟩], [⟨5, ⟨15, h⟩, 0, 0, 0⟩, ⟨1, ⟨0, 0⟩, 1, 0, 0⟩]]⟩
theorem nO_chk : t_net_Check nO = some 0 := by kernel_rfl
theorem nA_chk : t_net_Check nA = some 0 := by kernel_rfl
theorem T2_where : t_topo_Where T2 (ByteArray.mk #[97]) = some (⟨1, 3⟩, 0) := by kernel_rfl
theorem nB_chk : ∀ i : Fin 16, t_net_Check (nB (i.val : Int)) = some 0
  | ⟨0, _⟩ => by kernel_rfl
  | ⟨1, _⟩ => by kernel_rfl
  | ⟨2, _⟩ => by kernel_rfl
  | ⟨3, _⟩ => by kernel_rfl
  | ⟨4, _⟩ => by kernel_rfl
  | ⟨5, _⟩ => by kernel_rfl
  | ⟨6, _⟩ => by kernel_rfl
  | ⟨7, _⟩ => by kernel_rfl
  | ⟨8, _⟩ => by kernel_rfl
  | ⟨9, _⟩ => by kernel_rfl
  | ⟨10, _⟩ => by kernel_rfl
  | ⟨11, _⟩ => by kernel_rfl
  | ⟨12, _⟩ => by kernel_rfl
  | ⟨13, _⟩ => by kernel_rfl
  | ⟨14, _⟩ => by kernel_rfl
  | ⟨15, _⟩ => by kernel_rfl
  | ⟨n + 16, h⟩ => absurd h (by omega)
theorem nA_of : ∀ (i : Fin 16) (n : Nat), (tfix (ofF nA) (n + 6) ⟨0, noT, [] ++ [⟨⟨1, 3⟩, (i.val : Int)⟩]⟩).map (fun f => (f.How, f.Hops.length)) = some (4, 3)
  | ⟨0, _⟩, n => by kernel_rfl
  | ⟨1, _⟩, n => by kernel_rfl
  | ⟨2, _⟩, n => by kernel_rfl
  | ⟨3, _⟩, n => by kernel_rfl
  | ⟨4, _⟩, n => by kernel_rfl
  | ⟨5, _⟩, n => by kernel_rfl
  | ⟨6, _⟩, n => by kernel_rfl
  | ⟨7, _⟩, n => by kernel_rfl
  | ⟨8, _⟩, n => by kernel_rfl
  | ⟨9, _⟩, n => by kernel_rfl
  | ⟨10, _⟩, n => by kernel_rfl
  | ⟨11, _⟩, n => by kernel_rfl
  | ⟨12, _⟩, n => by kernel_rfl
  | ⟨13, _⟩, n => by kernel_rfl
  | ⟨14, _⟩, n => by kernel_rfl
  | ⟨15, _⟩, n => by kernel_rfl
  | ⟨m + 16, h⟩, n => absurd h (by omega)
theorem nB_of : ∀ (i : Fin 16) (n : Nat), (tfix (ofF (nB (i.val : Int))) (n + 6) ⟨0, noT, [] ++ [⟨⟨1, 3⟩, (i.val : Int)⟩]⟩).map (fun f => (f.How, f.Hops.length)) = some (2, 2)
  | ⟨0, _⟩, n => by kernel_rfl
  | ⟨1, _⟩, n => by kernel_rfl
  | ⟨2, _⟩, n => by kernel_rfl
  | ⟨3, _⟩, n => by kernel_rfl
  | ⟨4, _⟩, n => by kernel_rfl
  | ⟨5, _⟩, n => by kernel_rfl
  | ⟨6, _⟩, n => by kernel_rfl
  | ⟨7, _⟩, n => by kernel_rfl
  | ⟨8, _⟩, n => by kernel_rfl
  | ⟨9, _⟩, n => by kernel_rfl
  | ⟨10, _⟩, n => by kernel_rfl
  | ⟨11, _⟩, n => by kernel_rfl
  | ⟨12, _⟩, n => by kernel_rfl
  | ⟨13, _⟩, n => by kernel_rfl
  | ⟨14, _⟩, n => by kernel_rfl
  | ⟨15, _⟩, n => by kernel_rfl
  | ⟨m + 16, h⟩, n => absurd h (by omega)
theorem of_map {N : T_Net} {s : T_Spot} {h : Int} {r : Int × Nat} (k : ∀ n : Nat, (tfix (ofF N) (n + 6) ⟨0, noT, [] ++ [⟨s, h⟩]⟩).map (fun f => (f.How, f.Hops.length)) = some r) : ∃ f, t_net_Of N s h = some f ∧ f.How = r.1 ∧ f.Hops.length = r.2 := by
  rw [s_Of]
  obtain ⟨n, hn⟩ : ∃ n, bigN = n + 6 := ⟨bigN - 6, by have := bigN_gt; omega⟩
  rw [hn]
  obtain ⟨f, hf, rfl⟩ := Option.map_eq_some_iff.1 (k n)
  exact ⟨f, hf, rfl, rfl⟩
theorem send_a {N : T_Net} (hN : N.Topo = T2) (hc : t_net_Check N = some 0) (h : Int) : t_net_Send N (ByteArray.mk #[97]) h = (t_cube_Header h).bind fun b => if (!b) = true then some (⟨0, ByteArray.mk #[], []⟩, 1) else (t_net_Of N ⟨1, 3⟩ h).bind fun f => some (f, 0) := by
  unfold t_net_Send
  rw [hc]
  simp only [Option.bind_some, decide_true, Bool.not_true, Bool.false_eq_true, if_false]
  rw [hN, T2_where]
  simp only [Option.bind_some, decide_true, Bool.not_true, Bool.false_eq_true, if_false]
theorem walk_NetTurns (a0 : Int) (u0 : wi64 a0) : t_raillaw4_NetTurns a0 = some true := by
  unfold t_raillaw4_NetTurns
  rw [line_2]
  simp only [Option.bind_some]
  obtain ⟨b, hb, hbi⟩ := s_Header a0
  by_cases h : a0 < 0 ∨ 15 < a0
  · rw [if_pos (by simpa using h)]
    have hf : b = false := by
      cases b with
      | false => rfl
      | true => have := hbi.1 rfl; omega
    rw [show (T_Net.mk T2 ([[], []] : List (List T_Rule))) = nO from rfl, send_a rfl nO_chk, hb, hf]
    rfl
  · rw [if_neg (by simpa using h)]
    have ht : b = true := hbi.2 (by omega)
    subst ht
    obtain ⟨i, rfl⟩ : ∃ i : Fin 16, a0 = (i.val : Int) := ⟨⟨a0.toNat, by omega⟩, by simp; omega⟩
    obtain ⟨f, f1, f2, f3⟩ := of_map (nA_of i)
    obtain ⟨g, g1, g2, g3⟩ := of_map (nB_of i)
    rw [show (T_Net.mk T2 ([([(T_Rule.mk 1 (T_Cube.mk 0 0) 2 0 0)] : (List T_Rule)), ([(T_Rule.mk 1 (T_Cube.mk 0 0) 1 0 0)] : (List T_Rule))] : (List (List T_Rule)))) = nA from rfl,
      show (T_Net.mk T2 ([([(T_Rule.mk 1 (T_Cube.mk 0 0) 2 0 0)] : (List T_Rule)), ([(T_Rule.mk 5 (T_Cube.mk 15 (i.val : Int)) 0 0 0), (T_Rule.mk 1 (T_Cube.mk 0 0) 1 0 0)] : (List T_Rule))] : (List (List T_Rule)))) = nB (i.val : Int) from rfl,
      send_a rfl nA_chk, send_a rfl (nB_chk i), hb]
    simp only [Option.bind_some, Bool.not_true, Bool.false_eq_true, if_false, f1, g1]
    rw [if_neg (by simp [f2, f3])]
    simp [g2, g3]
end Go.Proofs.YtpjadjoekdcjiaaDoor.Ty
