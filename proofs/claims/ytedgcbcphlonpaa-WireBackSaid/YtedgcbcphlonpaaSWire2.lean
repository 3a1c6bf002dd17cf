/- What cutting bytes into messages comes to. -/
import Derived.Test.YtedgcbcphlonpaaSWire
namespace Go.Proofs.Ytedgcbcphlonpaa.Ty
open Go Go.RowKit Go.Proofs.Ytedgcbcphlonpaa.Den
set_option linter.unusedSimpArgs false
set_option linter.unusedVariables false
set_option maxRecDepth 100000

theorem wcut_len : ∀ (n : Nat) (s : ByteArray), s.size ≤ n → ∀ {p : List T_Msg × ByteArray}, wcut s = some p → p.1.length ≤ s.size
  | n, s, hn, p, h => by
    rw [wcut] at h
    split at h
    · cases h; simp
    · split at h
      · cases h
      · split at h
        · cases h; simp
        · split at h
          · cases h
          · rename_i h0 h1 h2 m hm
            have hr := wsize_range (bAt s 0)
            have hl := ext_size s (wsize (bAt s 0)).toNat s.size (by omega) (Nat.le_refl _)
            obtain ⟨p, hp, rfl⟩ := Option.map_eq_some_iff.1 h
            cases n with
            | zero => omega
            | succ n =>
              have ih := wcut_len n _ (by omega) hp
              simp only [List.length_cons]
              omega
variable {β : Type}
/-- a step of the cutting -/
def cutS (bad : β) (fin : List T_Msg → ByteArray → β) (k : ByteArray × List T_Msg → Option β) (s : ByteArray) (out : List T_Msg) : Option β :=
  if s.size = 0 then some (fin out s)
  else if wsize (bAt s 0) = 0 then some bad
  else if (s.size : Int) < wsize (bAt s 0) then some (fin out s)
  else match wdec (s.extract 0 (wsize (bAt s 0)).toNat) with
    | none => some bad
    | some m => (app out [m]).bind fun r => k (s.extract (wsize (bAt s 0)).toNat s.size, r)
def cutV (bad : β) (fin : List T_Msg → ByteArray → β) (s : ByteArray) (out : List T_Msg) : β := match wcut s with
  | none => bad
  | some p => fin (out ++ p.1) p.2
theorem cut_fix {F : (ByteArray × List T_Msg → Option β) → ByteArray × List T_Msg → Option β} {bad : β} {fin : List T_Msg → ByteArray → β}
    (hF : ∀ k s out, F k (s, out) = cutS bad fin k s out) : ∀ (n : Nat) (s : ByteArray) (out : List T_Msg), s.size < n → out.length + s.size ≤ 100000000 → tfix F n (s, out) = some (cutV bad fin s out)
  | 0, s, out, h, _ => absurd h (Nat.not_lt_zero _)
  | n + 1, s, out, h, ho => by
    rw [tfix, hF]
    unfold cutS cutV
    rw [wcut]
    by_cases h0 : s.size = 0
    · rw [if_pos h0, dif_pos h0]; simp
    · rw [if_neg h0, dif_neg h0]
      by_cases h1 : wsize (bAt s 0) = 0
      · rw [if_pos h1, dif_pos h1]
      · rw [if_neg h1, dif_neg h1]
        by_cases h2 : (s.size : Int) < wsize (bAt s 0)
        · rw [if_pos h2, dif_pos h2]; simp
        · rw [if_neg h2, dif_neg h2]
          cases hd : wdec (s.extract 0 (wsize (bAt s 0)).toNat) with
          | none => rfl
          | some m =>
            have hr := wsize_range (bAt s 0)
            have hl := ext_size s (wsize (bAt s 0)).toNat s.size (by omega) (Nat.le_refl _)
            show ((app out [m]).bind fun r => _) = _
            rw [app_eq (by simp; omega), Option.bind_some, cut_fix hF n _ (out ++ [m]) (by omega) (by simp; omega)]
            unfold cutV
            cases wcut (s.extract (wsize (bAt s 0)).toNat s.size) <;> simp
theorem sslc_lo_eq {s : ByteArray} {i : Int} (h0 : 0 ≤ i) (h : i ≤ s.size) : sslc_lo s i = some (s.extract i.toNat s.size) := if_pos ⟨h0, h⟩
theorem sslc_hi_eq {s : ByteArray} {i : Int} (h0 : 0 ≤ i) (h : i ≤ s.size) : sslc_hi s i = some (s.extract 0 i.toNat) := if_pos ⟨h0, h⟩
theorem s_Cut (s : ByteArray) (h : s.size ≤ 10000000) : t_wire_Cut s = some (cutV ([], ByteArray.mk #[], 2) (fun out s => (out, s, 0)) s []) := by
  unfold t_wire_Cut
  rw [join_eq]
  refine cut_fix (fun k s out => ?_) bigN s [] (Nat.lt_of_le_of_lt h (Nat.lt_trans (by decide +kernel) bigN_gt)) (by simp; omega)
  unfold cutS
  by_cases h0 : s.size = 0
  · rw [if_pos h0]
    have e := empty_iff.2 h0
    simp only [e, decide_true, Bool.not_true, Bool.false_eq_true, if_false]
  · rw [if_neg h0]
    have e : ¬ s = ByteArray.mk #[] := fun e => h0 (empty_iff.1 e)
    have hi : sidx s 0 = some (bAt s 0) := sidx_eq (i := 0) (by omega)
    simp only [e, decide_false, Bool.not_false, if_true, hi, Option.bind_some, s_size, wr_bAt, decide_eq_true_eq]
    have hr := wsize_range (bAt s 0)
    by_cases h1 : wsize (bAt s 0) = 0
    · rw [if_pos h1, if_pos h1]
    · rw [if_neg h1, if_neg h1]
      by_cases h2 : (s.size : Int) < wsize (bAt s 0)
      · rw [if_pos h2, if_pos h2]
      · rw [if_neg h2, if_neg h2, sslc_hi_eq (by omega) (by omega), Option.bind_some, s_Decode, Option.bind_some]
        cases hd : wdec (s.extract 0 (wsize (bAt s 0)).toNat) with
        | none => rfl
        | some m =>
          rw [if_neg (by simp [decE]), sslc_lo_eq (by omega) (by omega), Option.bind_some]
          rfl
end Go.Proofs.Ytedgcbcphlonpaa.Ty
