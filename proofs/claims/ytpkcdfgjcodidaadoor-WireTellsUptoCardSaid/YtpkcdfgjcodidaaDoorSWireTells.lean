/- WireTells, as it is read: no memory in sight. -/
import Derived.Test.YtpkcdfgjcodidaaDoorSWire2
import Derived.Test.YtpkcdfgjcodidaaDoorVcS
namespace Go.Proofs.YtpkcdfgjcodidaaDoor.Ty
open Go Go.RowKit Go.Proofs.YtpkcdfgjcodidaaDoor.Den
set_option linter.unusedSimpArgs false
set_option linter.unusedVariables false
set_option maxRecDepth 100000

theorem goI_eqM {step : Int → T_Msg → Unit → (Unit → Option Bool) → Option Bool} {fin : Unit → Option Bool} (hf : fin () = some true) (b : List T_Msg) : ∀ (l : List T_Msg) (i : Nat), l.length + i = b.length → (∀ x i k, step i x () k = (idx b i).bind fun r => if (!decide (x = r)) = true then some false else k ()) → goI step fin (i : Int) l () = some (decide (l = b.drop i))
  | [], i, hi, _ => by
    have : b.drop i = [] := List.drop_eq_nil_of_le (by simp at hi; omega)
    rw [goI, hf, this]; rfl
  | x :: l, i, hi, h => by
    have hlt : i < b.length := by simp at hi; omega
    rw [goI, h, idx_nat, List.getElem?_eq_getElem hlt, Option.bind_some, List.drop_eq_getElem_cons hlt]
    have := goI_eqM hf b l (i + 1) (by simp at hi; omega) h
    rw [show ((i + 1 : Nat) : Int) = (i : Int) + 1 by omega] at this
    rw [this]
    by_cases e : x = b[i]
    · rw [if_neg (by simp [e])]
      congr 1
      rw [decide_eq_decide]
      exact ⟨fun h => by rw [e, h], fun h => (List.cons.inj h).2⟩
    · rw [if_pos (by simpa using e)]
      exact congrArg some (decide_eq_false fun h => e (List.cons.inj h).1).symm
theorem s_Msgs (a b : List T_Msg) (ha : (a.length : Int) ≤ maxI) : t_railsame_Msgs a b = some (decide (a = b)) := by
  unfold t_railsame_Msgs
  by_cases h : a.length = b.length
  · rw [if_neg (by simp [h])]
    simp only [join_eq, loopI_eq ha]
    exact goI_eqM rfl b a 0 (by simpa using h) fun x i k => rfl
  · rw [if_pos (by simpa using fun z => h (by omega)), decide_eq_false (fun e => h (by rw [e]))]
theorem wcut_len : ∀ (n : Nat) (s : ByteArray), s.size ≤ n → ∀ {p : List T_Msg × ByteArray}, wcut s = some p → p.1.length ≤ s.size
  | n, s, hn, p, h => by
    rw [wcut] at h
    split at h
    · cases h; simp
    · split at h
      · cases h
      · split at h
        · cases h; simp
        · split at h
          · cases h
          · rename_i h0 h1 h2 m hm
            have hr := wsize_range (bAt s 0)
            have hl := ext_size s (wsize (bAt s 0)).toNat s.size (by omega) (Nat.le_refl _)
            obtain ⟨p, hp, rfl⟩ := Option.map_eq_some_iff.1 h
            cases n with
            | zero => omega
            | succ n =>
              have ih := wcut_len n _ (by omega) hp
              simp only [List.length_cons]
              omega
theorem law_WireTells (a0 : T_Msg) (a1 : ByteArray) (u0 : T_Msg.wf 1048576 a0) (u1 : wS 1048576 a1) : t_raillaw2_WireTells a0 a1 = some true := by
  have hs : a1.size ≤ 10000000 := Nat.le_trans u1 (by omega)
  unfold t_raillaw2_WireTells
  simp only [s_rMsg, s_Encode, s_rDecode, s_Decode, s_Cut a1 hs, s_rCut a1 hs, Option.bind_some, t_railsame_Error]
  have e1 : (if decide (a0.chk = 0) = true then (t_railref2_Bytes a0).bind fun r96 => some r96 else some (ByteArray.mk #[])) = some (if a0.chk = 0 then a0.text else ByteArray.mk #[]) := by
    by_cases h : a0.chk = 0
    · rw [if_pos (decide_eq_true h), if_pos h, s_Bytes a0 h]; rfl
    · rw [if_neg (by simpa using h), if_neg h]
  rw [e1, Option.bind_some]
  have e2 : (if a0.chk = 0 then (a0.text, (0 : Int)) else (ByteArray.mk #[], a0.chk)) = (if a0.chk = 0 then a0.text else ByteArray.mk #[], a0.chk) := by
    by_cases h : a0.chk = 0
    · rw [if_pos h, if_pos h, h]
    · rw [if_neg h, if_neg h]
  rw [e2]
  unfold cutV
  cases hd : wdec a1 with
  | none =>
    cases hc : wcut a1 with
    | none => simp [decM, decE, s_Msgs, maxI]
    | some p =>
      have hl := wcut_len _ a1 (Nat.le_refl _) hc
      simp [decM, decE, s_Msgs p.1 p.1 (by unfold maxI; omega)]
  | some m =>
    cases hc : wcut a1 with
    | none => simp [decM, decE, s_Msgs, maxI]
    | some p =>
      have hl := wcut_len _ a1 (Nat.le_refl _) hc
      simp [decM, decE, s_Msgs p.1 p.1 (by unfold maxI; omega)]
end Go.Proofs.YtpkcdfgjcodidaaDoor.Ty
