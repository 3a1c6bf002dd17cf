/- WireBack, as it is read: no memory in sight. -/
import Derived.Test.YtedgcbcphlonpaaSWire2
import Derived.Test.YtedgcbcphlonpaaVcS
namespace Go.Proofs.Ytedgcbcphlonpaa.Ty
open Go Go.RowKit Go.Proofs.Ytedgcbcphlonpaa.Den
set_option linter.unusedSimpArgs false
set_option linter.unusedVariables false
set_option maxRecDepth 100000

/-- where messages end, one behind the other -/
def ends (q : List T_Msg) : List Int := (List.range q.length).map fun j => ((cat (q.take (j + 1))).size : Int)
theorem ends_len (q : List T_Msg) : (ends q).length = q.length := by simp [ends]
theorem ends_at (q : List T_Msg) {j : Nat} (h : j < q.length) : (ends q)[j]'(by rw [ends_len]; exact h) = ((cat (q.take (j + 1))).size : Int) := by simp [ends]
theorem ends_snoc (q : List T_Msg) (x : T_Msg) : ends (q ++ [x]) = ends q ++ [((cat (q ++ [x])).size : Int)] := by
  unfold ends
  rw [List.length_append, List.length_singleton, List.range_succ, List.map_append]
  congr 1
  · refine List.map_congr_left fun j hj => ?_
    have hj := List.mem_range.1 hj
    rw [List.take_append_of_le_length (by omega)]
  · rw [List.map_singleton, List.take_of_length_le (by simp)]
theorem cat_size : ∀ (q : List T_Msg), (∀ m ∈ q, m.chk = 0) → (cat q).size ≤ 12 * q.length
  | [], _ => by simp [cat]
  | x :: q, h => by
    have h1 := T_Msg.text_size (h x (by simp))
    have h2 := wsize_range x.Kind
    have := cat_size q fun m hm => h m (by simp [hm])
    simp only [cat, ByteArray.size_append, List.length_cons]
    omega
theorem cat_snoc (q : List T_Msg) (x : T_Msg) : cat (q ++ [x]) = cat q ++ x.text := by
  rw [cat_append]; simp [cat]
/-- how many messages end by c -/
theorem goI_ends {step : Int → Int → Int → (Int → Option (Int × Int)) → Option (Int × Int)} {fin : Int → Option (Int × Int)} {q : List T_Msg} {c : Int} (hf : ∀ s, fin s = some ((q.length : Int), s)) (hs : ∀ i x s k, step i x s k = if (decide (x ≤ c)) = true then k x else some (i, s)) :
    ∀ (m i : Nat), i + m = q.length → ((cat (q.take i)).size : Int) ≤ c → ∃ n : Nat, n ≤ q.length ∧ ((cat (q.take n)).size : Int) ≤ c ∧ (n < q.length → c < ((cat (q.take (n + 1))).size : Int)) ∧
      goI step fin (i : Int) ((ends q).drop i) ((cat (q.take i)).size : Int) = some ((n : Int), ((cat (q.take n)).size : Int))
  | 0, i, hi, hc => by
    refine ⟨q.length, Nat.le_refl _, by simpa [show i = q.length by omega] using hc, fun h => absurd h (Nat.lt_irrefl _), ?_⟩
    rw [List.drop_eq_nil_of_le (by rw [ends_len]; omega), goI, hf, show i = q.length by omega]
  | m + 1, i, hi, hc => by
    have hlt : i < q.length := by omega
    rw [List.drop_eq_getElem_cons (by rw [ends_len]; exact hlt), ends_at q hlt, goI, hs]
    by_cases h : ((cat (q.take (i + 1))).size : Int) ≤ c
    · rw [if_pos (decide_eq_true h), show (i : Int) + 1 = ((i + 1 : Nat) : Int) by omega]
      exact goI_ends hf hs m (i + 1) (by omega) h
    · rw [if_neg (by simpa using h)]
      exact ⟨i, by omega, hc, fun _ => by omega, rfl⟩
/-- what is the same up to n -/
theorem goU_pass {step : Int → Unit → (Unit → Option Bool) → Option Bool} {fin : Int → Unit → Option Bool} : ∀ (m i : Nat), (∀ j, i ≤ j → j < i + m → ∀ k, step (j : Int) () k = k ()) → goU step fin m (i : Int) () = fin ((i + m : Nat) : Int) ()
  | 0, i, _ => rfl
  | m + 1, i, h => by
    rw [goU, h i (Nat.le_refl _) (by omega), show (i : Int) + 1 = ((i + 1 : Nat) : Int) by omega, goU_pass m (i + 1) fun j h1 h2 k => h j (by omega) (by omega) k]
    rw [show i + 1 + m = i + (m + 1) by omega]
theorem goU_pass0 {step : Int → Unit → (Unit → Option Bool) → Option Bool} {fin : Int → Unit → Option Bool} (m : Nat) (h : ∀ j : Nat, j < m → ∀ k, step (j : Int) () k = k ()) : goU step fin m 0 () = fin (m : Int) () := by
  have := goU_pass (step := step) (fin := fin) m 0 fun j _ h2 k => h j (by omega) k
  rwa [Nat.zero_add] at this
/-- once they are not the same -/
theorem goI_off {step : Int → T_Msg → Bool → (Bool → Option Bool) → Option Bool} {fin : Bool → Option Bool} (hf : ∀ s, fin s = some s) (hs : ∀ i x k, step i x false k = some false) : ∀ (l : List T_Msg) (i : Int), goI step fin i l false = some false
  | [], i => by rw [goI, hf]
  | x :: l, i => by rw [goI, hs]
theorem goI_same {step : Int → T_Msg → Bool → (Bool → Option Bool) → Option Bool} {fin : Bool → Option Bool} {b : List T_Msg} (hf : ∀ s, fin s = some s) (h0 : ∀ i x k, step i x false k = some false) (hs : ∀ i x k, step i x true k = (idx b i).bind fun r => k (decide (x = r))) : ∀ (l : List T_Msg) (i : Nat), l.length + i = b.length → goI step fin (i : Int) l true = some (decide (l = b.drop i))
  | [], i, hi => by
    have : b.drop i = [] := List.drop_eq_nil_of_le (by simp at hi; omega)
    rw [goI, hf, this]; rfl
  | x :: l, i, hi => by
    have hlt : i < b.length := by simp at hi; omega
    rw [goI, hs, idx_nat, List.getElem?_eq_getElem hlt, Option.bind_some, List.drop_eq_getElem_cons hlt, show (i : Int) + 1 = ((i + 1 : Nat) : Int) by omega]
    by_cases e : x = b[i]
    · rw [decide_eq_true e, goI_same hf h0 hs l (i + 1) (by simp at hi; omega)]
      congr 1
      rw [decide_eq_decide]
      exact ⟨fun h => by rw [e, h], fun h => (List.cons.inj h).2⟩
    · rw [decide_eq_false e, goI_off hf h0]
      exact congrArg some (decide_eq_false fun h => e (List.cons.inj h).1).symm
theorem goI_same0 {step : Int → T_Msg → Bool → (Bool → Option Bool) → Option Bool} {fin : Bool → Option Bool} {b : List T_Msg} (hf : ∀ s, fin s = some s) (h0 : ∀ i x k, step i x false k = some false) (hs : ∀ i x k, step i x true k = (idx b i).bind fun r => k (decide (x = r))) (l : List T_Msg) (h : l.length = b.length) : goI step fin 0 l true = some (decide (l = b)) := by
  have := goI_same hf h0 hs l 0 h
  rwa [List.drop_zero] at this
theorem numsOf_range (s : ByteArray) : ∀ z ∈ numsOf s, 0 ≤ z ∧ z < 256 := by
  intro z hz
  unfold numsOf at hz
  obtain ⟨b, _, rfl⟩ := List.mem_map.1 hz
  have := b.toNat_lt
  omega
theorem strNums_set (s : ByteArray) (i : Nat) (h : i < s.size) (z : Int) (hz : 0 ≤ z ∧ z < 256) : bAt (strOfNums ((numsOf s).set i z)) i = z := by
  rw [bAt_nums _ (fun y hy => ?_) i (by rw [List.length_set, numsOf_len]; exact h)]
  · simp
  · rcases List.mem_or_eq_of_mem_set hy with hy | rfl
    · exact numsOf_range s y hy
    · exact hz
/-- one byte of messages is another one: they are not those messages -/
theorem changed {l q t : List T_Msg} (hl : l = q ++ t) {i : Nat} (hi : i < (cat q).size) {z : Int} (hz : 0 ≤ z ∧ z < 256) (hne : bAt (cat q) i ≠ z) {ms : List T_Msg} {rest : ByteArray} (hc : wcut (strOfNums ((numsOf (cat q)).set i z)) = some (ms, rest)) : ms ≠ l := by
  intro e
  have h1 := wcut_some _ _ (Nat.le_refl _) hc
  have h2 := strNums_set (cat q) i hi z hz
  rw [h1, e, hl, cat_append, ByteArray.append_assoc, bAt_left hi] at h2
  exact hne h2
theorem u8_of {z : Int} (h : wu8 z) : 0 ≤ z ∧ z < 256 := h

theorem join_top {a0 : List T_Msg} {K : ByteArray × List Int → Option Bool} {B : (ByteArray × List Int → Option Bool) → Option Bool} (h : ∀ J : ByteArray × List Int → Option Bool, (∀ q t : List T_Msg, a0 = q ++ t → q.length ≤ 20 → (∀ m ∈ q, m.chk = 0) → J (cat q, ends q) = some true) → B J = some true)
    (top : ∀ q t : List T_Msg, a0 = q ++ t → q.length ≤ 20 → (∀ m ∈ q, m.chk = 0) → K (cat q, ends q) = some true) : join K B = some true := h K top
theorem loop_top {a0 : List T_Msg} {J : ByteArray × List Int → Option Bool} (top : ∀ q t : List T_Msg, a0 = q ++ t → q.length ≤ 20 → (∀ m ∈ q, m.chk = 0) → J (cat q, ends q) = some true)
    {step : Int → T_Msg → ByteArray × List Int → (ByteArray × List Int → Option Bool) → Option Bool} {fin : ByteArray × List Int → Option Bool} (hf : ∀ s, fin s = J (s.1, s.2))
    (hs : ∀ i x s k, step i x s k = if (decide (i < 20)) = true then (t_wire_Encode x).bind fun r264 =>
      if (!decide (r264.2 = 0)) = true then (t_railref2_Msg x).bind fun r272 => some (decide (r272 ≠ 0)) else
      (t_wire_Decode r264.1).bind fun r275 => if ((!decide (r275.2 = 0)) || (!decide (r275.1 = x))) = true then some false else
      need (decide ((s.1.size : Int) + r264.1.size ≤ maxI)) ((app s.2 ([((s.1 ++ r264.1).size : Int)] : (List Int))).bind fun r302 => k ((s.1 ++ r264.1), r302)) else J (s.1, s.2)) :
    ∀ (t q : List T_Msg), a0 = q ++ t → q.length ≤ 20 → (∀ m ∈ q, m.chk = 0) → goI step fin (q.length : Int) t (cat q, ends q) = some true
  | [], q, hq, h20, hc => by rw [goI, hf]; exact top q [] hq h20 hc
  | x :: t, q, hq, h20, hc => by
    have hz := cat_size q hc
    rw [goI, hs]
    by_cases h : q.length < 20
    · rw [if_pos (decide_eq_true (by omega)), s_Encode, Option.bind_some]
      by_cases hx : x.chk = 0
      · have h1 := T_Msg.text_size hx
        have h2 := wsize_range x.Kind
        rw [if_pos hx, if_neg (by simp), s_Decode, Option.bind_some, wdec_text hx, if_neg (by simp [decM, decE]), need_pos (decide_eq_true (by dsimp only; unfold maxI; omega)), app_eq (by rw [ends_len]; simp; omega), Option.bind_some]
        have e := loop_top top hf hs t (q ++ [x]) (by rw [hq]; simp) (by simp; omega) (by
          intro m hm
          rcases List.mem_append.1 hm with hm | hm
          · exact hc m hm
          · rw [List.mem_singleton.1 hm]; exact hx)
        rw [cat_snoc, ends_snoc, cat_snoc, List.length_append, List.length_singleton] at e
        rw [show (q.length : Int) + 1 = ((q.length + 1 : Nat) : Int) by omega]
        exact e
      · rw [if_neg hx, if_pos (by simpa using hx), s_rMsg, Option.bind_some, decide_eq_true hx]
    · rw [if_neg (by simp; omega)]
      exact top q (x :: t) hq h20 hc
theorem law_WireBack (a0 : List T_Msg) (a1 a2 a3 : Int) (u0 : wL maxLen (fun x => T_Msg.wf maxLen x) a0) (u1 : wi64 a1) (u2 : wi64 a2) (u3 : wu8 a3) : t_raillaw2_WireBack a0 a1 a2 a3 = some true := by
  have hL := u0.len (Nat.le_refl _)
  unfold t_raillaw2_WireBack
  have hY : t_wire_Encode (T_Msg.mk 3 2 1 0 (T_Op.mk 0 false (T_Rule.mk 0 (T_Cube.mk 0 0) 0 0 0))) = some (ByteArray.mk #[3, 2, 1, 0, 6], 0) := by
    rw [s_Encode]; rfl
  rw [hY, Option.bind_some, if_neg (by simp)]
  refine join_top (a0 := a0) (fun J top => ?_) (fun q t hq hq20 hchk => ?_)
  · show loopI a0 _ _ _ = _
    rw [loopI_eq hL]
    exact loop_top top (fun s => rfl) (fun i x s k => rfl) a0 [] rfl (by simp) (by simp)
  · dsimp only
    have hz := cat_size q hchk
    by_cases h1 : a1 < 0 ∨ ((cat q).size : Int) < a1
    · rw [if_pos (by simpa using h1)]
    · rw [if_neg (by simpa using h1)]
      obtain ⟨c, rfl⟩ := Int.eq_ofNat_of_zero_le (show 0 ≤ a1 by omega)
      have hcs : c ≤ (cat q).size := by omega
      rw [sslc_hi_eq (by omega) (by omega), Option.bind_some, s_Cut _ (by rw [ByteArray.size_extract]; omega), Option.bind_some, loopI_eq (by rw [ends_len]; unfold maxI; omega)]
      obtain ⟨n, hn, hn1, hn2, hn3⟩ := goI_ends (q := q) (c := (c : Int)) (step := fun i205 x206 s201 k202 => if decide (x206 ≤ (c : Int)) = true then k202 x206 else some (i205, s201)) (fin := fun s201 => some (((ends q).length : Int), s201)) (fun s => by rw [ends_len]) (fun _ _ _ _ => rfl) q.length 0 (by omega) (by simp [cat])
      have hn3' : goI (fun i205 x206 s201 k202 => if decide (x206 ≤ (c : Int)) = true then k202 x206 else some (i205, s201)) (fun s201 => some (((ends q).length : Int), s201)) 0 (ends q) 0 = some ((n : Int), ((cat (q.take n)).size : Int)) := by
        simpa [cat] using hn3
      rw [hn3', Option.bind_some]
      have hw := wcut_cat q hchk c n hn (by omega) hcs (fun h => by have := hn2 h; omega)
      have hcut : cutV (([] : List T_Msg), ByteArray.mk #[], (2 : Int)) (fun out s => (out, s, 0)) ((cat q).extract 0 (c : Int).toNat) [] = (q.take n, (cat q).extract (cat (q.take n)).size c, 0) := by
        unfold cutV
        rw [show (c : Int).toNat = c from rfl, hw]; rfl
      rw [hcut]
      have hlen : (q.take n).length = n := by rw [List.length_take]; omega
      have hlh : sslc_lh (cat q) ((cat (q.take n)).size : Int) ((c : Int)) = some ((cat q).extract (cat (q.take n)).size c) := by
        unfold sslc_lh
        rw [if_pos ⟨by omega, by omega, by omega⟩]; rfl
      simp only [hlh, hlen, decide_true, Bool.not_true, ne_eq, not_true, decide_false, Bool.or_false, Bool.not_false, gd_true, Option.bind_some, Bool.false_eq_true, if_false, join_eq]
      rw [loopU_eq (by omega) (by unfold maxI; omega), show ((n : Int) - 0).toNat = n by omega, goU_pass0 n (fun j hj k => ?_)]
      rotate_left
      · have hj1 : j < q.length := by omega
        rw [idx_nat, idx_nat, List.getElem?_take, if_pos (by omega), hq, List.getElem?_append_left hj1, List.getElem?_eq_getElem hj1, Option.bind_some, Option.bind_some, if_neg (by simp)]
      by_cases h2 : a2 < 0 ∨ ((cat q).size : Int) ≤ a2
      · have : (decide (a2 < 0) || decide (((cat q).size : Int) ≤ a2)) = true := by simpa using h2
        simp only [this, Bool.not_true, gd_false, Option.bind_some, Bool.true_or, if_true]
      · have hf : (decide (a2 < 0) || decide (((cat q).size : Int) ≤ a2)) = false := by simpa using h2
        obtain ⟨i, rfl⟩ := Int.eq_ofNat_of_zero_le (show 0 ≤ a2 by omega)
        have hi : i < (cat q).size := by omega
        simp only [hf, Bool.not_false, gd_true, sidx_eq hi, Option.bind_some, Bool.false_or]
        by_cases h3 : bAt (cat q) i = a3
        · rw [if_pos (decide_eq_true h3)]
        · rw [if_neg (by simpa using h3), need_pos (decide_eq_true (by unfold maxI; omega)), need_pos (by rw [numsOf_len]; simp; omega)]
          have hset : oset (numsOf (cat q)) ((i : Int)) a3 = some ((numsOf (cat q)).set i a3) := if_pos ⟨by omega, by rw [numsOf_len]; omega⟩
          rw [hset, Option.bind_some, s_Cut _ (by rw [strNums_size, List.length_set, numsOf_len]; omega), Option.bind_some]
          unfold cutV
          cases hc : wcut (strOfNums ((numsOf (cat q)).set i a3)) with
          | none =>
            simp [loopI_eq, maxI, goI]
          | some p =>
            obtain ⟨ms, rest⟩ := p
            have hne := changed hq hi (u8_of u3) h3 hc
            have hms : ms.length ≤ (cat q).size := by
              have := wcut_len _ _ (Nat.le_refl _) hc
              rwa [strNums_size, List.length_set, numsOf_len] at this
            simp only [List.nil_append, decide_true, Bool.true_and]
            rw [loopI_eq (by unfold maxI; omega)]
            by_cases h5 : rest = ByteArray.mk #[] ∧ ms.length = a0.length
            · rw [decide_eq_true h5.1, decide_eq_true (by omega), Bool.and_true, goI_same0 (b := a0) (fun _ => rfl) (fun _ _ _ => rfl) (fun _ _ _ => rfl) ms h5.2]
              simpa using hne
            · have : (decide (rest = ByteArray.mk #[]) && decide ((ms.length : Int) = (a0.length : Int))) = false := by
                rw [Bool.eq_false_iff]
                intro h
                simp only [Bool.and_eq_true, decide_eq_true_eq] at h
                exact h5 ⟨h.1, by omega⟩
              rw [this, goI_off (fun _ => rfl) (fun _ _ _ => rfl)]
              rfl
end Go.Proofs.Ytedgcbcphlonpaa.Ty
