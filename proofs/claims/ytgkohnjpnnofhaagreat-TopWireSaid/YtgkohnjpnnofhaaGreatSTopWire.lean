/- A round over bytes makes of the agents' tables what its ops do. -/
import Derived.Test.YtgkohnjpnnofhaaGreatSTW0
namespace Go.Proofs.YtgkohnjpnnofhaaGreat.Ty
set_option linter.unusedSimpArgs false
set_option linter.unusedVariables false
open Go Go.RowKit Go.Proofs.YtgkohnjpnnofhaaGreat.Den
set_option maxRecDepth 100000
def rdz (r : T_agent_round) : List T_agent_round := (List.replicate 20 r00).set 0 r
theorem rdz_len (r : T_agent_round) : (rdz r).length = 20 := by simp [rdz]
theorem rdz_0 (r : T_agent_round) : idx (rdz r) 0 = some r := rfl
theorem rdz_other {r r' : T_agent_round} {j : Nat} (hj : j ≠ 0) (h : (rdz r)[j]? = some r') : rdyB r' = false := by
 unfold rdz at h
 rw [List.getElem?_set_ne (fun e => hj e.symm), List.getElem?_replicate] at h
 split at h
 ·obtain rfl := oJ_ h; rfl
 ·cases h
theorem rdz_rdy (r : T_agent_round) : rdyN (rdz r) = if rdyB r = true then 0 else -1 := by
 cases hb : rdyB r with
 | true => exact rdyN_found (k := 0) (r := r) rfl hb fun j hj r' hr' => absurd hj (Nat.not_lt_zero _)
 | false =>
  refine rdyN_none fun j hj r' hr' => ?_
  by_cases e : j = 0
  ·subst e
   have : (rdz r)[0]? = some r := rfl
   rw [this] at hr'
   obtain rfl := oJ_ hr'
   exact hb
  ·exact rdz_other e hr'
theorem s_ReadyZ {a : T_agent_Agent} {r : T_agent_round} (ha : a.rounds = rdz r) (hm : r.many ≤ 1000000) : t_agent_Agent_Ready a = some (if rdyB r = true then 0 else -1) := by
 unfold t_agent_Agent_Ready
 rw [ha, rdz_rdy, need_pos]
 rw [decide_eq_true (rdz_len r), Bool.true_and, List.all_eq_true]
 intro x hx
 rcases List.mem_or_eq_of_mem_set hx with hx | rfl
 ·rw [List.eq_of_mem_replicate hx]; rfl
 ·simpa using hm
theorem s_HearZ {a : T_agent_Agent} {r : T_agent_round} {g : T_Msg} {s : Int} (hn : a.number = s) (ha : a.rounds = rdz r) (h1 : g.chk = 0) (h2 : g.Switch = s) (h3 : ¬ g.Kind = 3) (h4 : g.Round = 0) : t_agent_Agent_Hear a g =
  if (r.done && (decide (g.Kind = 2))) = true then some ([T_Msg.mk 3 s 0 0 (T_Op.mk 0 false (T_Rule.mk 0 (T_Cube.mk 0 0) 0 0 0))], 0, a) else (
  if r.done = true then some ([], 0, a) else (
  if (decide (g.Kind = 2)) = true then (
   if (decide (r.many < 0)) = true then some ([], 0, a.setR 0 ⟨r.ops, g.Index, r.done⟩) else some ([], 0, a)) else (
   if (!mhas r.ops g.Index) = true then some ([], 0, a.setR 0 ⟨mput r.ops g.Index g.Op, r.many, r.done⟩) else some ([], 0, a)))) := by
 unfold t_agent_Agent_Hear
 rw [ha, decide_eq_true (rdz_len r), need_t, s_wire_Check, oS_, hn, h4, rdz_0]
 simp only [h1, h2, h3, decide_true, decide_false, Bool.not_true, Bool.false_eq_true, if_false, ne_eq, not_true_eq_false, oS_]
def agZ (s : Int) (tb : List T_Rule) (n : Int) (ops : List (Int × T_Op)) : T_agent_Agent := ⟨s, tb, rdz ⟨ops, n, false⟩, []⟩
theorem s_WorkZ {s : Int} {tb : List T_Rule} (ht : Tok (tb.map rlOf)) {l : List T_Op} (hl : l.length ≤ 200) {ops : List (Int × T_Op)} {i : Nat} (h : OInv l ops [] i) (h0 : (allV tb l).2 = 0) :
  t_agent_Agent_Work (agZ s tb l.length ops) = some ([T_Msg.mk 3 s 0 0 (T_Op.mk 0 false (T_Rule.mk 0 (T_Cube.mk 0 0) 0 0 0))], 0, ⟨s, (allV tb l).1, rdz ⟨ops, l.length, true⟩, [0]⟩) := by
 have hr : rdyB ⟨ops, (l.length : Int), false⟩ = true := by
  unfold rdyB wholeB
  simp only [Bool.not_false, Bool.true_and, Bool.and_eq_true, decide_eq_true_eq, List.all_eq_true, List.mem_range, Int.toNat_natCast]
  refine ⟨by omega, fun k hk => ?_⟩
  rw [h.has k hk]; rfl
 unfold t_agent_Agent_Work
 rw [show (agZ s tb l.length ops).rounds = rdz ⟨ops, l.length, false⟩ from rfl, decide_eq_true (rdz_len _), need_t, s_ReadyZ (r := ⟨ops, l.length, false⟩) rfl (by simp only; omega), if_pos hr, oS_, if_neg (by decide), rdz_0, oS_]
 simp only []
 rw [loopU_at (fun q => (List.range q).map fun (k : Nat) => mget ops (k : Int) default) (s := []) rfl (by unfold maxI; omega) fun q k hq => ?_]
 rotate_left
 ·rw [app_eq (by simp; omega), oS_, List.range_succ, List.map_append]; rfl
 have e : ((List.range l.length).map fun (k : Nat) => mget ops (k : Int) default) = l := by
  refine List.ext_getElem? fun k => ?_
  rw [List.getElem?_map]
  by_cases hk : k < l.length
  ·rw [List.getElem?_range hk, Option.map_some, gE_ hk]
   rw [h.get k l[k] (gE_ hk) (by rw [h.has k hk]; rfl)]
  ·rw [List.getElem?_eq_none (by simp; omega), List.getElem?_eq_none (by omega)]; rfl
 rw [e, s_All (t := (agZ s tb l.length ops).table) ht _ (by omega), oS_, show (agZ s tb l.length ops).table = tb from rfl, if_pos (by simp [h0])]
 unfold workEnd
 rw [show oapp (agZ s tb l.length ops).done [(0 : Int)] = some [0] from rfl, oS_]
 rfl
def numd (q : List T_Op) : List (Int × T_Op) := q.mapIdx fun k o => ((k : Int), o)
theorem numd_snoc (q : List T_Op) (o : T_Op) : numd (q ++ [o]) = numd q ++ [((q.length : Int), o)] := by
 unfold numd; rw [List.mapIdx_append]; simp
theorem numd_take {q : List T_Op} {p : Nat} {o : T_Op} (h : q[p]? = some o) : numd (q.take (p + 1)) = numd (q.take p) ++ [((p : Int), o)] := by
 have hlt := (gS_ h).1
 rw [List.take_add_one, h]
 show numd (q.take p ++ [o]) = _
 rw [numd_snoc, List.length_take, Nat.min_eq_left (by omega)]
theorem numd_inv (q : List T_Op) : ∀ p, p ≤ q.length → OInv q (numd (q.take p)) (((List.range q.length).drop p).map fun (k : Nat) => (k : Int)) p
 | 0, _ => by
  refine ⟨rfl, by simp, ?_, fun x hx => ?_, fun k hk => ?_, fun k o hk hh => ?_⟩
  ·rw [List.drop_zero, List.nodup_iff_pairwise_ne, List.pairwise_map]
   exact (List.nodup_range (n := q.length)).imp fun h e => h (by omega)
  ·obtain ⟨k, hk, rfl⟩ := List.mem_map.1 hx
   exact ⟨k, rfl, by simpa using hk⟩
  ·rw [List.drop_zero, decide_eq_true (List.mem_map.2 ⟨k, List.mem_range.2 hk, rfl⟩)]; rfl
  ·cases hh
 | p + 1, hp => by
  have ih := numd_inv q p (by omega)
  have ho : q[p]? = some q[p] := gE_ (by omega)
  have hx : (((List.range q.length).drop p).map fun (k : Nat) => (k : Int))[0]? = some (p : Int) := by
   rw [List.getElem?_map, List.getElem?_drop, Nat.add_zero, List.getElem?_range (by omega)]; rfl
  have := oinv_step ih hx ho
  rw [numd_take ho]
  rw [List.take_zero, List.nil_append, ← List.map_drop, List.drop_drop, Nat.zero_add] at this
  exact this
theorem numd_has {q : List T_Op} {p : Nat} (h : p < q.length) : mhas (numd (q.take p)) (p : Int) = false := by
 rw [(numd_inv q p (by omega)).has p h]
 rw [decide_eq_true]; rfl
 refine List.mem_map.2 ⟨p, ?_, rfl⟩
 refine List.mem_of_getElem? (i := 0) ?_
 rw [List.getElem?_drop, Nat.add_zero, List.getElem?_range (by omega)]
theorem numd_all (q : List T_Op) : OInv q (numd q) [] q.length := by
 have := numd_inv q q.length (Nat.le_refl _)
 rw [List.take_length, List.drop_eq_nil_of_le (by simp)] at this
 exact this
def hst (s : Int) (tb : List T_Rule) (q : List T_Op) (j : Nat) : T_agent_Agent := if j ≤ q.length then agZ s tb (-1) (numd (q.take j)) else agZ s tb q.length (numd q)
def msgs (s : Int) (q : List T_Op) : List T_Msg := (q.mapIdx fun n o => T_Msg.mk 1 s 0 n o) ++ [T_Msg.mk 2 s 0 q.length op0]
theorem msgs_len (s : Int) (q : List T_Op) : (msgs s q).length = q.length + 1 := by simp [msgs]
theorem msg1_chk {s : Int} {o : T_Op} {n : Nat} (hs : 1 ≤ s ∧ s ≤ 6) (hn : n ≤ 200) (ho : o.Switch = s ∧ o.Rule.chk = 0) : (T_Msg.mk 1 s 0 n o).chk = 0 := by
 unfold T_Msg.chk
 simp only []
 rw [if_neg (by omega), if_neg (by decide), if_neg (by simpa using ho.2), if_neg (by simpa using ho.1)]
theorem msg2_chk {s : Int} {n : Nat} (hs : 1 ≤ s ∧ s ≤ 6) (hn : n ≤ 200) : (T_Msg.mk 2 s 0 n op0).chk = 0 := by
 unfold T_Msg.chk
 simp only []
 rw [if_neg (by omega), if_pos (by decide), if_neg]
 rintro (h | h)
 ·exact h rfl
 ·exact absurd h.1 (by decide)
theorem msgs_at {s : Int} {q : List T_Op} {j : Nat} {x : T_Msg} (h : (msgs s q)[j]? = some x) : (∃ o, q[j]? = some o ∧ x = T_Msg.mk 1 s 0 j o) ∨ (j = q.length ∧ x = T_Msg.mk 2 s 0 q.length op0) := by
 unfold msgs at h
 by_cases hj : j < q.length
 ·rw [List.getElem?_append_left (by simpa using hj), List.getElem?_mapIdx, gE_ hj] at h
  exact .inl ⟨q[j], gE_ hj, (oJ_ h).symm⟩
 ·rw [List.getElem?_append_right (by simp; omega), List.length_mapIdx] at h
  have : j - q.length = 0 := by
   rcases Nat.eq_zero_or_pos (j - q.length) with h0 | h0
   ·exact h0
   ·rw [List.getElem?_eq_none (by simp; omega)] at h; cases h
  rw [this] at h
  exact .inr ⟨by omega, (oJ_ h).symm⟩
theorem hear_one {s : Int} {tb : List T_Rule} {q : List T_Op} (hs : 1 ≤ s ∧ s ≤ 6) (hq : q.length ≤ 200) (ho : ∀ o ∈ q, o.Switch = s ∧ o.Rule.chk = 0) {j : Nat} {x : T_Msg} (h : (msgs s q)[j]? = some x) :
  t_agent_Agent_Hear (hst s tb q j) x = some ([], 0, hst s tb q (j + 1)) := by
 rcases msgs_at h with ⟨o, hj, rfl⟩ | ⟨rfl, rfl⟩
 ·have hlt := (gS_ hj).1
  have hom := List.mem_of_getElem? hj
  unfold hst
  rw [if_pos (by omega), if_pos (by omega)]
  have e := s_HearZ (a := agZ s tb (-1) (numd (q.take j))) (r := ⟨numd (q.take j), -1, false⟩) (g := T_Msg.mk 1 s 0 j o) (s := s) rfl rfl (msg1_chk hs (by omega) (ho o hom)) rfl (by show ¬ (1 : Int) = 3; decide) rfl
  rw [e]
  simp only [Bool.false_and, Bool.false_eq_true, if_false, numd_has hlt, Bool.not_false, if_true]
  rw [if_neg (by simp), mput_new _ (numd_has hlt), numd_take hj]
  rfl
 ·unfold hst
  rw [if_pos (Nat.le_refl _), if_neg (by omega), List.take_length]
  have e := s_HearZ (a := agZ s tb (-1) (numd q)) (r := ⟨numd q, -1, false⟩) (g := T_Msg.mk 2 s 0 q.length op0) (s := s) rfl rfl (msg2_chk hs hq) rfl (by show ¬ (2 : Int) = 3; decide) rfl
  rw [e]
  simp only [Bool.false_and, Bool.false_eq_true, if_false]
  rw [if_pos (by simp), if_pos (by simp)]
  rfl
theorem filter_at {α : Type} {P : α → Bool} {l : List α} {p : Nat} {x : α} (h : l[p]? = some x) (hx : P x = true) : (l.filter P)[((l.take p).filter P).length]? = some x := by
 have hlt := (gS_ h).1
 have e : l = l.take p ++ x :: l.drop (p + 1) := by
  conv => lhs; rw [← List.take_append_drop p l, List.drop_eq_getElem_cons hlt]
  rw [(gS_ h).2]
 have e2 : l.filter P = (l.take p).filter P ++ x :: (l.drop (p + 1)).filter P := by
  conv => lhs; rw [e]
  rw [List.filter_append, List.filter_cons_of_pos hx]
 rw [e2, List.getElem?_append_right (Nat.le_refl _), Nat.sub_self]; rfl
theorem filter_take {α : Type} {P : α → Bool} {l : List α} {p : Nat} {x : α} (h : l[p]? = some x) : (l.take (p + 1)).filter P = (l.take p).filter P ++ if P x = true then [x] else [] := by
 rw [List.take_add_one, h, List.filter_append]
 by_cases hx : P x = true <;> simp [hx]
theorem msgs_sw {s : Int} {q : List T_Op} : ∀ m ∈ msgs s q, m.Switch = s := fun m hm => by
 obtain ⟨j, hj⟩ := List.getElem?_of_mem hm
 rcases msgs_at hj with ⟨o, _, rfl⟩ | ⟨_, rfl⟩ <;> rfl
theorem say_filter (ops : List T_Op) (s : Int) : ∀ left : List Int, left.Nodup → (sayL ops ((0 : Nat) : Int) left).filter (fun m => decide (m.Switch = s)) = if s ∈ left then msgs s (opsOf s ops) else []
 | [], _ => rfl
 | t :: left, h => by
  rw [List.nodup_cons] at h
  have ih := say_filter ops s left h.2
  have e : sayL ops ((0 : Nat) : Int) (t :: left) = msgs t (opsOf t ops) ++ sayL ops ((0 : Nat) : Int) left := rfl
  rw [e, List.filter_append, ih]
  by_cases ht : t = s
  ·subst ht
   rw [List.filter_eq_self.2 (fun m hm => decide_eq_true (msgs_sw m hm)), if_neg h.1, List.append_nil, if_pos (by simp)]
  ·rw [List.filter_eq_nil_iff.2 (fun m hm => by rw [msgs_sw m hm]; simpa using ht), List.nil_append]
   by_cases hs : s ∈ left
   ·rw [if_pos hs, if_pos (by simp [hs])]
   ·rw [if_neg hs, if_neg (by simp [hs]; exact fun e => ht e.symm)]
theorem tabAt_opR {n : T_Net} (hk : NOk n) {x : T_Op} (h : opFa n x = 0) {s : Int} (h1 : 1 ≤ s) (h2 : s ≤ n.Topo.Switches) : tabAt (opR n x) s = if x.Switch = s then doV (tabAt n s) x.Add x.Rule else tabAt n s := by
 unfold opFa at h
 split at h
 ·cases h
 rename_i hx
 have hl := hk.len
 unfold opR tabAt
 simp only [List.getD]
 by_cases e : x.Switch = s
 ·rw [if_pos e, e, List.getElem?_set_self (by omega)]; rfl
 ·rw [if_neg e, List.getElem?_set_ne (by omega)]
theorem appL_at : ∀ (l : List T_Op) {n : T_Net}, NOk n → (appL l n).2 = 0 → ∀ s, 1 ≤ s → s ≤ n.Topo.Switches → (allV (tabAt n s) (opsOf s l)).2 = 0 ∧ tabAt (appL l n).1 s = (allV (tabAt n s) (opsOf s l)).1
 | [], n, hk, h, s, h1, h2 => ⟨rfl, rfl⟩
 | x :: l, n, hk, h, s, h1, h2 => by
  unfold appL at h ⊢
  by_cases h0 : opFa n x = 0
  ·rw [if_neg (by simpa using h0)] at h ⊢
   have ih := appL_at l (opR_ok hk h0) h s h1 h2
   rw [tabAt_opR hk h0 h1 h2] at ih
   by_cases e : x.Switch = s
   ·have eo : opsOf s (x :: l) = x :: opsOf s l := List.filter_cons_of_pos (by simpa using e)
    rw [if_pos e] at ih
    have hd : doF (tabAt n s) x.Add x.Rule = 0 := by
     unfold opFa at h0
     split at h0
     ·cases h0
     ·rw [e] at h0; exact h0
    rw [eo, allV, if_neg (by simpa using hd)]
    exact ih
   ·have eo : opsOf s (x :: l) = opsOf s l := List.filter_cons_of_neg (by simpa using e)
    rw [if_neg e] at ih
    rw [eo]
    exact ih
  ·rw [if_pos h0] at h; exact absurd h h0
theorem appL_ops : ∀ (l : List T_Op) {n : T_Net}, NOk n → (appL l n).2 = 0 → ∀ o ∈ l, (1 ≤ o.Switch ∧ o.Switch ≤ n.Topo.Switches) ∧ o.Rule.chk = 0
 | [], _, _, _, _, ho => by cases ho
 | x :: l, n, hk, h, o, ho => by
  unfold appL at h
  by_cases h0 : opFa n x = 0
  ·rw [if_neg (by simpa using h0)] at h
   rcases List.mem_cons.1 ho with rfl | ho
   ·unfold opFa at h0
    split at h0
    ·cases h0
    ·exact ⟨by omega, doF_chk h0⟩
   ·exact appL_ops l (opR_ok hk h0) h o ho
  ·rw [if_pos h0] at h; exact absurd h h0
theorem cut_f (f : Nat → Nat) (c : Nat) (h0 : f 0 ≤ c) : ∀ m, (∃ n, n < m ∧ f n ≤ c ∧ c < f (n + 1)) ∨ f m ≤ c
 | 0 => .inr h0
 | m + 1 => by
  rcases cut_f f c h0 m with ⟨n, h1, h2⟩ | h
  ·exact .inl ⟨n, by omega, h2⟩
  ·by_cases h2 : f (m + 1) ≤ c
   ·exact .inr h2
   ·exact .inl ⟨m, by omega, h, by omega⟩
theorem cat_size' : ∀ (q : List T_Msg), (∀ m ∈ q, m.chk = 0) → (cat q).size ≤ 12 * q.length
 | [], _ => by simp [cat]
 | x :: q, h => by
  have h1 := T_Msg.text_size (h x (by simp))
  have h2 := wsize_range x.Kind
  have ih := cat_size' q fun m hm => h m (by simp [hm])
  show (x.text ++ cat q).size ≤ _
  rw [ByteArray.size_append, List.length_cons]
  omega
theorem cat_cuts {l : List T_Msg} (hl : ∀ m ∈ l, m.chk = 0) {c : Nat} (hc : c ≤ (cat l).size) : ∃ n rest, wcut ((cat l).extract 0 c) = some (l.take n, rest) ∧ wcut (rest ++ (cat l).extract c (cat l).size) = some (l.drop n, ByteArray.mk #[]) ∧ rest.size ≤ c := by
 have key : ∃ n, n ≤ l.length ∧ (cat (l.take n)).size ≤ c ∧ (n < l.length → c < (cat (l.take (n + 1))).size) := by
  rcases cut_f (fun n => (cat (l.take n)).size) c (by simp [cat]) l.length with ⟨n, h1, h2, h3⟩ | h
  ·exact ⟨n, by omega, h2, fun _ => h3⟩
  ·exact ⟨l.length, Nat.le_refl _, h, fun h => absurd h (Nat.lt_irrefl _)⟩
 obtain ⟨n, h1, h2, h3⟩ := key
 refine ⟨n, _, wcut_cat l hl c n h1 h2 hc h3, ?_, ?_⟩
 ·have e : cat l = cat (l.take n) ++ cat (l.drop n) := by rw [← cat_append, List.take_append_drop]
  have e1 : (cat l).extract (cat (l.take n)).size c ++ (cat l).extract c (cat l).size = cat (l.drop n) := by
   rw [ByteArray.extract_append_extract, Nat.min_eq_left h2, Nat.max_eq_right hc]
   conv => lhs; rw [e]
   exact ByteArray.extract_append_eq_right rfl (by rw [ByteArray.size_append])
  rw [e1]
  have hl2 : ∀ m ∈ l.drop n, m.chk = 0 := fun m hm => hl m (List.mem_of_mem_drop hm)
  have h4 := wcut_cat (l.drop n) hl2 (cat (l.drop n)).size (l.drop n).length (Nat.le_refl _) (by rw [List.take_length]; exact Nat.le_refl _) (Nat.le_refl _) (fun h => absurd h (Nat.lt_irrefl _))
  rw [List.take_length, ex_all (Nat.le_refl _)] at h4
  rw [h4]
  congr 2
  refine ByteArray.size_eq_zero_iff.1 ?_
  rw [ext_size _ _ _ (Nat.le_refl _) (Nat.le_refl _), Nat.sub_self]
 ·rw [ByteArray.size_extract]; omega
theorem bytes_go {l0 : List T_Msg} (hl : ∀ m ∈ l0, m.chk = 0) (h9 : l0.length ≤ 100000) {step : Int → T_Msg → ByteArray → (ByteArray → Option Bool) → Option Bool} {fin : ByteArray → Option Bool}
  (hs : ∀ i x s k, step i x s k = (t_wire_Encode x).bind fun r298 => if (!decide (r298.2 = 0)) = true then some false else need (decide ((s.size : Int) + r298.1.size ≤ maxI)) (k (s ++ r298.1))) : ∀ (t q : List T_Msg), l0 = q ++ t → goI step fin (q.length : Int) t (cat q) = fin (cat l0)
 | [], q, e => by rw [goI, e, List.append_nil]
 | x :: t, q, e => by
  have hx : x.chk = 0 := hl x (by rw [e]; simp)
  have hq : ∀ m ∈ q, m.chk = 0 := fun m hm => hl m (by rw [e]; simp [hm])
  have hz := cat_size' q hq
  have h1 := T_Msg.text_size hx
  have h2 := wsize_range x.Kind
  have hlen : q.length ≤ 100000 := by rw [e] at h9; simp at h9; omega
  rw [goI, hs, s_Encode, if_pos hx, oS_, if_neg (by simp), need_pos (decide_eq_true (by unfold maxI; simp only; omega))]
  have := bytes_go hl h9 (fin := fin) hs t (q ++ [x]) (by rw [e]; simp)
  rw [show cat (q ++ [x]) = cat q ++ x.text by rw [cat_append]; show cat q ++ (x.text ++ ByteArray.empty) = _; rw [ByteArray.append_empty], List.length_append, List.length_singleton] at this
  rw [show (q.length : Int) + 1 = ((q.length + 1 : Nat) : Int) by omega]
  exact this
theorem goU_from {σ β : Type} {step : Int → σ → (σ → Option β) → Option β} {fin : Int → σ → Option β} (S : Nat → σ) {lo hi : Nat} (h : ∀ (p : Nat) k, lo ≤ p → p < hi → step (p : Int) (S p) k = k (S (p + 1))) : ∀ (c p : Nat), lo ≤ p → p + c = hi → goU step fin c (p : Int) (S p) = fin (hi : Int) (S hi)
 | 0, p, _, e => by obtain rfl : p = hi := (by omega); rfl
 | c + 1, p, hlo, e => by
  rw [goU, h p _ hlo (by omega)]
  have e2 : (p : Int) + 1 = ((p + 1 : Nat) : Int) := by omega
  rw [e2]
  exact goU_from S h c (p + 1) (by omega) (by omega)
theorem s_NewA {s : Int} {tb : List T_Rule} (hs : 1 ≤ s ∧ s ≤ 6) (ht : Tok (tb.map rlOf)) : t_agent_New s tb = some (some ⟨s, tb, List.replicate 20 ⟨[], -1, false⟩, []⟩, 0) := by
 have h12 := ht.len
 rw [List.length_map] at h12
 have hc : cln tb = some tb := by unfold cln; rw [if_pos (by omega)]
 unfold t_agent_New
 rw [if_neg (by simp; omega), tab_of ht, oS_, if_neg (by simp), hc, oS_]
theorem roundsF_ok {l : List T_Op} (hl : l.length ≤ 200) (h : ∀ o ∈ l, (1 ≤ o.Switch ∧ o.Switch ≤ 6) ∧ o.Rule.chk = 0) : roundsF [l] 5 = 0 := by
 unfold roundsF
 rw [if_neg (by decide), if_neg (by simp), if_neg (by simp; omega)]
 refine firstF_0.2 fun r hr => ?_
 obtain rfl := List.mem_singleton.1 hr
 refine firstF_0.2 fun o ho => ?_
 obtain ⟨h1, h2⟩ := h o ho
 unfold opF
 rw [if_neg (by omega)]; exact h2
theorem cutV_ok {s : ByteArray} {ms : List T_Msg} {rest : ByteArray} (h : wcut s = some (ms, rest)) (hs : s.size ≤ 10000000) : t_wire_Cut s = some (ms, rest, 0) := by
 rw [s_Cut s hs]
 unfold cutV
 rw [h]; rfl
def drS (r : List T_Op) (left : List Int) (p : Nat) : T_drive_Drive := ⟨[r], 5, 1, left.filter fun x => decide ((p : Int) ≤ x), 0⟩
theorem drS_hear {r : List T_Op} {left : List Int} {p : Nat} (hnd : left.Nodup) (hp : (p : Int) ∈ left) (hl : left.length ≤ 200) (hs : 1 ≤ (p : Int) ∧ (p : Int) ≤ 6) : t_drive_Drive_Hear (drS r left p) (T_Msg.mk 3 (p : Int) 0 0 (T_Op.mk 0 false (T_Rule.mk 0 (T_Cube.mk 0 0) 0 0 0))) = some (0, drS r left (p + 1)) := by
 rw [s_Hear _ _ (Nat.le_trans (List.length_filter_le _ _) hl) (by show (0 : Int) ≤ 1; decide) (by show (1 : Int) ≤ 20; decide)]
 have hchk : (T_Msg.mk 3 (p : Int) 0 0 (T_Op.mk 0 false (T_Rule.mk 0 (T_Cube.mk 0 0) 0 0 0))).chk = 0 := by
  unfold T_Msg.chk
  simp only []
  rw [if_neg (by omega), if_pos (by decide), if_neg]
  rintro (h | h)
  ·exact h rfl
  ·exact absurd rfl h.2
 have hm : (p : Int) ∈ (drS r left p).left := List.mem_filter.2 ⟨hp, by simp⟩
 unfold hearD
 rw [if_neg (by rw [hchk]; simp), if_neg (by simp only [not_or, Decidable.not_not]; exact ⟨rfl, hm⟩)]
 show some ((0 : Int), T_drive_Drive.mk [r] 5 1 ((left.filter fun x => decide ((p : Int) ≤ x)).erase (p : Int)) 0) = _
 have e : (left.filter fun x => decide ((p : Int) ≤ x)).erase (p : Int) = left.filter fun x => decide (((p + 1 : Nat) : Int) ≤ x) := by
  rw [(hnd.sublist List.filter_sublist).erase_eq_filter, List.filter_filter]
  refine List.filter_congr fun x hx => ?_
  rw [Bool.eq_iff_iff]
  simp
  omega
 rw [e]; rfl
end Go.Proofs.YtgkohnjpnnofhaaGreat.Ty
