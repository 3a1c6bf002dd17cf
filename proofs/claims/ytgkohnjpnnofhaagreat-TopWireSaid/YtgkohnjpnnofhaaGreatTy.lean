/- Functions on plain types: when what the reader reads is one of them. -/
import Derived.Test.YtgkohnjpnnofhaaGreatDenLib2
import Derived.Test.YtgkohnjpnnofhaaGreatProg
namespace Go.Proofs.YtgkohnjpnnofhaaGreat.Ty
set_option linter.unusedSimpArgs false
set_option linter.unusedVariables false
open Go Go.RowKit Go.Proofs.YtgkohnjpnnofhaaGreat.Den
def bigN : Nat := 9223372036854775900
theorem bigN_gt : 9223372036854775890 < bigN := by decide +kernel
attribute [irreducible] bigN
abbrev maxI : Int := 9223372036854775807
abbrev wr (x : Int) : Int := IntKind.i64.wrap x
def Rf {β : Type} (e : β → Option V) (X : Option V) (Y : Option β) : Prop := ∀ b, Y = some b → X = e b
abbrev Rv {β : Type} (e : β → V) (X : Option V) (Y : Option β) : Prop := Rf (fun b => some (e b)) X Y
section
variable {α β γ σ : Type} {P : Program} {e : β → Option V} {Y : Option β}
theorem Rf.get {X : Option V} {b : β} (h : Rf e X Y) (hy : Y = some b) : X = e b := h b hy
theorem rf_ret {e : β → V} {x : V} {b : β} (h : x = e b) : Rv e (some x) (some b) := fun c hc => by
 obtain rfl := oJ_ hc
 rw [h]
theorem rf_j {J : List V → Option V} {mk : σ → List V} {x : List V} {b : σ} (h : x = mk b) : Rf (fun s => J (mk s)) (J x) (some b) := fun c hc => by
 obtain rfl := oJ_ hc
 rw [h]
theorem rf_none {X : Option V} : Rf e X none := fun c hc => by cases hc
theorem tb {x : γ} {X : Option γ} {K : γ → Option V} (h : X = some x) (k : Rf e (K x) Y) : Rf e (X.bind K) Y := by rw [h]; exact k
theorem tq (x : γ) {X : Option γ} {K : γ → Option V} (h : X = some x) (k : Rf e (K x) Y) : Rf e (X.bind K) Y := tb h k
theorem tbo {e1 : α → V} {X : Option V} {Y1 : Option α} {K : V → Option V} {TK : α → Option β} (h : Rv e1 X Y1) (k : ∀ a, Rf e (K (e1 a)) (TK a)) : Rf e (X.bind K) (Y1.bind TK) := fun b hb => by
 cases hy : Y1 with
 | none => rw [hy] at hb; cases hb
 | some a =>
  rw [hy] at hb
  rw [show X = some (e1 a) from h a hy]
  exact k a b hb
theorem rf_eq {e : β → V} {X : Option V} {x : V} {b : β} (h : X = some x) (hb : x = e b) : Rv e X (some b) := by rw [h]; exact rf_ret hb
def need (p : Bool) (Y : Option β) : Option β := if p = true then Y else none
theorem need_t {Y : Option β} : need true Y = Y := rfl
theorem need_pos {p : Bool} {Y : Option β} (h : p = true) : need p Y = Y := if_pos h
theorem need_some {p : Bool} {Y : Option β} {b : β} : need p Y = some b ↔ p = true ∧ Y = some b := by unfold need; split <;> simp_all
theorem tneed {p : Bool} {x : γ} {X : Option γ} {K : γ → Option V} (h : p = true → X = some x) (k : p = true → Rf e (K x) Y) : Rf e (X.bind K) (need p Y) := fun b hb => by
 obtain ⟨h1, h2⟩ := need_some.1 hb
 rw [h h1]
 exact k h1 b h2
theorem tneed0 {p : Bool} {X : Option V} (k : p = true → Rf e X Y) : Rf e X (need p Y) := fun b hb => by
 obtain ⟨h1, h2⟩ := need_some.1 hb
 exact k h1 b h2
theorem tcond {p : Bool} {A B : Option V} {A' B' : Option β} (ha : p = true → Rf e A A') (hb : p = false → Rf e B B') : Rf e (condV (vb p) A B) (if p = true then A' else B') := by
 cases p
 ·exact hb rfl
 ·exact ha rfl
theorem tcond_t {p : Bool} {A B : Option V} (h : p = true) (ha : Rf e A Y) : Rf e (condV (vb p) A B) Y := by subst h; exact ha
theorem tcond_f {p : Bool} {A B : Option V} (h : p = false) (hb : Rf e B Y) : Rf e (condV (vb p) A B) Y := by subst h; exact hb
def join (K : σ → Option β) (B : (σ → Option β) → Option β) : Option β := B K
theorem tjoin {mk : σ → List V} {JV : List V → Option V} {BV : (List V → Option V) → Option V} {JT : σ → Option β} {BT : (σ → Option β) → Option β} (hJ : ∀ s, Rf e (JV (mk s)) (JT s))
  (hB : ∀ (J : List V → Option V) (J' : σ → Option β), (∀ s, Rf e (J (mk s)) (J' s)) → Rf e (BV J) (BT J')) : Rf e (JoinPt JV BV) (join JT BT) := hB JV JT hJ
theorem tjb {mk : σ → List V} {JV : List V → Option V} {BV : (List V → Option V) → Option V} {BT : Option σ} {JT : σ → Option β} (hB : ∀ J : List V → Option V, Rf (fun s => J (mk s)) (BV J) BT) (hJ : ∀ s, Rf e (JV (mk s)) (JT s)) : Rf e (JoinPt JV BV) (BT.bind JT) := fun b hb => by
 cases hy : BT with
 | none => rw [hy] at hb; cases hb
 | some s =>
  rw [hy] at hb
  show BV JV = e b
  rw [hB JV s hy]
  exact hJ s b hb
theorem tkeepO2 {a b : Option (List V)} {y : Option (List V)} {J : List V → Option V} (h : Rf e (y.bind J) Y) (hab : a = b) : Rf e ((keepO a b y).bind J) Y := by subst hab; rw [keepO_same]; exact h
theorem tkeepT2 {a b : Option V} {y : Option (List V)} {J : List V → Option V} (h : Rf e (y.bind J) Y) (hab : a = b) : Rf e ((keepT a b y).bind J) Y := by subst hab; rw [keepT_same]; exact h
theorem tsome {x : List V} {J : List V → Option V} (h : Rf e (J x) Y) : Rf e ((some x).bind J) Y := h
def goI (step : Int → α → σ → (σ → Option β) → Option β) (fin : σ → Option β) : Int → List α → σ → Option β
 | _, [], s => fin s
 | i, x :: l, s => step i x s fun s' => goI step fin (i + 1) l s'
def loopI (l : List α) (step : Int → α → σ → (σ → Option β) → Option β) (fin : σ → Option β) (s : σ) : Option β := need (decide ((l.length : Int) ≤ maxI)) (goI step fin 0 l s)
def goU (step : Int → σ → (σ → Option β) → Option β) (fin : Int → σ → Option β) : Nat → Int → σ → Option β
 | 0, i, s => fin i s
 | m + 1, i, s => step i s fun s' => goU step fin m (i + 1) s'
def loopU (lo hi : Int) (step : Int → σ → (σ → Option β) → Option β) (fin : Int → σ → Option β) (s : σ) : Option β := need (decide (0 ≤ lo) && decide (hi ≤ maxI)) (goU step fin (hi - lo).toNat lo s)
def tfix (F : (σ → Option β) → σ → Option β) : Nat → σ → Option β
 | 0, _ => none
 | n + 1, s => F (tfix F n) s
theorem rf_fix {mk : σ → List V} {F : (List V → Option V) → List V → Option V} {F' : (σ → Option β) → σ → Option β} (h : ∀ rec k, (∀ s, Rf e (rec (mk s)) (k s)) → ∀ s, Rf e (F rec (mk s)) (F' k s)) : ∀ (m n : Nat) (s : σ), m ≤ n → Rf e (fixN F n (mk s)) (tfix F' m s)
 | 0, _, s, _ => rf_none
 | m + 1, n + 1, s, hm => h _ _ (fun s => rf_fix h m n s (by omega)) s
 | _ + 1, 0, _, hm => absurd hm (by omega)
theorem rf_fixN {mk : σ → List V} {F : (List V → Option V) → List V → Option V} {F' : (σ → Option β) → σ → Option β} {n : Nat} (hn : bigN ≤ n) (s : σ) (h : ∀ rec k, (∀ s, Rf e (rec (mk s)) (k s)) → ∀ s, Rf e (F rec (mk s)) (F' k s)) : Rf e (fixN F n (mk s)) (tfix F' bigN s) := rf_fix h bigN n s hn
theorem rf_goI {mk : Int → σ → List V} {F : (List V → Option V) → List V → Option V} {step : Int → α → σ → (σ → Option β) → Option β} {fin : σ → Option β} (L : List α)
  (hs : ∀ (i : Nat) (x : α), L[i]? = some x → ∀ s rec k, (∀ s', Rf e (rec (mk ((i : Int) + 1) s')) (k s')) → Rf e (F rec (mk i s)) (step i x s k)) (hf : ∀ s rec, Rf e (F rec (mk L.length s)) (fin s)) :
  ∀ (l : List α) (i n : Nat) (s : σ), L.drop i = l → l.length < n → i ≤ L.length → Rf e (fixN F n (mk i s)) (goI step fin i l s)
 | [], i, n + 1, s, hl, _, hi => by
  have : L.length ≤ i := by simpa using hl
  obtain rfl : i = L.length := by omega
  exact hf s _
 | x :: l, i, n + 1, s, hl, hn, hi => by
  have hx : L[i]? = some x := by
   have := congrArg (·[0]?) hl
   simpa using this
  have hlt := (gS_ hx).1
  refine hs i x hx s _ _ fun s' => ?_
  have hd : L.drop (i + 1) = l := by
   have := congrArg List.tail hl
   simpa using this
  have := rf_goI L hs hf l (i + 1) n s' hd (by simpa using hn) hlt
  simpa using this
 | _, _, 0, _, _, hn, _ => absurd hn (Nat.not_lt_zero _)
theorem rf_loopI {mk : Int → σ → List V} {F : (List V → Option V) → List V → Option V} {step : Int → α → σ → (σ → Option β) → Option β} {fin : σ → Option β} {n : Nat} (hn : bigN ≤ n) (L : List α) (s : σ)
  (hs : ∀ (i : Nat) (x : α), L[i]? = some x → (i : Int) + 1 ≤ maxI → decide ((i : Int) < (L.length : Int)) = true → ∀ s rec k, (∀ s', Rf e (rec (mk ((i : Int) + 1) s')) (k s')) → Rf e (F rec (mk i s)) (step i x s k)) (hf : ∀ s rec, decide ((L.length : Int) < (L.length : Int)) = false → Rf e (F rec (mk L.length s)) (fin s)) :
  Rf e (fixN F n (mk 0 s)) (loopI L step fin s) := by
 unfold loopI
 refine tneed0 fun hL => ?_
 have hL := of_decide_eq_true hL
 have h := rf_goI (mk := mk) (F := F) (e := e) (step := step) (fin := fin) L (fun i x hx => hs i x hx (by have := (gS_ hx).1; unfold maxI at *; omega) (by have := (gS_ hx).1; simpa using this)) (fun s rec => hf s rec (by simp)) L 0 n s rfl (by have := bigN_gt; unfold maxI at hL; omega) (Nat.zero_le _)
 exact h
theorem rf_goU {mk : Int → σ → List V} {F : (List V → Option V) → List V → Option V} {step : Int → σ → (σ → Option β) → Option β} {fin : Int → σ → Option β} (hi : Int) (hh : hi ≤ maxI)
  (hs : ∀ (i : Int), i < hi → -9223372036854775807 ≤ i → ∀ s rec k, (∀ s', Rf e (rec (mk (i + 1) s')) (k s')) → Rf e (F rec (mk i s)) (step i s k)) (hf : ∀ i s rec, ¬ i < hi → Rf e (F rec (mk i s)) (fin i s)) :
  ∀ (m n : Nat) (i : Int) (s : σ), m = (hi - i).toNat → m < n → -9223372036854775807 ≤ i → Rf e (fixN F n (mk i s)) (goU step fin m i s)
 | 0, n + 1, i, s, hm, _, _ => hf i s _ (by omega)
 | m + 1, n + 1, i, s, hm, hn, hl => hs i (by omega) hl s _ _ fun s' => rf_goU hi hh hs hf m n (i + 1) s' (by omega) (by omega) (by omega)
 | _, 0, _, _, _, hn, _ => absurd hn (Nat.not_lt_zero _)
theorem rf_loopU {mk : Int → σ → List V} {F : (List V → Option V) → List V → Option V} {step : Int → σ → (σ → Option β) → Option β} {fin : Int → σ → Option β} {n : Nat} (hn : bigN ≤ n) (lo hi : Int) (s : σ)
  (hs : ∀ (i : Int), decide (i < hi) = true → -9223372036854775808 ≤ i + 1 → i + 1 ≤ maxI → ∀ s rec k, (∀ s', Rf e (rec (mk (i + 1) s')) (k s')) → Rf e (F rec (mk i s)) (step i s k)) (hf : ∀ i s rec, decide (i < hi) = false → Rf e (F rec (mk i s)) (fin i s)) :
  Rf e (fixN F n (mk lo s)) (loopU lo hi step fin s) := by
 unfold loopU
 refine tneed0 fun hL => ?_
 simp only [Bool.and_eq_true, decide_eq_true_eq] at hL
 obtain ⟨hlo, hhi⟩ := hL
 exact rf_goU hi hhi (fun i h1 h2 => hs i (by simpa using h1) (by omega) (by unfold maxI at *; omega)) (fun i s rec h => hf i s rec (by simpa using h)) _ _ lo s rfl (by have := bigN_gt; unfold maxI at *; omega) (by omega)
def gv (g : Bool) (x : V) : V := if g = true then x else .tup []
theorem gv_t {g : Bool} {x : V} (h : g = true) : gv g x = x := if_pos h
theorem and_l {a b : Bool} (h : (a && b) = true) : a = true := by simp_all
theorem and_r {a b : Bool} (h : (a && b) = true) : b = true := by simp_all
theorem not_t {a : Bool} (h : (!a) = true) : a = false := by simp_all
theorem tg {c : Bool} {X : Option V} {x : V} {K : V → Option V} (h : c = true → X = some x) (k : Rf e (K (gv c x)) Y) : Rf e ((guardV (vb c) true X).bind K) Y := by
 cases c
 ·exact k
 ·rw [show guardV (vb true) true X = X from rfl, h rfl]; exact k
theorem tg_f {c : Bool} {X : Option V} {x : V} {K : V → Option V} (h : (!c) = true → X = some x) (k : Rf e (K (gv (!c) x)) Y) : Rf e ((guardV (vb c) false X).bind K) Y := by
 cases c
 ·rw [show guardV (vb false) false X = X from rfl, h rfl]; exact k
 ·exact k
theorem tg2 {g c : Bool} {X : Option V} {x : V} {K : V → Option V} (h : (g && c) = true → X = some x) (k : Rf e (K (gv (g && c) x)) Y) : Rf e ((guardV (gv g (vb c)) true X).bind K) Y := by
 cases g
 ·exact k
 ·cases c
  ·exact k
  ·rw [show guardV (gv true (vb true)) true X = X from rfl, h rfl]; exact k
def gd (c : Bool) (d : α) (Y1 : Option α) : Option α := if c = true then Y1 else some d
theorem tgo_f {c : Bool} {e1 : α → V} {X : Option V} {Y1 : Option α} {d : α} {K : V → Option V} {TK : α → Option β} (h : (!c) = true → Rv e1 X Y1) (k : ∀ a, Rf e (K (gv (!c) (e1 a))) (TK a)) : Rf e ((guardV (vb c) false X).bind K) ((gd (!c) d Y1).bind TK) := by
 cases c
 ·exact tbo (h rfl) k
 ·exact k d
theorem bind_some_eq {X : Option V} {x : V} (h : X = some x) : (X.bind fun v => some v) = some x := by rw [h]; rfl
theorem rf_bind_some {e : β → V} {X : Option V} (h : Rv e X Y) : Rv e (X.bind fun v => some v) Y := fun b hb => by rw [h b hb]; rfl
theorem gate_pos2 {g c w : Bool} {Z : Option V} {z : V} (hg : g = true) (h : c = w) (hz : Z = some z) : gate (gv g (vb c)) w Z = some z := by subst h; subst hg; cases c <;> exact hz
theorem gate_pos {c w : Bool} {Z : Option V} {z : V} (h : c = w) (hz : Z = some z) : gate (vb c) w Z = some z := by subst h; cases c <;> exact hz
def eV (n : Int) : V := .lit (if n = 0 then .nilIface else .iface 81 (.int .i64 n))
theorem p_mkE {n : Int} (h : n ≠ 0) : scal1 Tryz.prog (Instr.makeInterface 81) (vi n) = some (eV n) := by
 refine (d_mkI (P := Tryz.prog) (t := 81) (v := .int .i64 n) Tryz.underlying81).trans ?_
 unfold eV; rw [if_neg h]
def idx (l : List α) (i : Int) : Option α := if 0 ≤ i then l[i.toNat]? else none
theorem p_idx {c : α → List V} {k : Nat} (hc : ∀ a, (c a).length = k) (l : List α) (i : Int) : Rv (fun a => V.ptr (c a)) (idxS k (.sl (l.map c)) (vi i)) (idx l i) := fun a h => by
 unfold idx at h
 split at h
 ·rename_i h0
  simp [idxS, List.getElem?_map, h, h0, hc]
 ·cases h
theorem p_idx_at {c : α → List V} {k : Nat} (hc : ∀ a, (c a).length = k) {l : List α} {i : Nat} {x : α} (h : l[i]? = some x) : idxS k (.sl (l.map c)) (vi (i : Int)) = some (.ptr (c x)) := by
 simp [idxS, List.getElem?_map, h, hc]
theorem p_len {c : α → List V} (l : List α) : lenS [.sl (l.map c)] = some (vi (l.length : Int)) := by simp [lenS]
theorem p_inc {t : TypeId} {xo yo : Operand} {i : Int} (h0 : -9223372036854775808 ≤ i + 1) (h : i + 1 ≤ maxI) : bin2 P .add t xo yo (vi i) (vi 1) = some (vi (i + 1)) := by rw [d_add, wrap_id h0 h]
theorem p_incN {t : TypeId} {xo yo : Operand} {i : Nat} (h : (i : Int) + 1 ≤ maxI) : bin2 P .add t xo yo (vi (i : Int)) (vi 1) = some (vi ((i : Int) + 1)) := p_inc (by omega) h
theorem p_rem {t : TypeId} {xo yo : Operand} {a b : Int} (h : decide (b ≠ 0) = true) : bin2 P .rem t xo yo (vi a) (vi b) = some (vi (a.tmod b)) := d_rem (of_decide_eq_true h)
theorem p_eql_str {t : TypeId} {xo yo : Operand} {s r : ByteArray} : bin2 P .eql t xo yo (vt s) (vt r) = some (vb (decide (s = r))) := by rw [d_eql_str, str_beq]
theorem p_neq_str {t : TypeId} {xo yo : Operand} {s r : ByteArray} : bin2 P .neq t xo yo (vt s) (vt r) = some (vb (!decide (s = r))) := by rw [d_neq_str, str_beq]
theorem p_add_str {t : TypeId} {xo yo : Operand} {s r : ByteArray} (h : decide ((s.size : Int) + r.size ≤ maxI) = true) : bin2 P .add t xo yo (vt s) (vt r) = some (vt (s ++ r)) := d_add_str (by have := of_decide_eq_true h; unfold maxI at this; omega)
theorem p_err_neq (n : Int) {xo : Operand} : bin2 Tryz.prog .neq 32 xo (.const .nilIface) (eV n) (.lit .nilIface) = some (vb (!decide (n = 0))) := by
 unfold eV
 by_cases h : n = 0
 ·subst h
  exact bin2_lit rfl rfl (fun w => by cases xo <;> kernel_rfl) rfl
 ·rw [if_neg h, decide_eq_false h]
  exact bin2_lit rfl rfl (fun w => by kernel_rfl) rfl
theorem p_err_eql (n : Int) {xo : Operand} : bin2 Tryz.prog .eql 32 xo (.const .nilIface) (eV n) (.lit .nilIface) = some (vb (decide (n = 0))) := by
 unfold eV
 by_cases h : n = 0
 ·subst h
  exact bin2_lit rfl rfl (fun w => by cases xo <;> kernel_rfl) rfl
 ·rw [if_neg h, decide_eq_false h]
  exact bin2_lit rfl rfl (fun w => by kernel_rfl) rfl
abbrev cI (x : Int) : List V := [vi x]
abbrev cY (x : Int) : List V := [.lit (.int .u8 x)]
abbrev cB (x : Bool) : List V := [vb x]
abbrev cT (x : ByteArray) : List V := [vt x]
abbrev cS (c : α → List V) (l : List α) : List V := [.sl (l.map c)]
abbrev vn : V := .lit .nilIface
abbrev ot (t : Nat) : Operand := .tmp t
abbrev oc (n : Int) : Operand := .const (.int .i64 n)
theorem and_i {a b : Bool} (h : a = true) (k : b = true) : (a && b) = true := by simp_all
theorem not_f {a : Bool} (h : a = false) : (!a) = true := by simp_all
theorem le_of_lt1 {a b : Int} (h : decide (a < b + 1) = true) : decide (a ≤ b) = true := by simp only [decide_eq_true_eq] at *; omega
theorem nle_of_nlt1 {a b : Int} (h : decide (a < b + 1) = false) : decide (a ≤ b) = false := by simp only [decide_eq_false_iff_not] at *; omega
theorem pick_and {p a : Bool} {x : V} (h : p = true → x = vb a) : pickV (vb p) x (vb false) = some (vb (p && a)) := by
 cases p
 ·rfl
 ·rw [h rfl]; rfl
theorem pick_or {p b : Bool} {y : V} (h : p = false → y = vb b) : pickV (vb p) (vb true) y = some (vb (p || b)) := by
 cases p
 ·rw [h rfl]; rfl
 ·rfl
section
variable {t : TypeId} {xo yo : Operand} {a b : Int} {k : IntKind} {p q : Bool}
theorem q_lss : bin2 P .lss t xo yo (.lit (.int k a)) (.lit (.int k b)) = some (vb (decide (a < b))) := bin2_lit rfl rfl (fun w => by simp [eqGuard, binOp, Op.intCmp]) rfl
theorem q_gtr : bin2 P .gtr t xo yo (.lit (.int k a)) (.lit (.int k b)) = some (vb (decide (b < a))) := bin2_lit rfl rfl (fun w => by simp [eqGuard, binOp, Op.intCmp]) rfl
end
theorem p_b2s {l : List Int} : b2s (.sl (l.map cY)) = some (vt (strOfNums l)) := d_b2s l
theorem p_s2b {s : ByteArray} (h : decide ((s.size : Int) ≤ maxI) = true) : s2b (vt s) = some (.sl ((numsOf s).map cY)) := by
 have h := of_decide_eq_true h
 show (if s.size ≤ maxLen then some (V.sl (bytesR s)) else none) = _
 rw [if_pos (by unfold maxLen; unfold maxI at h; omega), bytesR_rows]
def sidx (s : ByteArray) (i : Int) : Option Int := if 0 ≤ i ∧ i < s.size then some (bAt s i.toNat) else none
theorem p_sidx {t : TypeId} (ht : P.underlying t = some .string) (s : ByteArray) (i : Int) : Rv (fun x => V.lit (.int .u8 x)) (scal2 P (Instr.index t) (vt s) (vi i)) (sidx s i) := fun x h => by
 unfold sidx at h
 split at h
 ·rename_i h0
  obtain rfl := oJ_ h
  exact d_index ht h0.1 h0.2
 ·cases h
def slc_lo (l : List α) (i : Int) : Option (List α) := if 0 ≤ i ∧ i ≤ l.length then some (l.drop i.toNat) else none
def slc_hi (l : List α) (i : Int) : Option (List α) := if 0 ≤ i ∧ i ≤ l.length then some (l.take i.toNat) else none
def slc_lh (l : List α) (i j : Int) : Option (List α) := if 0 ≤ i ∧ i ≤ j ∧ j ≤ l.length then some ((l.take j.toNat).drop i.toNat) else none
theorem all_len {c : α → List V} {k : Nat} (hc : ∀ a, (c a).length = k) (l : List α) : (l.map c).all (fun r => decide (r.length = k)) = true := by simp [hc]
theorem p_slc_hi {c : α → List V} {k : Nat} (hc : ∀ a, (c a).length = k) (l : List α) (i : Int) : Rv (fun x => V.sl (x.map c)) (slc (some k) (.sl (l.map c)) none (some (vi i))) (slc_hi l i) := fun x h => by
 unfold slc_hi at h
 split at h
 ·rename_i h0
  obtain rfl := oJ_ h
  have := d_slc_hi (k := k) (h := i.toNat) (all_len hc l) (by simp; omega)
  rw [Int.toNat_of_nonneg h0.1] at this
  rw [this]; simp [List.map_take]
 ·cases h
def sslc_lo (s : ByteArray) (i : Int) : Option ByteArray := if 0 ≤ i ∧ i ≤ s.size then some (s.extract i.toNat s.size) else none
def sslc_hi (s : ByteArray) (i : Int) : Option ByteArray := if 0 ≤ i ∧ i ≤ s.size then some (s.extract 0 i.toNat) else none
def sslc_lh (s : ByteArray) (i j : Int) : Option ByteArray := if 0 ≤ i ∧ i ≤ j ∧ j ≤ s.size then some (s.extract i.toNat j.toNat) else none
theorem p_sslc_lo (s : ByteArray) (i : Int) : Rv (fun x => vt x) (slc none (vt s) (some (vi i)) none) (sslc_lo s i) := fun x h => by
 unfold sslc_lo at h
 split at h
 ·rename_i h0; obtain rfl := oJ_ h; exact d_slc_str_lo h0.1 h0.2
 ·cases h
theorem p_sslc_hi (s : ByteArray) (i : Int) : Rv (fun x => vt x) (slc none (vt s) none (some (vi i))) (sslc_hi s i) := fun x h => by
 unfold sslc_hi at h
 split at h
 ·rename_i h0; obtain rfl := oJ_ h; exact d_slc_str_hi h0.1 h0.2
 ·cases h
def app (l m : List α) : Option (List α) := if l.length + m.length ≤ 4294967296 then some (l ++ m) else none
theorem p_app {c : α → List V} {k : Nat} (hc : ∀ a, (c a).length = k) (l m : List α) : Rv (fun x => V.sl (x.map c)) (appV k (l.map c) (.sl (m.map c))) (app l m) := fun x h => by
 unfold app at h
 split at h
 ·rename_i h0
  obtain rfl := oJ_ h
  rw [d_app (all_len hc m) (by simpa using h0)]
  show _ = some (V.sl ((l ++ m).map c))
  rw [List.map_append]
 ·cases h
theorem callV_J0 {E : FuncId → List V → Option V} {F : V} {xs : List V} : callV (envJ [] E) F xs = callV E F xs := by cases F <;> rfl
end
end Go.Proofs.YtgkohnjpnnofhaaGreat.Ty
