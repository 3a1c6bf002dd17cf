/- What the functions on several cubes come to. -/
import Derived.Test.YtpkcdfgjcodidaaDoorSCube
namespace Go.Proofs.YtpkcdfgjcodidaaDoor.Ty
open Go Go.RowKit Go.Proofs.YtpkcdfgjcodidaaDoor.Den
set_option linter.unusedSimpArgs false
set_option linter.unusedVariables false
set_option maxRecDepth 100000

def anyC (l : List T_Cube) (h : Int) : Bool := l.any fun c => hs c h
def csf (l : List T_Cube) : Int := if 40 < (l.length : Int) then 4 else firstF cf l
theorem csf_len {l : List T_Cube} (h : csf l = 0) : l.length ≤ 40 ∧ ∀ x ∈ l, cf x = 0 := by
  unfold csf at h
  split at h
  · cases h
  · exact ⟨by omega, firstF_0.1 h⟩
theorem s_rAny (l : List T_Cube) (h : Int) (hl : (l.length : Int) ≤ maxI) : t_railref1_Any l h = some (anyC l h) := by
  unfold t_railref1_Any anyC
  simp only [join_eq, loopI_eq hl]
  rw [goI_any (p := fun c => hs c h) (r := true) l 0 fun x _ i k => by simp only [s_rHas, Option.bind_some]]
  cases (l.any fun c => hs c h) <;> rfl
/-- the number of the first that has p -/
def fnd {α : Type} (p : α → Bool) : List α → Int → Int
  | [], _ => -1
  | x :: l, i => if p x = true then i else fnd p l (i + 1)
theorem fnd_any {α : Type} (p : α → Bool) : ∀ (l : List α) (i : Int), 0 ≤ i → decide (0 ≤ fnd p l i) = l.any p
  | [], _, _ => rfl
  | x :: l, i, h => by
    rw [fnd, List.any_cons]
    cases hp : p x
    · simpa using fnd_any p l (i + 1) (by omega)
    · simpa using h
theorem goI_fnd {α : Type} {step : Int → α → Unit → (Unit → Option Int) → Option Int} {fin : Unit → Option Int} {p : α → Bool} (hf : fin () = some (-1)) : ∀ (l : List α) (i : Int), (∀ x ∈ l, ∀ i k, step i x () k = if p x = true then some i else k ()) → goI step fin i l () = some (fnd p l i)
  | [], i, _ => hf
  | x :: l, i, h => by
    rw [goI, h x (by simp), fnd, goI_fnd hf l (i + 1) fun y hy => h y (by simp [hy])]
    cases p x <;> rfl
theorem s_IndexFunc_Cube (l : List T_Cube) (g : T_Cube → Option Bool) (p : T_Cube → Bool) (hg : ∀ x ∈ l, g x = some (p x)) (hl : (l.length : Int) ≤ maxI) : t_slices_IndexFunc_api_Cube_api_Cube l g = some (fnd p l 0) := by
  unfold t_slices_IndexFunc_api_Cube_api_Cube
  simp only [join_eq, loopI_eq hl]
  exact goI_fnd rfl l 0 fun x hx i k => by simp only [hg x hx, Option.bind_some]
theorem s_ContainsFunc_Cube (l : List T_Cube) (g : T_Cube → Option Bool) (p : T_Cube → Bool) (hg : ∀ x ∈ l, g x = some (p x)) (hl : (l.length : Int) ≤ maxI) : t_slices_ContainsFunc_api_Cube_api_Cube l g = some (l.any p) := by
  unfold t_slices_ContainsFunc_api_Cube_api_Cube
  rw [s_IndexFunc_Cube l g p hg hl, Option.bind_some, fnd_any p l 0 (Int.le_refl _)]
theorem s_cubes_Has (l : List T_Cube) (h : Int) (hl : (l.length : Int) ≤ maxI) : t_cubes_Has l h = some (anyC l h) := by
  unfold t_cubes_Has anyC
  rw [s_ContainsFunc_Cube l _ (fun c => hs c h) (fun x _ => by simp only [t_cubes_Has_1, s_cube_Has, Option.bind_some]) hl]
  rfl
theorem s_rCubes (l : List T_Cube) : t_railref1_Cubes l = some (csf l) := by
  unfold t_railref1_Cubes csf
  by_cases h : 40 < (l.length : Int)
  · rw [if_pos (decide_eq_true h), if_pos h]
  · rw [if_neg (by simpa using h), if_neg h]
    simp only [join_eq]
    rw [loopI_eq (by unfold maxI; omega)]
    exact goI_first (f := cf) rfl l 0 fun x _ i k => by simp only [s_rCube, Option.bind_some, decide_eq_true_eq]
theorem s_cubes_Check (l : List T_Cube) : t_cubes_Check l = some (csf l) := by
  unfold t_cubes_Check csf
  by_cases h : 40 < (l.length : Int)
  · rw [if_pos (decide_eq_true h), if_pos h]
  · rw [if_neg (by simpa using h), if_neg h]
    simp only [join_eq]
    rw [loopI_eq (by unfold maxI; omega)]
    exact goI_first (f := cf) rfl l 0 fun x _ i k => by
      simp only [s_cube_Check, Option.bind_some]
      by_cases h : cf x = 0 <;> simp [h]
def heads (p : Int → Bool) : List Int := collect p 16 0
theorem s_cubes_Headers_of (q : List T_Cube → Int → Bool) (l : List T_Cube) (hq : ∀ h, csf l = 0 → t_cubes_Has l h = some (q l h)) : t_cubes_Headers l = some (if csf l = 0 then (heads (q l), 0) else ([], csf l)) := by
  unfold t_cubes_Headers heads
  simp only [s_cubes_Check, Option.bind_some]
  by_cases h : csf l = 0
  · simp only [h, decide_true, Bool.not_true, Bool.false_eq_true, if_false, if_true]
    rw [loopU_eq (by omega) (by unfold maxI; omega), show ((16 : Int) - 0).toNat = 16 from rfl]
    rw [goU_collect (p := q l) 16 0 [] (by simp) fun j s k h1 h2 h3 => ?_]
    · simp only [Option.bind_some, List.nil_append]
    · simp only [hq _ h, Option.bind_some]
      cases q l j
      · rfl
      · rw [app_eq (by simp; omega)]; rfl
  · simp [h]
theorem s_cubes_Headers (l : List T_Cube) : t_cubes_Headers l = some (if csf l = 0 then (heads (anyC l), 0) else ([], csf l)) :=
  s_cubes_Headers_of anyC l fun h h0 => s_cubes_Has l h (by have := (csf_len h0).1; unfold maxI; omega)
theorem s_cubes_Count (l : List T_Cube) : t_cubes_Count l = some (if csf l = 0 then (((heads (anyC l)).length : Int), 0) else (0, csf l)) := by
  unfold t_cubes_Count
  rw [s_cubes_Headers, Option.bind_some]
  split <;> rfl
/-- two lists, element by element -/
theorem goI_eq {step : Int → Int → Unit → (Unit → Option Bool) → Option Bool} {fin : Unit → Option Bool} (hf : fin () = some true) (b : List Int) : ∀ (l : List Int) (i : Nat), l.length + i = b.length → (∀ x i k, step i x () k = (idx b i).bind fun r => if (decide (x ≠ r)) = true then some false else k ()) → goI step fin (i : Int) l () = some (decide (l = b.drop i))
  | [], i, hi, _ => by
    have : b.drop i = [] := List.drop_eq_nil_of_le (by simp at hi; omega)
    rw [goI, hf, this]; rfl
  | x :: l, i, hi, h => by
    have hlt : i < b.length := by simp at hi; omega
    rw [goI, h, idx_nat, List.getElem?_eq_getElem hlt, Option.bind_some, List.drop_eq_getElem_cons hlt]
    have := goI_eq hf b l (i + 1) (by simp at hi; omega) h
    rw [show ((i + 1 : Nat) : Int) = (i : Int) + 1 by omega] at this
    rw [this]
    by_cases e : x = b[i]
    · rw [if_neg (by simp [e])]
      congr 1
      rw [decide_eq_decide]
      exact ⟨fun h => by rw [e, h], fun h => (List.cons.inj h).2⟩
    · rw [if_pos (by simpa using e)]
      exact congrArg some (decide_eq_false fun h => e (List.cons.inj h).1).symm
theorem s_Equal_int (a b : List Int) (ha : (a.length : Int) ≤ maxI) : t_slices_Equal_int_int a b = some (decide (a = b)) := by
  unfold t_slices_Equal_int_int
  by_cases h : a.length = b.length
  · rw [if_neg (by simp [h])]
    simp only [join_eq, loopI_eq ha]
    exact goI_eq rfl b a 0 (by simpa using h) fun x i k => rfl
  · rw [if_pos (by simpa using fun z => h (by omega)), decide_eq_false (fun e => h (by rw [e]))]
theorem s_Ints (a b : List Int) (ha : (a.length : Int) ≤ maxI) : t_railsame_Ints a b = some (decide (a = b)) := by
  unfold t_railsame_Ints
  by_cases h : a.length = b.length
  · rw [if_neg (by simp [h])]
    simp only [join_eq, loopI_eq ha]
    exact goI_eq rfl b a 0 (by simpa using h) fun x i k => rfl
  · rw [if_pos (by simpa using fun z => h (by omega)), decide_eq_false (fun e => h (by rw [e]))]
theorem heads_len (p : Int → Bool) : (heads p).length ≤ 16 := collect_len p 16 0
theorem s_cubes_Same (l m : List T_Cube) : t_cubes_Same l m = some (if csf l = 0 then (if csf m = 0 then (decide (heads (anyC l) = heads (anyC m)), 0) else (false, csf m)) else (false, csf l)) := by
  unfold t_cubes_Same
  simp only [s_cubes_Headers, Option.bind_some]
  by_cases h1 : csf l = 0
  · by_cases h2 : csf m = 0
    · simp only [h1, h2, if_true, decide_true, Bool.not_true, Bool.false_eq_true, if_false]
      rw [s_Equal_int _ _ (by have := heads_len (anyC l); unfold maxI; omega), Option.bind_some]
    · simp [h1, h2]
  · simp [h1]

/-! less -/
def tc (x : Nc) : T_Cube := ⟨(x.1 : Int), (x.2 : Int)⟩
theorem tc_of {c : T_Cube} (h : cf c = 0) : ∃ n : Nc, c = tc n ∧ okN n = true := by
  obtain ⟨n, hn, hk⟩ := cb_ok (x := ⟨c.Mask, c.Bits⟩) h
  simp only [Nc.cb, Cb.mk.injEq] at hn
  exact ⟨n, by cases c; simp_all [tc], hk⟩
theorem tcs_of : ∀ {l : List T_Cube}, (∀ x ∈ l, cf x = 0) → ∃ n : List Nc, l = n.map tc ∧ ∀ x ∈ n, okN x = true
  | [], _ => ⟨[], rfl, by simp⟩
  | x :: l, h => by
    obtain ⟨y, rfl, hy⟩ := tc_of (h x (by simp))
    obtain ⟨n, rfl, hn⟩ := tcs_of (l := l) (fun z hz => h z (by simp [hz]))
    exact ⟨y :: n, rfl, by simpa using ⟨hy, fun a b hab => hn (a, b) hab⟩⟩
theorem cf_tc {x : Nc} (h : okN x = true) : cf (tc x) = 0 := cchk_cb h
theorem hs_tc {x : Nc} (h : okN x = true) {n : Nat} (hn : n < 16) : hs (tc x) (n : Int) = hasN x n := chas_cb h hn
theorem cmt_tc {x y : Nc} (h : okN x = true) (h2 : okN y = true) : cmt (tc x) (tc y) = metN x y := cmet_cb h h2
def wF (b : Nc) (k : (T_Cube × List T_Cube × Int) → Option (List T_Cube)) (s : T_Cube × List T_Cube × Int) : Option (List T_Cube) :=
  if decide (0 < s.2.2) = true then
    ((if decide (bits .and .i64 (bits .andNot .i64 (tc b).Mask s.1.Mask) s.2.2 = 0) = true then some (s.1, s.2.1) else
      (app s.2.1 [T_Cube.mk (bits .or .i64 s.1.Mask s.2.2) (bits .or .i64 s.1.Bits (bits .andNot .i64 s.2.2 (tc b).Bits))]).bind fun r =>
        some (T_Cube.mk (bits .or .i64 s.1.Mask s.2.2) (bits .or .i64 s.1.Bits (bits .and .i64 s.2.2 (tc b).Bits)), r)).bind fun s2 => k (s2.1, s2.2, Int.fdiv s.2.2 (2 ^ (min (Int.toNat 1) 64))))
  else some s.2.1
def nexts : List Nat → Prop
  | [] => True
  | [x] => 0 < x ∧ x < 16 ∧ Int.fdiv (x : Int) (2 ^ (min (Int.toNat 1) 64)) = 0
  | x :: y :: r => 0 < x ∧ x < 16 ∧ Int.fdiv (x : Int) (2 ^ (min (Int.toNat 1) 64)) = (y : Int) ∧ nexts (y :: r)
theorem wF_step {b : Nc} (hb : b.1 < 16 ∧ b.2 < 16) (k : (T_Cube × List T_Cube × Int) → Option (List T_Cube)) {a : Nc} (ha : a.1 < 16 ∧ a.2 < 16) {out : List Nc} (ho : out.length ≤ 1000) {x : Nat} (h0 : 0 < x) (h1 : x < 16) :
    wF b k (tc a, out.map tc, (x : Int)) = if (b.1 &&& (15 ^^^ a.1)) &&& x = 0 then k (tc a, out.map tc, Int.fdiv (x : Int) (2 ^ (min (Int.toNat 1) 64))) else k (tc (a.1 ||| x, a.2 ||| (x &&& b.2)), (out ++ [(a.1 ||| x, a.2 ||| (x &&& (15 ^^^ b.2)))]).map tc, Int.fdiv (x : Int) (2 ^ (min (Int.toNat 1) 64))) := by
  unfold wF
  rw [if_pos (by simpa using h0)]
  have e1 : bits .andNot .i64 (tc b).Mask (tc a).Mask = ((b.1 &&& (15 ^^^ a.1) : Nat) : Int) := nnot hb.1 ha.1
  have e2 : bits .and .i64 ((b.1 &&& (15 ^^^ a.1) : Nat) : Int) (x : Int) = (((b.1 &&& (15 ^^^ a.1)) &&& x : Nat) : Int) := nand (and_lt hb.1) h1
  have e3 : bits .or .i64 (tc a).Mask (x : Int) = ((a.1 ||| x : Nat) : Int) := nor_ ha.1 h1
  have e4 : bits .andNot .i64 (x : Int) (tc b).Bits = ((x &&& (15 ^^^ b.2) : Nat) : Int) := nnot h1 hb.2
  have e5 : bits .or .i64 (tc a).Bits ((x &&& (15 ^^^ b.2) : Nat) : Int) = ((a.2 ||| (x &&& (15 ^^^ b.2)) : Nat) : Int) := nor_ ha.2 (and_lt h1)
  have e6 : bits .and .i64 (x : Int) (tc b).Bits = ((x &&& b.2 : Nat) : Int) := nand h1 hb.2
  have e7 : bits .or .i64 (tc a).Bits ((x &&& b.2 : Nat) : Int) = ((a.2 ||| (x &&& b.2) : Nat) : Int) := nor_ ha.2 (and_lt h1)
  simp only [e1, e2, e3, e4, e5, e6, e7]
  by_cases h : (b.1 &&& (15 ^^^ a.1)) &&& x = 0
  · rw [if_pos h, if_pos (by simp only [h]; rfl)]; rfl
  · rw [if_neg h, if_neg (by simpa using fun z => h (by omega)), app_eq (by simp; omega)]
    simp only [Option.bind_some, List.map_append]
    rfl
theorem wF_loop {b : Nc} (hb : b.1 < 16 ∧ b.2 < 16) : ∀ (l : List Nat) (x : Nat) (m : Nat) (a : Nc) (out : List Nc), nexts (x :: l) → a.1 < 16 ∧ a.2 < 16 → out.length + l.length + 1 ≤ 1000 → tfix (wF b) (m + l.length + 2) (tc a, out.map tc, (x : Int)) = some ((out ++ wloopN a b (x :: l)).map tc)
  | [], x, m, a, out, hn, ha, ho => by
    obtain ⟨h0, h1, h2⟩ := hn
    show wF b (tfix (wF b) (m + 1)) _ = _
    rw [wF_step hb _ ha (by simp at ho; omega) h0 h1, h2]
    have hz : ∀ s, tfix (wF b) (m + 1) s = wF b (tfix (wF b) m) s := fun _ => rfl
    simp only [hz, wloopN]
    split <;> simp [wF]
  | y :: l, x, m, a, out, hn, ha, ho => by
    obtain ⟨h0, h1, h2, h3⟩ := hn
    show wF b (tfix (wF b) (m + l.length + 2)) _ = _
    rw [wF_step hb _ ha (by simp at ho; omega) h0 h1, h2]
    rw [wF_loop hb l y m a out h3 ha (by simp at ho; omega), wF_loop hb l y m _ _ h3 ⟨or_lt ha.1 h1, or_lt ha.2 (and_lt h1)⟩ (by simp at ho ⊢; omega)]
    conv => rhs; rw [wloopN]
    split <;> simp
theorem s_without {a b : Nc} (ha : okN a = true) (hb : okN b = true) : t_cubes_without (tc a) (tc b) = some ((withoutN a b).map tc) := by
  unfold t_cubes_without withoutN
  simp only [s_cube_Meet, Option.bind_some, cmt_tc ha hb]
  cases h : metN a b
  · rfl
  · simp only [if_true, Bool.not_true, Bool.false_eq_true, if_false]
    obtain ⟨m, hm⟩ : ∃ m, bigN = m + [4, 2, 1].length + 2 := ⟨bigN - 5, by have := bigN_gt; simp; omega⟩
    rw [hm]
    have := wF_loop (okN_lt hb) [4, 2, 1] 8 m a [] (by simp only [nexts]; decide) (okN_lt ha) (by simp)
    rw [bind_some_id]; exact this
/-- a loop that joins what each element gives -/
theorem goI_flat {α : Type} {step : Int → α → List T_Cube → (List T_Cube → Option (List T_Cube)) → Option (List T_Cube)} {f : α → List T_Cube} : ∀ (l : List α) (i : Int) (s : List T_Cube), s.length + (l.flatMap f).length ≤ 1000000 →
    (∀ x ∈ l, ∀ i s k, s.length + (f x).length ≤ 1000000 → step i x s k = k (s ++ f x)) → goI step some i l s = some (s ++ l.flatMap f)
  | [], i, s, _, _ => by simp [goI]
  | x :: l, i, s, hs, h => by
    rw [List.flatMap_cons, List.length_append] at hs
    rw [goI, h x (by simp) i s _ (by omega), goI_flat l (i + 1) (s ++ f x) (by rw [List.length_append]; omega) fun y hy => h y (by simp [hy]), List.flatMap_cons, List.append_assoc]
theorem s_minus_step {b : Nc} (hb : okN b = true) {os : List Nc} {p : Nat → Bool} (ho : Apart os p) :
    loopI (os.map tc) (fun (i43 : Int) x44 (s39 : (List T_Cube)) k40 => (t_cubes_without x44 (tc b)).bind fun r55 => (app s39 r55).bind fun r57 => k40 (r57)) (fun (s39 : (List T_Cube)) => some (s39)) [] = some ((os.flatMap fun a => withoutN a b).map tc) := by
  have h16 := ho.length_le
  have hl := (ho.less hb).length_le
  rw [loopI_eq (by rw [List.length_map]; unfold maxI; omega)]
  have hf : (os.map tc).flatMap (fun c => (withoutN (c.Mask.toNat, c.Bits.toNat) b).map tc) = (os.flatMap fun a => withoutN a b).map tc := by
    clear h16 hl ho
    induction os with
    | nil => rfl
    | cons a os ih => simp only [List.map_cons, List.flatMap_cons, List.map_append, ih]; rfl
  rw [goI_flat (f := fun c => (withoutN (c.Mask.toNat, c.Bits.toNat) b).map tc) (os.map tc) 0 [] (by rw [hf, List.length_map, List.length_nil]; omega) fun c hc i s k hs => ?_]
  · rw [hf]; rfl
  · obtain ⟨a, ha, rfl⟩ := List.mem_map.1 hc
    have e : ((tc a).Mask.toNat, (tc a).Bits.toNat) = a := rfl
    rw [e] at hs ⊢
    rw [s_without (ho.ok a ha) hb, Option.bind_some, app_eq (by omega)]
    rfl
theorem s_minus {c : Nc} (hc : okN c = true) {l : List Nc} (hl : ∀ x ∈ l, okN x = true) (hlen : (l.length : Int) ≤ maxI) : t_cubes_minus (tc c) (l.map tc) = some ((lessAllN l [c]).map tc) := by
  unfold t_cubes_minus
  rw [loopI_eq (by simpa using hlen), bind_some_id]
  clear hlen
  have key : ∀ (l : List Nc) (i : Int) (os : List Nc) (p : Nat → Bool), (∀ x ∈ l, okN x = true) → Apart os p → goI (fun (i16 : Int) x17 (s12 : (List T_Cube)) k13 =>
     ((loopI s12 (fun (i43 : Int) x44 (s39 : (List T_Cube)) k40 =>
     (t_cubes_without x44 x17).bind fun r55 =>
     (app s39 r55).bind fun r57 =>
     k40 (r57)) (fun (s39 : (List T_Cube)) =>
     some (s39)) ([])).bind fun (s34 : (List T_Cube)) =>
     some (s34)).bind fun (s24 : (List T_Cube)) =>
     k13 (s24)) (fun (s12 : (List T_Cube)) => some (s12)) i (l.map tc) (os.map tc) = some ((lessAllN l os).map tc) := by
    intro l
    induction l with
    | nil => intro i os p _ _; rfl
    | cons b l ih =>
      intro i os p hl ho
      rw [List.map_cons, goI]
      have hb := hl b (by simp)
      rw [s_minus_step hb ho]
      exact ih (i + 1) _ _ (fun x hx => hl x (by simp [hx])) (ho.less hb)
  exact key l 0 [c] _ hl (Apart.single hc)
/-- cubes apart: each less those ahead -/
def apN : List Nc → List Nc → List Nc
  | _, [] => []
  | pre, c :: l => lessAllN pre [c] ++ apN (pre ++ [c]) l
theorem apN_apart : ∀ (l pre : List Nc), (∀ x ∈ pre, okN x = true) → (∀ x ∈ l, okN x = true) → Apart (apN pre l) (fun n => (l.any fun b => hasN b n) && !(pre.any fun b => hasN b n))
  | [], pre, _, _ => ⟨by simp [apN], fun h _ => by simp [apN]⟩
  | c :: l, pre, hp, hl => by
    have h1 := (Apart.single (hl c (by simp))).all hp
    have h2 := apN_apart l (pre ++ [c]) (by intro x hx; rcases List.mem_append.1 hx with hx | hx; exact hp x hx; simp at hx; subst hx; exact hl x (by simp)) (fun x hx => hl x (by simp [hx]))
    refine ⟨fun x hx => ?_, fun n hn => ?_⟩
    · rcases List.mem_append.1 hx with hx | hx
      · exact h1.ok x hx
      · exact h2.ok x hx
    · rw [apN, List.countP_append, h1.one n hn, h2.one n hn, List.any_cons, List.any_append]
      simp only [List.any_cons, List.any_nil, Bool.or_false]
      cases hasN c n <;> cases (pre.any fun b => hasN b n) <;> cases (l.any fun b => hasN b n) <;> rfl
theorem s_cubes_Minus (c : T_Cube) (l : List T_Cube) : t_cubes_Minus c l = if cf c = 0 then (if csf l = 0 then (t_cubes_minus c l).bind fun r => some (r, 0) else some ([], csf l)) else some ([], cf c) := by
  unfold t_cubes_Minus
  simp only [s_cube_Check, s_cubes_Check, Option.bind_some]
  by_cases h1 : cf c = 0
  · by_cases h2 : csf l = 0 <;> simp [h1, h2]
  · simp [h1]
theorem lessAllN_le {c : Nc} (hc : okN c = true) {l : List Nc} (hl : ∀ x ∈ l, okN x = true) : (lessAllN l [c]).length ≤ 16 := ((Apart.single hc).all hl).length_le
theorem s_cubes_Apart_of (l : List Nc) (hl : ∀ x ∈ l, okN x = true) (h0 : csf (l.map tc) = 0) : t_cubes_Apart (l.map tc) = some ((apN [] l).map tc, 0) := by
  have h40 := (csf_len h0).1
  rw [List.length_map] at h40
  unfold t_cubes_Apart
  simp only [s_cubes_Check, Option.bind_some, h0, decide_true, Bool.not_true, Bool.false_eq_true, if_false]
  rw [loopI_eq (by rw [List.length_map]; unfold maxI; omega)]
  have key : ∀ (r pre : List Nc) (s : List Nc), pre ++ r = l → s.length + 16 * r.length ≤ 1000000 → goI (fun (i12 : Int) x13 (s8 : (List T_Cube)) k9 =>
     (slc_hi (l.map tc) i12).bind fun r23 =>
     (t_cubes_minus x13 r23).bind fun r25 =>
     (app s8 r25).bind fun r27 =>
     k9 (r27)) (fun (s8 : (List T_Cube)) => some s8) (pre.length : Int) (r.map tc) (s.map tc) = some ((s ++ apN pre r).map tc) := by
    intro r
    induction r with
    | nil => intro pre s _ _; simp [goI, apN]
    | cons c r ih =>
      intro pre s hpr hs
      rw [List.map_cons, goI]
      have hpre : ∀ x ∈ pre, okN x = true := fun x hx => hl x (by rw [← hpr]; simp [hx])
      have hc : okN c = true := hl c (by rw [← hpr]; simp)
      have hle := lessAllN_le hc hpre
      have e1 : slc_hi (l.map tc) (pre.length : Int) = some (pre.map tc) := by
        unfold slc_hi
        rw [if_pos ⟨by omega, by rw [← hpr]; simp; omega⟩, ← hpr]
        simp
      rw [e1, Option.bind_some, s_minus hc hpre (by have : pre.length ≤ l.length := by rw [← hpr]; simp
                                                    unfold maxI; omega), Option.bind_some, app_eq (by simp at hs ⊢; omega), Option.bind_some, ← List.map_append]
      have := ih (pre ++ [c]) (s ++ lessAllN pre [c]) (by rw [← hpr]; simp) (by simp at hs ⊢; omega)
      rw [show ((pre ++ [c]).length : Int) = (pre.length : Int) + 1 by simp] at this
      refine this.trans ?_
      rw [apN, List.append_assoc]
  have := key l [] [] rfl (by simp; omega)
  simp only [List.length_nil, List.map_nil, List.nil_append] at this
  exact congrArg (fun z => z.bind fun s8 => some (s8, (0 : Int))) this
theorem s_cubes_Apart (l : List T_Cube) : (csf l = 0 → ∃ n : List Nc, l = n.map tc ∧ (∀ x ∈ n, okN x = true) ∧ t_cubes_Apart l = some ((apN [] n).map tc, 0)) ∧ (csf l ≠ 0 → t_cubes_Apart l = some ([], csf l)) := by
  refine ⟨fun h => ?_, fun h => ?_⟩
  · obtain ⟨n, rfl, hn⟩ := tcs_of (csf_len h).2
    exact ⟨n, rfl, hn, s_cubes_Apart_of n hn h⟩
  · unfold t_cubes_Apart
    simp [s_cubes_Check, h]
end Go.Proofs.YtpkcdfgjcodidaaDoor.Ty
