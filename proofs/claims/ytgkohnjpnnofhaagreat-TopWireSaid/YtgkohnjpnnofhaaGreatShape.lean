/- Arguments of any shape (numbers, truths, texts, slices, structs, one in the other), read as trees. -/
import Derived.Test.YtgkohnjpnnofhaaGreatOpen
import Derived.Test.YtgkohnjpnnofhaaGreatRow
import Derived.Test.YtgkohnjpnnofhaaGreatDenLib
namespace Go.Proofs.YtgkohnjpnnofhaaGreat.Den
set_option linter.unusedSimpArgs false
set_option linter.unusedVariables false
open Go.ChangeShapes Go.WideShapes Go.RowKit
inductive Sh where
 | int (k : IntKind)
 | bool
 | str
 | sl (e : Sh)
 | st (r : Sh)
 | nil
 | cons (a r : Sh)
def Sh.size : Sh → Nat
 | .nil => 0
 | .cons a r => a.size + r.size
 | .st r => r.size
 | _ => 1
def shB (P : Program) : Sh → TypeId ⊕ (List Field × Nat) → Bool
 | .int k, .inl t => match P.underlying t with
  | some (.int k') => decide (k' = k)
  | _ => false
 | .bool, .inl t => match P.underlying t with
  | some .bool => true
  | _ => false
 | .str, .inl t => match P.underlying t with
  | some .string => true
  | _ => false
 | .sl s, .inl t => match P.underlying t with
  | some (.slice e) => decide (P.cellsOf e = s.size) && decide (0 < s.size) && shB P s (.inl e)
  | _ => false
 | .st r, .inl t => match P.underlying t with
  | some (.struct fs) => decide (P.cellsOf t = r.size) && shB P r (.inr (fs.toList, 0))
  | _ => false
 | .nil, .inr (fs, _) => fs.isEmpty
 | .cons a r, .inr (f :: fs, off) => decide (f.offset = off) && decide (P.cellsOf f.type = a.size) && shB P a (.inl f.type) && shB P r (.inr (fs, off + a.size))
 | _, _ => false
def Sh.ok (B : Nat) : Sh → List V → Prop
 | .int k, xs => ∃ n, xs = [.lit (.int k n)] ∧ (Lit.int k n).wf = true
 | .bool, xs => ∃ b, xs = [.lit (.bool b)]
 | .str, xs => ∃ s : ByteArray, xs = [.lit (.string s)] ∧ s.size ≤ B
 | .sl e, xs => ∃ rows, xs = [.sl rows] ∧ rows.length ≤ B ∧ ∀ r ∈ rows, e.ok B r
 | .st r, xs => r.ok B xs
 | .nil, xs => xs = []
 | .cons a r, xs => ∃ ys zs, xs = ys ++ zs ∧ a.ok B ys ∧ r.ok B zs
theorem Sh.ok_len {B : Nat} : ∀ {sh : Sh} {xs : List V}, sh.ok B xs → xs.length = sh.size
 | .int k, xs, ⟨n, h, _⟩ => by rw [h]; rfl
 | .bool, xs, ⟨n, h⟩ => by rw [h]; rfl
 | .str, xs, ⟨n, h, _⟩ => by rw [h]; rfl
 | .sl e, xs, ⟨n, h, _⟩ => by rw [h]; rfl
 | .st r, xs, h => Sh.ok_len (sh := r) h
 | .nil, xs, h => by rw [show xs = [] from h]; rfl
 | .cons a r, xs, ⟨ys, zs, h, h1, h2⟩ => by rw [h, List.length_append, Sh.ok_len h1, Sh.ok_len h2]; rfl
def wmem (w : World) : Mem := fun b o => w.cell? ⟨b, o, none⟩
def RelC1 (M : Mem) (cs : List Value) (xs : List V) : Prop := cs.length = xs.length ∧ ∀ i x, xs[i]? = some x → (cs.getD i undef).oneCell' = true ∧ Rel M (cs.getD i undef) x
theorem RelC1.one {M : Mem} {v : Value} {x : V} (h1 : v.oneCell' = true) (h : Rel M v x) : RelC1 M [v] [x] := ⟨rfl, fun i y hy => by
 cases i with
 | zero => simp at hy; subst hy; exact ⟨h1, h⟩
 | succ i => simp at hy⟩
theorem RelC1.append {M : Mem} {cs ds : List Value} {xs ys : List V} (h : RelC1 M cs xs) (k : RelC1 M ds ys) : RelC1 M (cs ++ ds) (xs ++ ys) := by
 refine ⟨by rw [List.length_append, List.length_append, h.1, k.1], fun i y hy => ?_⟩
 by_cases hi : i < xs.length
 ·rw [List.getElem?_append_left hi] at hy
  have e : (cs ++ ds).getD i undef = cs.getD i undef := by rw [List.getD_eq_getElem?_getD, List.getD_eq_getElem?_getD, List.getElem?_append_left (by rw [h.1]; exact hi)]
  rw [e]; exact h.2 i y hy
 ·rw [List.getElem?_append_right (by omega)] at hy
  have e : (cs ++ ds).getD i undef = ds.getD (i - xs.length) undef := by rw [List.getD_eq_getElem?_getD, List.getD_eq_getElem?_getD, List.getElem?_append_right (by rw [h.1]; omega), h.1]
  rw [e]; exact k.2 _ y hy
section
variable {H : Type} {enc : TypeId × Value → H} {P : Program} {w : World} {base : Nat} {spare : Nat → Bool} {held : Bool} {B : Nat}
theorem bulk_mem {l : List (DataW H)} {d : DataW H} (h : d ∈ l) : Rows.uptoBulk d ≤ Rows.uptoBulkAll l := by
 induction l with
 | nil => cases h
 | cons x r ih =>
  simp only [Rows.uptoBulkAll]
  cases List.mem_cons.1 h with
  | inl e => subst e; omega
  | inr e => have := ih e; omega
theorem bulk_one (d : DataW H) : 1 ≤ Rows.uptoBulk d := by
 cases d with
 | lit l => cases l <;> simp [Rows.uptoBulk]
 | _ => simp [Rows.uptoBulk]
theorem bulk_len (l : List (DataW H)) : l.length ≤ Rows.uptoBulkAll l := by
 induction l with
 | nil => simp
 | cons x r ih => have := bulk_one x; simp only [Rows.uptoBulkAll, List.length_cons]; omega
set_option maxHeartbeats 1600000 in
theorem sh_trod : ∀ (sh : Sh),
  (∀ (t : TypeId) (fuel : Nat) (cs : List Value) (x : DataW H × List MemPlace), shB P sh (.inl t) = true → DataW.trod enc P w base spare held fuel t cs = some x → (maxLen ≤ B ∨ Rows.uptoBulk x.1 ≤ B) → ∃ xs, sh.ok B xs ∧ RelC1 (wmem w) cs xs) ∧
  (∀ (fs : List Field) (off : Nat) (cs : List Value) (ds : List (DataW H)), shB P sh (.inr (fs, off)) = true → off + sh.size ≤ cs.length → (∀ (i : Nat) (f : Field), fs[i]? = some f → ∃ n y, DataW.trod enc P w base spare held n f.type ((cs.drop f.offset).take (P.cellsOf f.type)) = some y ∧ ds[i]? = some y.1) →
   (maxLen ≤ B ∨ Rows.uptoBulkAll ds ≤ B) → ∃ xs, sh.ok B xs ∧ RelC1 (wmem w) ((cs.drop off).take sh.size) xs) := by
 intro sh
 induction sh with
 | int k =>
  refine ⟨fun t fuel cs x hB h hb => ?_, fun fs off cs ds hB => by simp [shB] at hB⟩
  unfold shB at hB
  split at hB
  ·rename_i k' hk
   obtain rfl := of_decide_eq_true hB
   obtain ⟨n, rfl, -, hw⟩ := DataW.trod_int hk h
   exact ⟨_, ⟨n, rfl, hw⟩, RelC1.one rfl (.lit _ rfl)⟩
  ·cases hB
 | bool =>
  refine ⟨fun t fuel cs x hB h hb => ?_, fun fs off cs ds hB => by simp [shB] at hB⟩
  unfold shB at hB
  split at hB
  ·rename_i hk
   obtain ⟨n, rfl, -⟩ := DataW.trod_bool hk h
   exact ⟨_, ⟨n, rfl⟩, RelC1.one rfl (.lit _ rfl)⟩
  ·cases hB
 | str =>
  refine ⟨fun t fuel cs x hB h hb => ?_, fun fs off cs ds hB => by simp [shB] at hB⟩
  unfold shB at hB
  split at hB
  ·rename_i hk
   obtain ⟨s, rfl, rfl, hs⟩ := DataW.trod_string hk h
   refine ⟨_, ⟨s, rfl, ?_⟩, RelC1.one rfl (.lit _ rfl)⟩
   rcases hb with hb | hb
   ·omega
   ·simp only [Rows.uptoBulk, Array.length_toList] at hb
    have : s.size = s.data.size := rfl
    omega
  ·cases hB
 | nil =>
  refine ⟨fun t fuel cs x hB => by simp [shB] at hB, fun fs off cs ds hB hl hf hb => ?_⟩
  exact ⟨[], rfl, by simp [Sh.size, RelC1]⟩
 | st r ih =>
  refine ⟨fun t fuel cs x hB h hb => ?_, fun fs off cs ds hB => by simp [shB] at hB⟩
  unfold shB at hB
  split at hB
  ·rename_i fs hk
   simp only [Bool.and_eq_true, decide_eq_true_eq] at hB
   obtain ⟨ys, n, -, rfl, hl, hlen, hg⟩ := DataW.trod_struct hk h
   have hsz : r.size = cs.length := by rw [hl, hB.1]
   obtain ⟨xs, h1, h2⟩ := ih.2 fs.toList 0 cs (ys.map (·.1)) hB.2 (by omega) (fun i f hf => by
    have hi : fs[i]? = some f := by rw [← Array.getElem?_toList]; exact hf
    have hlt : i < ys.length := by rw [hlen]; exact (Array.getElem?_eq_some_iff.1 hi).1
    have := hg i f hi
    rw [gE_ hlt] at this
    exact ⟨n, _, this, by rw [List.getElem?_map, gE_ hlt]; rfl⟩) (by
    rcases hb with hb | hb
    ·exact .inl hb
    ·simp only [Rows.uptoBulk] at hb; exact .inr (by omega))
   refine ⟨xs, h1, ?_⟩
   rw [List.drop_zero, hsz, List.take_length] at h2
   exact h2
  ·cases hB
 | cons a r iha ihr =>
  refine ⟨fun t fuel cs x hB => by simp [shB] at hB, fun fs off cs ds hB hl hf hb => ?_⟩
  cases fs with
  | nil => simp [shB] at hB
  | cons f fs =>
   simp only [shB, Bool.and_eq_true, decide_eq_true_eq] at hB
   obtain ⟨⟨⟨h1, h2⟩, h3⟩, h4⟩ := hB
   simp only [Sh.size] at hl
   obtain ⟨n, y, hy, hd⟩ := hf 0 f rfl
   rw [h1, h2] at hy
   cases ds with
   | nil => simp at hd
   | cons d ds =>
    simp only [List.getElem?_cons_zero, oE_] at hd
    subst hd
    simp only [Rows.uptoBulkAll] at hb
    obtain ⟨xs, k1, k2⟩ := iha.1 f.type n _ y h3 hy (by omega)
    obtain ⟨zs, k3, k4⟩ := ihr.2 fs (off + a.size) cs ds h4 (by omega) (fun i g hg => by
     obtain ⟨n, y, h5, h6⟩ := hf (i + 1) g (by simpa using hg)
     exact ⟨n, y, h5, by simpa using h6⟩) (by omega)
    refine ⟨xs ++ zs, ⟨xs, zs, rfl, k1, k3⟩, ?_⟩
    have e : (cs.drop off).take (a.size + r.size) = (cs.drop off).take a.size ++ (cs.drop (off + a.size)).take r.size := by
     rw [List.take_add, List.drop_drop]
    show RelC1 _ ((cs.drop off).take (a.size + r.size)) _
    rw [e]
    exact k2.append k4
 | sl s ih =>
  refine ⟨fun t fuel cs x hB h hb => ?_, fun fs off cs ds hB => by simp [shB] at hB⟩
  unfold shB at hB
  split at hB
  ·rename_i e hk
   simp only [Bool.and_eq_true, decide_eq_true_eq] at hB
   obtain ⟨⟨hc, hs0⟩, hB⟩ := hB
   rcases Go.Deep.open_slice hk h with ⟨rfl, rfl⟩ | ⟨a, len, cap, m, n, D, Pl, rfl, hba, hl, hm, hmm, rfl, hi⟩
   ·exact ⟨[.sl []], ⟨[], rfl, by simp, by simp⟩, RelC1.one rfl (.sl none 0 0 0 0 0 [] (fun _ _ => undef) rfl (Nat.le_refl _) (by simp) (by simp) (by simp) (by simp) (by simp))⟩
   ·rw [hc] at hi
    have hlm : len ≤ m := by rw [hmm]; split <;> omega
    have hb2 : maxLen ≤ B ∨ Rows.uptoBulkAll ((List.range len).map D) ≤ B := by
     rcases hb with hb | hb
     ·exact .inl hb
     ·simp only [Rows.uptoBulk] at hb; exact .inr (by omega)
    have hch : ∀ i, i < len → ∃ p : List Value × List V, w.cells? base (a.add (i * s.size)) s.size = some p.1 ∧ s.ok B p.2 ∧ RelC1 (wmem w) p.1 p.2 := fun i hil => by
     obtain ⟨cs', h1, h2⟩ := hi i (by omega)
     obtain ⟨xs, h3, h4⟩ := ih.1 e n cs' _ hB h2 (by
      rcases hb2 with hb | hb
      ·exact .inl hb
      ·refine .inr (Nat.le_trans (bulk_mem ?_) hb)
       exact List.mem_map.2 ⟨i, List.mem_range.2 hil, rfl⟩)
     exact ⟨(cs', xs), h1, h3, h4⟩
    obtain ⟨f, hf⟩ := Go.Deep.choose_lt hch
    refine ⟨[.sl ((List.range len).map fun i => (f i).2)], ⟨_, rfl, ?_, ?_⟩, RelC1.one rfl ?_⟩
    ·rw [List.length_map, List.length_range]
     rcases hb2 with hb | hb
     ·omega
     ·have := bulk_len ((List.range len).map D)
      rw [List.length_map, List.length_range] at this
      omega
    ·intro r hr
     obtain ⟨i, hi', rfl⟩ := List.mem_map.1 hr
     exact (hf i (List.mem_range.1 hi')).2.1
    ·by_cases hn : 0 < len
     ·have h00 := World.cells?_some (hf 0 hn).1
      have hl0 : 0 < (f 0).1.length := by rw [h00.2.1]; exact hs0
      have hc0 : w.cell? ((a.add (0 * s.size)).add 0) = some (f 0).1[0] := by rw [h00.2.2 0 hs0]; exact gE_ hl0
      have ha0 : (a.add (0 * s.size)).add 0 = a := by simp [Addr.add]
      rw [ha0] at hc0
      obtain ⟨b, o, sp⟩ := a
      obtain rfl : sp = none := World.cell?_spot hc0
      have key : ∀ i r, ((List.range len).map fun i => (f i).2)[i]? = some r → i < len ∧ r = (f i).2 := by
       intro i r hr
       rw [List.getElem?_map] at hr
       obtain ⟨i', hi', rfl⟩ := oM_ hr
       have hlt : i < len := by
        have := (gS_ hi').1
        simpa using this
       rw [List.getElem?_range hlt] at hi'
       obtain rfl : i = i' := by simpa using hi'
       exact ⟨hlt, rfl⟩
      refine .sl _ _ _ s.size b o _ (fun i j => (f i).1.getD j undef) (by simp) hl (fun r hr => ?_) (fun _ => rfl) (fun i r hr j x hx => ?_) (fun i r hr j x hx => ?_) (fun i r hr j x hx => ?_)
      ·obtain ⟨i, hi', rfl⟩ := List.mem_map.1 hr
       exact Sh.ok_len (hf i (List.mem_range.1 hi')).2.1
      all_goals
       obtain ⟨hlt, rfl⟩ := key i r hr
       obtain ⟨h1, h2, h3⟩ := hf i hlt
      ·have h4 := World.cells?_some h1
       have hj : j < (f i).1.length := by rw [h3.1]; exact (gS_ hx).1
       have h5 := h4.2.2 j (by rw [← h4.2.1]; exact hj)
       rw [Go.Deep.add_add] at h5
       have e1 : (⟨b, o, none⟩ : Addr).add (i * s.size + j) = ⟨b, o + i * s.size + j, none⟩ := by unfold Addr.add; split <;> simp_all <;> omega
       rw [e1] at h5
       show w.cell? _ = some _
       rw [h5, gE_ hj]
       simp [List.getD_eq_getElem?_getD, hj]
      ·exact (h3.2 j x hx).1
      ·exact (h3.2 j x hx).2
     ·obtain rfl : len = 0 := by omega
      exact .sl _ _ _ s.size 0 0 _ (fun _ _ => undef) (by simp) hl (by simp) (fun h => absurd h (by omega)) (by simp) (by simp) (by simp)
  ·cases hB
def Sh.top : Sh → List V → V
 | .st _, xs => .agg xs
 | _, xs => xs.headD .any
theorem arg_of {sh : Sh} {t : TypeId} (hB : shB P sh (.inl t) = true) {r : Reach} {b0 : Nat} {v : Value} (hv : Value.okWide P w r b0 t v) {d : DataW H} {p : List MemPlace} (h : DataW.Trod enc P w base spare held t v d p) (hb : maxLen ≤ B ∨ Rows.uptoBulk d ≤ B) :
  ∃ xs, sh.ok B xs ∧ Rel (wmem w) v (sh.top xs) := by
 obtain ⟨fuel, hf⟩ := h
 obtain ⟨xs, h1, h2⟩ := (sh_trod sh).1 t fuel _ _ hB hf hb
 have one : ∀ {u : Value}, u.cells.toList = [u] → v = u → ∀ x, xs = [x] → Rel (wmem w) v x := by
  intro u hu e x hx
  subst e
  rw [hu, hx] at h2
  have := (h2.2 0 x rfl).2
  simpa using this
 refine ⟨xs, h1, ?_⟩
 cases sh with
 | nil => simp [shB] at hB
 | cons => simp [shB] at hB
 | int k =>
  obtain ⟨n, rfl, -⟩ := h1
  simp only [shB] at hB
  split at hB
  ·rename_i k' hk
   obtain rfl := of_decide_eq_true hB
   obtain ⟨m, rfl⟩ := okWide_int hk hv
   exact one rfl rfl _ rfl
  ·cases hB
 | bool =>
  obtain ⟨n, rfl⟩ := h1
  simp only [shB] at hB
  split at hB
  ·rename_i hk
   obtain ⟨m, rfl⟩ := okWide_bool hk hv
   exact one rfl rfl _ rfl
  ·cases hB
 | str =>
  obtain ⟨n, rfl, -⟩ := h1
  simp only [shB] at hB
  split at hB
  ·rename_i hk
   obtain ⟨m, rfl⟩ := okWide_string hk hv
   exact one rfl rfl _ rfl
  ·cases hB
 | sl s =>
  obtain ⟨n, rfl, -⟩ := h1
  simp only [shB] at hB
  split at hB
  ·rename_i hk
   obtain ⟨a, l, c, rfl⟩ := okWide_slice hk hv
   exact one rfl rfl _ rfl
  ·cases hB
 | st r =>
  simp only [shB] at hB
  split at hB
  ·rename_i hk
   obtain ⟨cs, rfl, -⟩ := okWide_struct hk hv
   have h3 : RelC1 (wmem w) cs.toList xs := h2
   have hg : ∀ i, cs.getD i undef = cs.toList.getD i undef := fun i => by simp [List.getD_eq_getElem?_getD, Array.getD_eq_getD_getElem?]
   refine .agg _ _ (by have := h3.1; simpa using this) (fun i hi => ?_) (fun i x hx => ?_)
   ·rw [hg]; exact (h3.2 i _ (gE_ hi)).1
   ·rw [hg]; exact (h3.2 i x hx).2
  ·cases hB
end
end Go.Proofs.YtgkohnjpnnofhaaGreat.Den
