/- A slice that reads as a list, nil let in; each element of k cells. -/
import Derived.Test.YtgkohnjpnnofhaaGreatPlain
import Derived.Laws.AppendOwn
import Derived.Laws.OwnMore
import Derived.Maps.AppendAt
import Derived.OwnWalk
namespace Go.Proofs.YtgkohnjpnnofhaaGreat
open Go.RowKit
def RowC (w : World) (k : Nat) (A : Option Addr) (n c : Nat) (xs : List (List Value)) : Prop :=
 xs.length = n ∧ n ≤ c ∧ (∀ cs ∈ xs, cs.length = k) ∧ (0 < n → ∃ b o, A = some ⟨b, o, none⟩ ∧ b < w.heap.size ∧ ∀ i cs, xs[i]? = some cs → ∀ j u, cs[j]? = some u → w.cell? ⟨b, o + i * k + j, none⟩ = some u)
section
variable {w w' : World} {k n c : Nat} {A : Option Addr} {xs : List (List Value)}
theorem RowC.none_ (w : World) (k : Nat) : RowC w k none 0 0 [] := ⟨rfl, Nat.le_refl _, by simp, fun h => absurd h (by omega)⟩
theorem RowC.below (h : RowC w k A n c xs) (hb : Below w.heap.size w w') : RowC w' k A n c xs :=
 ⟨h.1, h.2.1, h.2.2.1, fun hn => by
  obtain ⟨b, o, e, hlt, hc⟩ := h.2.2.2 hn
  exact ⟨b, o, e, Nat.lt_of_lt_of_le hlt hb.size, fun i cs hi j u hu => (hb.cell (p := ⟨b, o + i * k + j, none⟩) hlt).trans (hc i cs hi j u hu)⟩⟩
theorem RowC.at_ (h : RowC w k A n c xs) {i : Nat} (hi : i < n) : ∃ b o cs, A = some ⟨b, o, none⟩ ∧ b < w.heap.size ∧ xs[i]? = some cs ∧ ∀ j u, cs[j]? = some u → w.cell? ⟨b, o + i * k + j, none⟩ = some u := by
 obtain ⟨b, o, e, hlt, hc⟩ := h.2.2.2 (by omega)
 have hl : i < xs.length := by have := h.1; omega
 exact ⟨b, o, xs[i], e, hlt, gE_ hl, hc i _ (gE_ hl)⟩
end
structure Elem (P : Program) (t e k bytes : Nat) : Prop where
 ht : P.underlying t = some (.slice e)
 hi : ∃ i z, P.info? e = some i ∧ i.zero = some z ∧ i.size = k ∧ i.bytes = bytes ∧ z.cells.size = k
 hk : 0 < k
theorem elem_of {P : Program} {t e k bytes : Nat} {z : Value} (ht : P.underlying t = some (.slice e)) (hi : (P.info? e).map (fun i => (i.zero, i.size, i.bytes)) = some (some z, k, bytes)) (hz : z.cells.size = k) (hk : 0 < k) : Elem P t e k bytes := by
 obtain ⟨i, h1, h2⟩ := oM_ hi
 simp only [Prod.mk.injEq] at h2
 exact ⟨ht, ⟨i, z, h1, h2.1, h2.2.1, h2.2.2, hz⟩, hk⟩
def Owns (w : World) (base e k : Nat) (v : Value) (xs : List (List Value)) : Prop :=
 w.ownsRow base e k v xs.length xs.flatten ∧ (∀ cs ∈ xs, cs.length = k)
theorem flatten_length {k : Nat} : ∀ {xs : List (List Value)}, (∀ cs ∈ xs, cs.length = k) → xs.flatten.length = xs.length * k
 | [], _ => by simp
 | x :: xs, h => by
  rw [List.flatten_cons, List.length_append, h x (by simp), flatten_length (fun cs hcs => h cs (by simp [hcs])), List.length_cons, Nat.add_mul]
  omega
theorem flatten_at {k : Nat} : ∀ {xs : List (List Value)}, (∀ cs ∈ xs, cs.length = k) → ∀ {i : Nat} {cs : List Value}, xs[i]? = some cs → ∀ {j : Nat} {u : Value}, cs[j]? = some u → xs.flatten[i * k + j]? = some u
 | [], _, i, cs, hi, _, _, _ => by simp at hi
 | x :: xs, h, 0, cs, hi, j, u, hj => by
  simp at hi; subst hi
  rw [List.flatten_cons, Nat.zero_mul, Nat.zero_add, List.getElem?_append_left (by exact (gS_ hj).1)]
  exact hj
 | x :: xs, h, i + 1, cs, hi, j, u, hj => by
  have hx := h x (by simp)
  rw [List.flatten_cons, List.getElem?_append_right (by rw [hx, Nat.add_mul]; omega), hx, show (i + 1) * k + j - k = i * k + j by rw [Nat.add_mul]; omega]
  exact flatten_at (fun cs hcs => h cs (by simp [hcs])) (by simpa using hi) hj
section
variable {w w' : World} {base e k : Nat} {v : Value} {xs : List (List Value)}
theorem Owns.nil_ (w : World) (base e k : Nat) : Owns w base e k (.slice none 0 0) [] := ⟨w.ownsRow_nil base e k, by simp⟩
theorem Owns.row (h : Owns w base e k v xs) : ∃ A c, v = .slice A xs.length c ∧ RowC w k A xs.length c xs := by
 obtain ⟨⟨hl, hd⟩, hk⟩ := h
 rcases hd with ⟨rfl, h0⟩ | ⟨g, cap, cur, rfl, hg, hh, hnc, hm, hs, ht⟩
 ·have hx : xs = [] := List.eq_nil_of_length_eq_zero h0
  subst hx
  exact ⟨none, 0, rfl, RowC.none_ w k⟩
 ·refine ⟨_, cap, rfl, rfl, hnc, hk, fun hn => ⟨g, 0, rfl, ?_, fun i cs hi j u hj => ?_⟩⟩
  ·rcases Nat.lt_or_ge g w.heap.size with hlt | hge
   ·exact hlt
   ·rw [Array.getElem?_eq_none hge] at hh; cases hh
  ·have h1 := flatten_at hk hi hj
   rw [← ht] at h1
   have h2 : cur.toList[i * k + j]? = some u := by
    rw [List.getElem?_take] at h1
    split at h1
    ·exact h1
    ·cases h1
   rw [Nat.zero_add]
   simp only [World.cell?, hh]
   simpa using h2
theorem Owns.below (h : Owns w base e k v xs) (hb : Below w.heap.size w w') : Owns w' base e k v xs := by
 obtain ⟨⟨hl, hd⟩, hk⟩ := h
 refine ⟨⟨hl, ?_⟩, hk⟩
 rcases hd with h0 | ⟨g, cap, cur, h1, hg, hh, r⟩
 ·exact .inl h0
 ·refine .inr ⟨g, cap, cur, h1, hg, ?_, r⟩
  rw [hb.block g]
  ·exact hh
  ·rcases Nat.lt_or_ge g w.heap.size with hlt | hge
   ·exact hlt
   ·rw [Array.getElem?_eq_none hge] at hh; cases hh
theorem Owns.mono {base' : Nat} (h : Owns w base e k v xs) (hb : base' ≤ base) : Owns w base' e k v xs := by
 obtain ⟨⟨hl, hd⟩, hk⟩ := h
 refine ⟨⟨hl, ?_⟩, hk⟩
 rcases hd with h0 | ⟨g, cap, cur, h1, hg, hh, r⟩
 ·exact .inl h0
 ·exact .inr ⟨g, cap, cur, h1, by omega, hh, r⟩
theorem Owns.setCell (h : Owns w base e k v xs) {p : Addr} (hp : p.block < base) (u : Value) : Owns (w.setCell p u) base e k v xs := by
 obtain ⟨⟨hl, hd⟩, hk⟩ := h
 refine ⟨⟨hl, ?_⟩, hk⟩
 rcases hd with h0 | ⟨g, cap, cur, h1, hg, hh, r⟩
 ·exact .inl h0
 ·refine .inr ⟨g, cap, cur, h1, hg, ?_, r⟩
  rw [Below.heap_setCell _ _ _ _ (by omega)]
  exact hh
theorem Owns.made {cur : Array Value} {g n : Nat} (hg : g = w.heap.size) (hn : n = xs.length) (hb : base ≤ w.heap.size) (hcur : cur.toList = xs.flatten) (hk : ∀ cs ∈ xs, cs.length = k) (hm : xs.length ≤ maxLen) :
  Owns (w.alloc (.cells cur e)) base e k (.slice (some ⟨g, 0, none⟩) n n) xs := by
 subst hg hn
 have hl := flatten_length hk
 have hs : cur.size = xs.length * k := by rw [← hl, ← hcur]; simp
 refine ⟨⟨hl, .inr ⟨w.heap.size, xs.length, cur, rfl, hb, ?_, Nat.le_refl _, hm, hs, ?_⟩⟩, hk⟩
 ·show (w.heap.push _)[w.heap.size]? = _
  simp
 ·rw [hcur, ← hl, List.take_length]
end
section
variable {P : Program} {w : World}
theorem run_append_nil {base t ty e k bytes : Nat} (el : Elem P t e k bytes) {v : Value} {xs : List (List Value)} (hown : Owns w base e k v xs) (c : Nat) : (Builtin.append_ #[t, t] ty #[v, .slice none 0 c]).run P w = .ok v w := by
 obtain ⟨i, z, hi, hz, hsize, hby, hzs⟩ := el.hi
 rcases hown.1.2 with ⟨rfl, _⟩ | ⟨g, cap, cur, rfl, _, _, hnc, _⟩
 ·simp [Builtin.append_, run_underlying el.ht, sizeOf, typeInfo, hi, Builtin.lenOf, Builtin.firstCells]
 ·simp [Builtin.append_, run_underlying el.ht, sizeOf, typeInfo, hi, Builtin.lenOf, Builtin.firstCells, hnc, storeCells]
theorem run_extend {base t ty e k bytes : Nat} (el : Elem P t e k bytes) {v : Value} {xs : List (List Value)} (hown : Owns w base e k v xs)
  {A : Option Addr} {c : Nat} {ys : List (List Value)} (hy : RowC w k A ys.length c ys) (h1 : ∀ cs ∈ ys, ∀ u ∈ cs, u.oneCell' = true)
  (h63 : xs.length + ys.length ≤ maxLen) (hbytes : (xs.length + ys.length) * bytes ≤ 140737488355328) (hbase : base ≤ w.heap.size) :
  ∃ v' w', (Builtin.append_ #[t, t] ty #[v, .slice A ys.length c]).run P w = .ok v' w' ∧ Owns w' base e k v' (xs ++ ys) ∧ Below base w w' := by
 obtain ⟨i, z, hi, hz, hsize, hby, hzs⟩ := el.hi
 have hkk : ∀ cs ∈ xs ++ ys, cs.length = k := fun cs hcs => (List.mem_append.1 hcs).elim (hown.2 cs) (hy.2.2.1 cs)
 have hrow : ∀ q, v.ownBlock = some q → base ≤ q := fun q hq => (hown.1.lt q hq).1
 rcases Nat.eq_zero_or_pos ys.length with h0 | h0
 ·have hn : ys = [] := List.eq_nil_of_length_eq_zero h0
  subst hn
  rcases A with _ | ad
  ·exact ⟨v, w, run_append_nil el hown c, by simpa using hown, Below.refl _ _⟩
  ·obtain ⟨v', w', hr, h2, h3, _, _⟩ := run_append_own_at (P := P) w base t ty e i z k bytes el.ht hi hz hsize hby hzs el.hk v xs.length xs.flatten hown.1 ad 0 c [] (by simp) (by simp) (by simp) (by simpa using h63) (by simpa using hbytes) hbase
   refine ⟨v', w', hr, ⟨by simpa using h2, hkk⟩, ?_⟩
   exact (Below.refl base w).grown h3 hbase hrow
 ·obtain ⟨b, o, rfl, hlt, hc⟩ := hy.2.2.2 h0
  have hcells : ∀ j u, ys.flatten[j]? = some u → w.cell? ((⟨b, o, none⟩ : Addr).add j) = some u := by
   intro j u hu
   have hjl : j < ys.flatten.length := (gS_ hu).1
   rw [flatten_length hy.2.2.1] at hjl
   have hq : j / k < ys.length := (Nat.div_lt_iff_lt_mul el.hk).2 hjl
   have hcs := gE_ hq
   have hlen := hy.2.2.1 _ (List.getElem_mem hq)
   have hr : j % k < ys[j / k].length := by rw [hlen]; exact Nat.mod_lt _ el.hk
   have he : j / k * k + j % k = j := by rw [Nat.mul_comm]; exact Nat.div_add_mod j k
   have h4 := flatten_at hy.2.2.1 hcs (gE_ hr)
   rw [he, hu] at h4
   have h5 := hc _ _ hcs _ _ (gE_ hr)
   rw [← h4] at h5
   rw [show (⟨b, o, none⟩ : Addr).add j = ⟨b, o + j / k * k + j % k, none⟩ by unfold Addr.add; split <;> simp_all <;> omega]
   exact h5
  obtain ⟨v', w', hr, h2, h3, _, _⟩ := run_append_own_at (P := P) w base t ty e i z k bytes el.ht hi hz hsize hby hzs el.hk v xs.length xs.flatten hown.1 ⟨b, o, none⟩ ys.length c ys.flatten (flatten_length hy.2.2.1) hcells
   (fun u hu => by obtain ⟨cs, hcs, hu⟩ := List.mem_flatten.1 hu; exact h1 cs hcs u hu) h63 hbytes hbase
  refine ⟨v', w', hr, ⟨by simpa [List.length_append, List.flatten_append] using h2, hkk⟩, ?_⟩
  exact (Below.refl base w).grown h3 hbase hrow
theorem wpList_extend {ops : Array Oper} {rest : List Oper} {o : Oper} {a : Act} {Q : Exit → Act → World → Prop} {t e k bytes : Nat} (el : Elem P t e k bytes) (hgd : o.guard = none) (s x : Operand)
  (ho : o.op = .call { callee := .builtin .append, args := #[s, x], argTypes := #[t, t] })
  (base : Nat) (v : Value) (xs : List (List Value)) (hs : a.eval s = v) (hown : Owns w base e k v xs)
  (A : Option Addr) (n c : Nat) (ys : List (List Value)) (hx : a.eval x = .slice A n c) (hy : RowC w k A n c ys) (h1 : ∀ cs ∈ ys, ∀ u ∈ cs, u.oneCell' = true)
  (h63 : xs.length + n ≤ maxLen) (hbytes : (xs.length + n) * bytes ≤ 140737488355328) (hbase : base ≤ w.heap.size)
  (h : ∀ v' w', Owns w' base e k v' (xs ++ ys) → Below base w w' → wpList P ops Q rest (a.put o.dst v') w') : wpList P ops Q (o :: rest) a w := by
 obtain rfl : ys.length = n := hy.1
 refine wpList_plain hgd fun K hK => ?_
 obtain ⟨v', w', hr, h2, h3⟩ := run_extend (ty := o.type) el hown hy h1 h63 hbytes hbase
 unfold Oper.wp execOp
 simp only [ho, resolve, invoke, builtin, Sem.run_bind, Sem.run_pure, Result.andThen_ok, List.map_toArray, List.map_cons, List.map_nil, hs, hx, hr]
 exact hK _ _ (h v' w' h2 h3)
theorem wpList_push {ops : Array Oper} {rest : List Oper} {o : Oper} {a : Act} {Q : Exit → Act → World → Prop} {t e k bytes : Nat} (el : Elem P t e k bytes) (hgd : o.guard = none) (s x : Operand)
  (ho : o.op = .call { callee := .builtin .append, args := #[s, x], argTypes := #[t, t] })
  (base : Nat) (v : Value) (xs : List (List Value)) (hs : a.eval s = v) (hown : Owns w base e k v xs)
  (g : Nat) (cs : List Value) (hx : a.eval x = .slice (some ⟨g, 0, none⟩) 1 1) (hg : g < w.heap.size) (hk : cs.length = k) (hc : ∀ j u, cs[j]? = some u → w.cell? ⟨g, j, none⟩ = some u) (h1 : ∀ u ∈ cs, u.oneCell' = true)
  (h63 : xs.length + 1 ≤ maxLen) (hbytes : (xs.length + 1) * bytes ≤ 140737488355328) (hbase : base ≤ w.heap.size)
  (h : ∀ v' w', Owns w' base e k v' (xs ++ [cs]) → Below base w w' → wpList P ops Q rest (a.put o.dst v') w') : wpList P ops Q (o :: rest) a w :=
 wpList_extend el hgd s x ho base v xs hs hown (some ⟨g, 0, none⟩) 1 1 [cs] hx
  ⟨rfl, Nat.le_refl _, by simpa using hk, fun _ => ⟨g, 0, rfl, hg, fun i cs' hi j u hu => by
   match i, hi with
   | 0, hi =>
    simp at hi; subst hi
    rw [Nat.zero_mul, Nat.add_zero, Nat.zero_add]
    exact hc j u hu⟩⟩
  (by simpa using h1) h63 hbytes hbase h
end
structure Cb where
 m : Int
 b : Int
deriving DecidableEq
instance : Inhabited Cb := ⟨⟨0, 0⟩⟩
def Cb.cells (x : Cb) : List Value := [.int .i64 x.m, .int .i64 x.b]
def Cb.val (x : Cb) : Value := .agg #[.int .i64 x.m, .int .i64 x.b]
def Cubes (w : World) (A : Option Addr) (c : Nat) (l : List Cb) : Prop := RowC w 2 A l.length c (l.map Cb.cells)
theorem Cubes.below {w w' : World} {A : Option Addr} {c : Nat} {l : List Cb} (h : Cubes w A c l) (hb : Below w.heap.size w w') : Cubes w' A c l := RowC.below h hb
theorem Cubes.at_ {w : World} {A : Option Addr} {c : Nat} {l : List Cb} (h : Cubes w A c l) {i : Nat} (hi : i < l.length) : ∃ b o, A = some ⟨b, o, none⟩ ∧ b < w.heap.size ∧
  w.cell? ⟨b, o + i * 2, none⟩ = some (.int .i64 l[i].m) ∧ w.cell? ⟨b, o + i * 2 + 1, none⟩ = some (.int .i64 l[i].b) := by
 obtain ⟨b, o, cs, e, hlt, hx, hc⟩ := RowC.at_ h hi
 rw [List.getElem?_map, gE_ hi] at hx
 simp only [Option.map_some, oE_] at hx
 subst hx
 exact ⟨b, o, e, hlt, hc 0 _ rfl, hc 1 _ rfl⟩
theorem Owns.cubes {w : World} {base e : Nat} {v : Value} {l : List Cb} (h : Owns w base e 2 v (l.map Cb.cells)) : ∃ A c, v = .slice A l.length c ∧ Cubes w A c l := by
 obtain ⟨A, c, rfl, hr⟩ := h.row
 rw [List.length_map] at hr ⊢
 exact ⟨A, c, rfl, hr⟩
def icell (n : Int) : List Value := [.int .i64 n]
def Ints (w : World) (A : Option Addr) (c : Nat) (l : List Int) : Prop := RowC w 1 A l.length c (l.map icell)
theorem Ints.below {w w' : World} {A : Option Addr} {c : Nat} {l : List Int} (h : Ints w A c l) (hb : Below w.heap.size w w') : Ints w' A c l := RowC.below h hb
theorem Ints.at_ {w : World} {A : Option Addr} {c : Nat} {l : List Int} (h : Ints w A c l) {i : Nat} (hi : i < l.length) : ∃ b o, A = some ⟨b, o, none⟩ ∧ b < w.heap.size ∧
  w.cell? ⟨b, o + i, none⟩ = some (.int .i64 l[i]) := by
 obtain ⟨b, o, cs, e, hlt, hx, hc⟩ := RowC.at_ h hi
 rw [List.getElem?_map, gE_ hi] at hx
 simp only [Option.map_some, oE_] at hx
 subst hx
 refine ⟨b, o, e, hlt, ?_⟩
 have := hc 0 _ rfl
 simpa using this
def fidx {α : Type} (p : α → Bool) (l : List α) : Int := match l.findIdx? p with
 | some i => (i : Int)
 | none => -1
theorem fidx_found {α : Type} {p : α → Bool} {l : List α} {k : Nat} (hk : k < l.length) (hp : p l[k] = true) (hn : ∀ j (hj : j < k), p (l[j]'(Nat.lt_trans hj hk)) = false) : fidx p l = k := by
 unfold fidx
 rw [List.findIdx?_eq_some_iff_getElem.2 ⟨hk, hp, fun j hj => by rw [hn j hj]; exact Bool.false_ne_true⟩]
theorem fidx_none {α : Type} {p : α → Bool} {l : List α} (hn : ∀ j (hj : j < l.length), p l[j] = false) : fidx p l = -1 := by
 unfold fidx
 rw [List.findIdx?_eq_none_iff.2 fun x hx => ?_]
 obtain ⟨j, hj, rfl⟩ := List.getElem_of_mem hx
 exact hn j hj
theorem fidx_any {α : Type} (p : α → Bool) (l : List α) : decide (0 ≤ fidx p l) = l.any p := by
 unfold fidx
 cases h : l.findIdx? p with
 | none =>
  have := List.findIdx?_eq_none_iff.1 h
  symm
  simpa using this
 | some i =>
  obtain ⟨hi, hp, -⟩ := List.findIdx?_eq_some_iff_getElem.1 h
  have : l.any p = true := List.any_eq_true.2 ⟨_, List.getElem_mem hi, hp⟩
  rw [this]
  simp
theorem fidx_range {α : Type} (p : α → Bool) (l : List α) : -1 ≤ fidx p l ∧ fidx p l < l.length := by
 unfold fidx
 cases h : l.findIdx? p with
 | none => simp; omega
 | some i =>
  obtain ⟨hi, -, -⟩ := List.findIdx?_eq_some_iff_getElem.1 h
  simp; omega
end Go.Proofs.YtgkohnjpnnofhaaGreat
