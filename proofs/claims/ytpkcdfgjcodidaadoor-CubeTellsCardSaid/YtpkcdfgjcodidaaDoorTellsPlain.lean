/- Plain facts that CubeTells, CubesTells lean on. -/
import Derived.Test.YtpkcdfgjcodidaaDoorCubesPlain
import Derived.Test.YtpkcdfgjcodidaaDoorRefCube2
namespace Go.Proofs.YtpkcdfgjcodidaaDoor
open Go.RowKit
set_option linter.unusedSimpArgs false
set_option linter.unusedVariables false

theorem has_bad {m b : Int} (h : cchk m b ≠ 0) (x : Int) : chas m b x = false := by
  unfold chas; rw [decide_eq_false (fun q => h q.1)]
theorem rhdrs_bad {m b : Int} (h : cchk m b ≠ 0) (k : Nat) : rhdrsTo m b k = [] := by
  unfold rhdrsTo
  rw [List.map_eq_nil_iff, List.filter_eq_nil_iff]
  intro n _
  rw [has_bad h]; simp
/-- how many headers below k both have -/
def mcount (x y : Cb) (k : Nat) : Nat := (List.range k).countP fun j => chas x.m x.b (j : Nat) && chas y.m y.b (j : Nat)
theorem mcount_succ (x y : Cb) (k : Nat) : mcount x y (k + 1) = mcount x y k + if (chas x.m x.b (k : Nat) && chas y.m y.b (k : Nat)) = true then 1 else 0 := by
  unfold mcount
  rw [List.range_succ, List.countP_append, List.countP_singleton]
theorem mcount_le (x y : Cb) (k : Nat) : mcount x y k ≤ k := by
  unfold mcount; exact Nat.le_trans List.countP_le_length (by simp)
/-- has one all headers below k that another one has? -/
def mins (i0 : Bool) (x y : Cb) (k : Nat) : Bool := i0 && (List.range k).all fun j => !chas x.m x.b (j : Nat) || chas y.m y.b (j : Nat)
theorem mins_succ (i0 : Bool) (x y : Cb) (k : Nat) : mins i0 x y (k + 1) = (mins i0 x y k && (!chas x.m x.b (k : Nat) || chas y.m y.b (k : Nat))) := by
  unfold mins
  rw [List.range_succ, List.all_append, Bool.and_assoc]
  simp

def mN2 (x y : Nc) : Nc := (x.1 ||| y.1, x.2 ||| y.2)
def inN (x y : Nc) : Bool := ((y.1 &&& (15 ^^^ x.1)) == 0) && ((x.2 &&& y.1) == y.2)
def tellOk (x y : Nc) : Bool :=
  (metN x y == ((List.range 16).any fun h => hasN x h && hasN y h)) && (inN x y == ((List.range 16).all fun h => !hasN x h || hasN y h)) &&
    (!metN x y || (okN (mN2 x y) && (List.range 16).all fun h => hasN (mN2 x y) h == (hasN x h && hasN y h)))
theorem tell_all : ((List.range 256).all fun i => !okN (i / 16, i % 16) || (List.range 256).all fun j => !okN (j / 16, j % 16) || tellOk (i / 16, i % 16) (j / 16, j % 16)) = true := by decide +kernel
theorem tell_ok {a b : Nc} (ha : okN a = true) (hb : okN b = true) : tellOk a b = true := by
  obtain ⟨a1, a2⟩ := okN_lt ha
  obtain ⟨b1, b2⟩ := okN_lt hb
  have e1 := List.all_eq_true.1 tell_all (a.1 * 16 + a.2) (List.mem_range.2 (by omega))
  rw [show ((a.1 * 16 + a.2) / 16, (a.1 * 16 + a.2) % 16) = a from Prod.ext (by simp; omega) (by simp; omega), ha, Bool.not_true, Bool.false_or] at e1
  have e2 := List.all_eq_true.1 e1 (b.1 * 16 + b.2) (List.mem_range.2 (by omega))
  rw [show ((b.1 * 16 + b.2) / 16, (b.1 * 16 + b.2) % 16) = b from Prod.ext (by simp; omega) (by simp; omega), hb, Bool.not_true, Bool.false_or] at e2
  exact e2
theorem cin_cb {x y : Nc} (h : okN x = true) (h2 : okN y = true) : cinside x.cb.m x.cb.b y.cb.m y.cb.b = inN x y := by
  obtain ⟨a1, a2⟩ := okN_lt h
  obtain ⟨b1, b2⟩ := okN_lt h2
  unfold cinside inN
  have e1 : bits .andNot .i64 y.cb.m x.cb.m = ((y.1 &&& (15 ^^^ x.1) : Nat) : Int) := nnot b1 a1
  have e2 : bits .and .i64 x.cb.b y.cb.m = ((x.2 &&& y.1 : Nat) : Int) := nand a2 b1
  rw [e1, e2, Bool.eq_iff_iff, decide_eq_true_eq, Bool.and_eq_true, beq_iff_eq, beq_iff_eq]
  constructor
  · rintro ⟨⟨-, h3⟩, h4⟩; exact ⟨by omega, Int.ofNat_inj.1 h4⟩
  · rintro ⟨h3, h4⟩; exact ⟨⟨⟨cchk_cb h, cchk_cb h2⟩, by omega⟩, by rw [h4]; rfl⟩
theorem any_range {p q : Nat → Bool} (h : ∀ n, n < 16 → p n = q n) : (List.range 16).any p = (List.range 16).any q := by
  rw [Bool.eq_iff_iff, List.any_eq_true, List.any_eq_true]
  constructor <;> (rintro ⟨x, hx, hp⟩; have := h x (List.mem_range.1 hx); exact ⟨x, hx, by simp_all⟩)
theorem all_range {p q : Nat → Bool} (h : ∀ n, n < 16 → p n = q n) : (List.range 16).all p = (List.range 16).all q := by
  rw [Bool.eq_iff_iff, List.all_eq_true, List.all_eq_true]
  constructor <;> (intro hp x hx; have := h x (List.mem_range.1 hx); have := hp x hx; simp_all)
theorem count_pos (x y : Cb) : decide (0 < mcount x y 16) = (List.range 16).any fun j => chas x.m x.b (j : Nat) && chas y.m y.b (j : Nat) := by
  unfold mcount
  rw [Bool.eq_iff_iff, decide_eq_true_eq, List.countP_pos_iff, List.any_eq_true]
theorem tells_met (x y : Cb) : decide (0 < mcount x y 16) = cmet x.m x.b y.m y.b := by
  rw [count_pos]
  by_cases hx : cchk x.m x.b = 0
  · by_cases hy : cchk y.m y.b = 0
    · obtain ⟨n, rfl, hn⟩ := cb_ok hx
      obtain ⟨k, rfl, hk⟩ := cb_ok hy
      have ht := tell_ok hn hk
      unfold tellOk at ht
      simp only [Bool.and_eq_true, beq_iff_eq] at ht
      rw [cmet_cb hn hk, ht.1.1]
      exact any_range fun j hj => by rw [chas_cb hn hj, chas_cb hk hj]
    · have : cmet x.m x.b y.m y.b = false := by unfold cmet; rw [decide_eq_false (fun q => hy q.1.2)]
      rw [this]
      simp [has_bad hy]
  · have : cmet x.m x.b y.m y.b = false := by unfold cmet; rw [decide_eq_false (fun q => hx q.1.1)]
    rw [this]
    simp [has_bad hx]
theorem tells_in (x y : Cb) : mins (decide (0 < (rhdrsTo x.m x.b 16).length) && decide (cchk y.m y.b = 0)) x y 16 = cinside x.m x.b y.m y.b := by
  by_cases hx : cchk x.m x.b = 0
  · by_cases hy : cchk y.m y.b = 0
    · have hpos : 0 < (rhdrsTo x.m x.b 16).length := by
        obtain ⟨n, rfl, hn⟩ := cb_ok hx
        apply List.length_pos_of_mem (a := (n.2 : Int))
        unfold rhdrsTo
        exact List.mem_map.2 ⟨n.2, List.mem_filter.2 ⟨List.mem_range.2 (okN_lt hn).2, by rw [chas_cb hn (okN_lt hn).2]; exact has_own hn⟩, rfl⟩
      obtain ⟨n, rfl, hn⟩ := cb_ok hx
      obtain ⟨k, rfl, hk⟩ := cb_ok hy
      have ht := tell_ok hn hk
      unfold tellOk at ht
      simp only [Bool.and_eq_true, beq_iff_eq] at ht
      unfold mins
      rw [decide_eq_true hpos, decide_eq_true hy, cin_cb hn hk, ht.1.2]
      simp only [Bool.true_and]
      exact all_range fun j hj => by rw [chas_cb hn hj, chas_cb hk hj]
    · have : cinside x.m x.b y.m y.b = false := by unfold cinside; rw [decide_eq_false (fun q => hy q.1.1.2)]
      rw [this]
      unfold mins
      rw [decide_eq_false hy]; simp
  · have : cinside x.m x.b y.m y.b = false := by unfold cinside; rw [decide_eq_false (fun q => hx q.1.1.1)]
    rw [this]
    unfold mins
    rw [rhdrs_bad hx]; simp
theorem tells_both {x y : Cb} (h : cmet x.m x.b y.m y.b = true) (j : Nat) (hj : j < 16) : chas (bits .or .i64 x.m y.m) (bits .or .i64 x.b y.b) (j : Nat) = (chas x.m x.b (j : Nat) && chas y.m y.b (j : Nat)) := by
  obtain ⟨⟨hx, hy⟩, -⟩ := cmet_iff.1 h
  obtain ⟨n, rfl, hn⟩ := cb_ok hx
  obtain ⟨k, rfl, hk⟩ := cb_ok hy
  have ht := tell_ok hn hk
  rw [cmet_cb hn hk] at h
  unfold tellOk at ht
  rw [h] at ht
  simp only [Bool.and_eq_true, beq_iff_eq, Bool.not_true, Bool.false_or] at ht
  obtain ⟨-, h3, h4⟩ := ht
  have h5 := List.all_eq_true.1 h4 j (List.mem_range.2 hj)
  rw [beq_iff_eq] at h5
  have e : (⟨bits .or .i64 n.cb.m k.cb.m, bits .or .i64 n.cb.b k.cb.b⟩ : Cb) = (mN2 n k).cb := by
    show (⟨bits .or .i64 (n.1 : Int) (k.1 : Int), bits .or .i64 (n.2 : Int) (k.2 : Int)⟩ : Cb) = ⟨((n.1 ||| k.1 : Nat) : Int), ((n.2 ||| k.2 : Nat) : Int)⟩
    rw [nor_ (okN_lt hn).1 (okN_lt hk).1, nor_ (okN_lt hn).2 (okN_lt hk).2]
  have e1 := chas_cb h3 hj
  rw [← e] at e1
  rw [chas_cb hn hj, chas_cb hk hj, ← h5]
  exact e1
def onceOk (x : Nc) : Bool := (((List.range 16).filter fun h => hasN x h).length == 2 ^ (4 - (x.1 % 2 + x.1 / 2 % 2 + x.1 / 4 % 2 + x.1 / 8 % 2))) && (((List.range 16).filter fun h => hasN x h).head? == some x.2)
theorem once_all : ((List.range 256).all fun i => !okN (i / 16, i % 16) || onceOk (i / 16, i % 16)) = true := by decide +kernel
theorem once_ok {a : Nc} (ha : okN a = true) : onceOk a = true := by
  obtain ⟨a1, a2⟩ := okN_lt ha
  have e1 := List.all_eq_true.1 once_all (a.1 * 16 + a.2) (List.mem_range.2 (by omega))
  rw [show ((a.1 * 16 + a.2) / 16, (a.1 * 16 + a.2) % 16) = a from Prod.ext (by simp; omega) (by simp; omega), ha, Bool.not_true, Bool.false_or] at e1
  exact e1
theorem rhdrs_cb {n : Nc} (hn : okN n = true) : rhdrsTo n.cb.m n.cb.b 16 = ((List.range 16).filter fun h => hasN n h).map fun (k : Nat) => (k : Int) := by
  unfold rhdrsTo
  congr 1
  apply List.filter_congr
  intro j hj
  exact chas_cb hn (List.mem_range.1 hj)
theorem tells_count (x : Cb) : ccount x.m x.b = ((rhdrsTo x.m x.b 16).length : Int) := by
  by_cases hx : cchk x.m x.b = 0
  · obtain ⟨n, rfl, hn⟩ := cb_ok hx
    have h := once_ok hn
    unfold onceOk at h
    simp only [Bool.and_eq_true, beq_iff_eq] at h
    rw [ccount_ok hx, rhdrs_cb hn, List.length_map, h.1]
    have e : ones n.cb.m = ((n.1 % 2 + n.1 / 2 % 2 + n.1 / 4 % 2 + n.1 / 8 % 2 : Nat) : Int) := by unfold ones Nc.cb; simp
    rw [e]
    have h4 : n.1 % 2 + n.1 / 2 % 2 + n.1 / 4 % 2 + n.1 / 8 % 2 ≤ 4 := by omega
    generalize n.1 % 2 + n.1 / 2 % 2 + n.1 / 4 % 2 + n.1 / 8 % 2 = q at h4
    obtain rfl | rfl | rfl | rfl | rfl : q = 0 ∨ q = 1 ∨ q = 2 ∨ q = 3 ∨ q = 4 := by omega
    all_goals rfl
  · rw [rhdrs_bad hx]
    unfold ccount
    rw [if_neg hx]; rfl
def rfirst (l : List Int) : Int := l.headD 0
theorem tells_first (x : Cb) : cfirst x.m x.b = rfirst (rhdrsTo x.m x.b 16) := by
  by_cases hx : cchk x.m x.b = 0
  · obtain ⟨n, rfl, hn⟩ := cb_ok hx
    have h := once_ok hn
    unfold onceOk at h
    simp only [Bool.and_eq_true, beq_iff_eq] at h
    rw [rhdrs_cb hn]
    unfold cfirst rfirst
    rw [if_pos hx]
    cases hl : (List.range 16).filter fun h => hasN n h with
    | nil => rw [hl] at h; simp at h
    | cons y l => rw [hl] at h; simp at h; simp [h.2]; rfl
  · rw [rhdrs_bad hx]
    unfold cfirst
    rw [if_neg hx]; rfl
end Go.Proofs.YtpkcdfgjcodidaaDoor
