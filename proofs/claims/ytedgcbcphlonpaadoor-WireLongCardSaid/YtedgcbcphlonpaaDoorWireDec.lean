/- Messages out of bytes, in plain Lean. -/
import Derived.Test.YtedgcbcphlonpaaDoorWirePlain
import Derived.Test.YtedgcbcphlonpaaDoorDenLib
namespace Go.Proofs.YtedgcbcphlonpaaDoor
open Go.RowKit Go.Proofs.YtedgcbcphlonpaaDoor.Den
set_option linter.unusedSimpArgs false
set_option linter.unusedVariables false

def wsize (k : Int) : Int := if k = 1 then 12 else if k = 2 ∨ k = 3 then 5 else 0
theorem wsize_range (k : Int) : wsize k = 0 ∨ wsize k = 5 ∨ wsize k = 12 := by unfold wsize; (repeat' split) <;> simp
/-- the message that bytes may be -/
def mOf (s : ByteArray) : Mg := ⟨bAt s 0, bAt s 1, bAt s 2, bAt s 3, if bAt s 0 = 1 then ⟨bAt s 1, decide (bAt s 4 = 1), ⟨bAt s 5, bAt s 6, bAt s 7, bAt s 8, bAt s 9, bAt s 10⟩⟩ else op0⟩
def wdec (s : ByteArray) : Option Mg := if s.size = 0 ∨ (s.size : Int) ≠ wsize (bAt s 0) then none else if (mOf s).chk = 0 ∧ (mOf s).text = s then some (mOf s) else none
theorem ext_size (s : ByteArray) (a b : Nat) (h : a ≤ b) (hb : b ≤ s.size) : (s.extract a b).size = b - a := by
  rw [ByteArray.size_extract]; omega
/-- bytes cut into messages: these, what is left; none: they are none -/
def wcut (s : ByteArray) : Option (List Mg × ByteArray) :=
  if h0 : s.size = 0 then some ([], s)
  else if hn : wsize (bAt s 0) = 0 then none
  else if hl : (s.size : Int) < wsize (bAt s 0) then some ([], s)
  else match wdec (s.extract 0 (wsize (bAt s 0)).toNat) with
    | none => none
    | some m => (wcut (s.extract (wsize (bAt s 0)).toNat s.size)).map fun p => (m :: p.1, p.2)
  termination_by s.size
  decreasing_by
    rw [ext_size _ _ _ (by omega) (Nat.le_refl _)]
    have := wsize_range (bAt s 0)
    omega

/-- the numbers of a message that is right are bytes -/
theorem Mg.nums_range {x : Mg} (h : x.chk = 0) : ∀ z ∈ x.nums, 0 ≤ z ∧ z ≤ 200 := by
  have key : 1 ≤ x.k ∧ x.k ≤ 3 ∧ 1 ≤ x.s ∧ x.s ≤ 6 ∧ 0 ≤ x.r ∧ x.r < 20 ∧ 0 ≤ x.i ∧ x.i ≤ 200 ∧ (x.k = 1 → x.o.r.chk = 0 ∧ x.o.s = x.s) := by
    unfold Mg.chk at h
    split at h
    · omega
    · rename_i h1
      refine ⟨by omega, by omega, by omega, by omega, by omega, by omega, by omega, by omega, fun hk => ?_⟩
      rw [if_neg (by simpa using hk)] at h
      split at h
      · rename_i h2; exact absurd h h2
      · rename_i h2
        split at h
        · omega
        · rename_i h3
          exact ⟨by simpa using h2, by simpa using h3⟩
  obtain ⟨k1, k2, k3, k4, k5, k6, k7, k8, k9⟩ := key
  intro z hz
  unfold Mg.nums at hz
  split at hz
  · rename_i hk
    obtain ⟨hr, _⟩ := k9 hk
    unfold Rl.chk at hr
    obtain ⟨⟨r1, r2, r3, r4, ⟨r5, r6⟩, r7, r8⟩, hc, _⟩ := rchk_0.1 hr
    have hm : 0 ≤ x.o.r.m ∧ x.o.r.m < 16 ∧ 0 ≤ x.o.r.b ∧ x.o.r.b < 16 := by
      unfold cchk at hc
      split at hc
      · assumption
      · omega
    unfold Mg.more at hz
    simp only [List.cons_append, List.nil_append, List.mem_cons, List.mem_nil_iff, or_false] at hz
    rcases hz with rfl | rfl | rfl | rfl | rfl | rfl | rfl | rfl | rfl | rfl | rfl
    · omega
    · omega
    · omega
    · omega
    · split <;> omega
    all_goals omega
  · simp only [List.mem_cons, List.mem_nil_iff, or_false] at hz
    rcases hz with rfl | rfl | rfl | rfl <;> omega
theorem sum_range (xs : List Int) (b : Int) (hb : 0 ≤ b) (h : ∀ z ∈ xs, 0 ≤ z ∧ z ≤ b) : 0 ≤ xs.sum ∧ xs.sum ≤ b * xs.length := by
  induction xs with
  | nil => simp
  | cons x xs ih =>
    have h1 := h x (by simp)
    have h2 := ih (fun z hz => h z (by simp [hz]))
    rw [List.sum_cons, List.length_cons]
    have : b * ((xs.length + 1 : Nat) : Int) = b * xs.length + b := by push_cast; rw [Int.mul_add]; simp
    rw [this]
    omega
end Go.Proofs.YtedgcbcphlonpaaDoor
