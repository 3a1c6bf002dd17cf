/- Numbers, as they are compared. -/
import Derived.Test.YtedgcbcphlonpaaSNet0
namespace Go.Proofs.Ytedgcbcphlonpaa.Ty
open Go Go.RowKit Go.Proofs.Ytedgcbcphlonpaa.Den
set_option linter.unusedSimpArgs false
set_option linter.unusedVariables false
set_option maxRecDepth 100000

theorem s_cmp (x y : Int) : t_cmp_Compare_int x y = some (if x < y then -1 else if y < x then 1 else 0) := by
  unfold t_cmp_Compare_int t_cmp_isNaN_int
  simp only [Option.bind_some, ne_eq, not_true_eq_false, decide_false, Bool.false_eq_true, if_false]
  by_cases h1 : x < y
  · simp [h1]
  · by_cases h2 : y < x <;> simp [h1, h2]
theorem s_cmpOr (a b c : Int) : t_cmp_Or_int [a, b, c] = some (if a ≠ 0 then a else if b ≠ 0 then b else c) := by
  unfold t_cmp_Or_int
  simp only [join_eq]
  rw [loopI_eq (by have : maxI = 9223372036854775807 := rfl; simp; omega)]
  simp only [goI]
  by_cases h1 : a = 0 <;> by_cases h2 : b = 0 <;> by_cases h3 : c = 0 <;> simp [h1, h2, h3]
end Go.Proofs.Ytedgcbcphlonpaa.Ty
