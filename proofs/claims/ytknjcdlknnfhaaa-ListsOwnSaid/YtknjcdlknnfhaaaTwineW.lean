/- Dealings in two variables: what the helpers return. -/
import Derived.Test.YtknjcdlknnfhaaaGrid
import Derived.Test.YtknjcdlknnfhaaaThroughW
import Derived.Test.YtknjcdlknnfhaaaInts
namespace Go.Proofs.Ytknjcdlknnfhaaa
open Go.RowKit Croft

def needN (t : Int) : Int := if t = 0 then 0 else if t = 1 then 2 else if t = 2 then 5 else if t = 3 then 9 else 14
theorem five {t : Int} (h : 0 ≤ t ∧ t ≤ 4) : t = 0 ∨ t = 1 ∨ t = 2 ∨ t = 3 ∨ t = 4 := by omega
def tri (t : Int) : Nat → Int
  | 0 => -1
  | k + 1 => tri t k + (t - k + 1)
theorem tri_bound {t : Int} (h : 0 ≤ t ∧ t ≤ 4) (k : Nat) (hk : (k : Int) ≤ t + 1) : -1 ≤ tri t k ∧ tri t k ≤ 5 * k := by
  induction k with
  | zero => simp [tri]
  | succ k ih =>
    have := ih (by omega)
    simp only [tri]
    omega
theorem tri_end {t : Int} (h : 0 ≤ t ∧ t ≤ 4) {k : Nat} (hk : (k : Int) = t + 1) : tri t k = needN t := by
  rcases five h with rfl | rfl | rfl | rfl | rfl
  · obtain rfl : k = 1 := by omega
    decide
  · obtain rfl : k = 2 := by omega
    decide
  · obtain rfl : k = 3 := by omega
    decide
  · obtain rfl : k = 4 := by omega
    decide
  · obtain rfl : k = 5 := by omega
    decide
end Go.Proofs.Ytknjcdlknnfhaaa
