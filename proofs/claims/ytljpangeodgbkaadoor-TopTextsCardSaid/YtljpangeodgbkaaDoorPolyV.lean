/- Products and sums of polynomials: what each call returns. -/
import Derived.Test.YtljpangeodgbkaaDoorPolyW
namespace Go.Proofs.YtljpangeodgbkaaDoor
open Go.RowKit Croft

theorem fsum_stop (A B : List F) (k i : Nat) (hi : A.length ≤ i) (h : i ≤ k + 1) : fsum i (fun p => co A p * co B (k - p)) = co (pmulS A B) k := by
  rw [co_mulS]
  symm
  exact fsum_more h (fun p hp _ => by rw [co_of_le (l := A) (by omega), F_zm])
theorem fsum_stop' (A B : List F) (k i : Nat) (h : i = k + 1) : fsum i (fun p => co A p * co B (k - p)) = co (pmulS A B) k := by rw [co_mulS, h]
theorem pmulS_take_next (A B : List F) {k : Nat} (hk : k < (pmulS A B).length) : ofFs ((pmulS A B).take (k + 1)) = ofFs ((pmulS A B).take k) ++ [ofF (co (pmulS A B) k)] := by
  rw [List.take_add_one, get_co hk]
  simp [ofFs]
end Go.Proofs.YtljpangeodgbkaaDoor
