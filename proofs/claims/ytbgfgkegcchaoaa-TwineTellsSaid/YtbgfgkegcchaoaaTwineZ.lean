/- The reference's dealing in two variables. -/
import Derived.Test.YtbgfgkegcchaoaaTwineY
import Derived.Outline
namespace Go.Proofs.Ytbgfgkegcchaoaa
open Go.RowKit Croft

def dC (D : List Int) (t : Nat) (x : Int) (j m : Nat) : F := fsum m fun i => toF (D.getD (idx t i j) 0) * toF x ^ i
def dCs (D : List Int) (t : Nat) (x : Int) (m : Nat) : List Int := (List.range m).map fun j => ofF (dC D t x j (t + 1))
theorem dCs_next (D : List Int) (t : Nat) (x : Int) (m : Nat) : dCs D t x (m + 1) = dCs D t x m ++ [ofF (dC D t x m (t + 1))] := by simp [dCs, List.range_succ]
theorem dCs_length (D : List Int) (t : Nat) (x : Int) (m : Nat) : (dCs D t x m).length = m := by simp [dCs]
theorem dCs_full (D : List Int) (t : Nat) (x : Int) : dCs D t x (t + 1) = rowL (dMat D t) x := by
  unfold dCs rowL dMat mat
  rw [List.map_map]
  apply List.map_congr_left
  intro j hj
  rw [List.mem_range] at hj
  simp only [Function.comp]
  congr 1
  rw [peval_sum _ _ (t + 1) (by simp [toFs])]
  unfold dC
  apply fsum_congr
  intro i hi
  congr 1
  rw [co_get (a := toF (D.getD (idx t i j) 0))]
  simp only [toFs, List.getElem?_map, List.getElem?_range hi, Option.map_some, toF_ofF]
  rw [idx_comm]
end Go.Proofs.Ytbgfgkegcchaoaa
