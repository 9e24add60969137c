/- The document's text of a circuit: what the call returns. -/
import Derived.Test.YtljpangeodgbkaaDoorTextW
import Derived.Test.YtljpangeodgbkaaDoorRefC
import Derived.Deep.CutRange
import Derived.Deep.CutBlock
import Derived.Deep.RegionHeld3
namespace Go.Proofs.YtljpangeodgbkaaDoor
open Go.RowKit Go.Sort Croft

/-- the words lie in the document's table -/
def Verbs (w : World) : Prop := ∀ k : Nat, 1 ≤ k → k ≤ 6 → w.cell? ⟨0, k, none⟩ = some (.string (bs (wordL k)))
theorem Verbs.lt {w : World} (h : Verbs w) : 0 < w.heap.size := by
  have h1 := h 1 (by omega) (by omega)
  rcases Nat.lt_or_ge 0 w.heap.size with k | k
  · exact k
  · simp [World.cell?, Array.getElem?_eq_none k] at h1
theorem Verbs.below {w w' : World} (h : Verbs w) (hb : Below w.heap.size w w') : Verbs w' := fun k h1 h2 => (hb.cell (p := ⟨0, k, none⟩) h.lt).trans (h k h1 h2)
end Go.Proofs.YtljpangeodgbkaaDoor
