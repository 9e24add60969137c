/- A block of the call's own, known whole. -/
import Derived.Test.YtljpangeodgbkaaDoorLists
namespace Go.Proofs.YtljpangeodgbkaaDoor
open Go.RowKit Croft
def Box (w : World) (b : Nat) (t : TypeId) (cs : List Value) : Prop := w.heap[b]? = some (.cells cs.toArray t (0, 0))
theorem Box.new (w : World) (t : TypeId) (cs : List Value) : Box (w.alloc (.cells cs.toArray t)) w.heap.size t cs := heap_alloc_new w _
section
variable {w w' : World} {b : Nat} {t : TypeId} {cs : List Value}
theorem Box.lt (h : Box w b t cs) : b < w.heap.size := (Array.getElem?_eq_some_iff.1 h).1
theorem Box.cell (h : Box w b t cs) {i : Nat} {v : Value} (hi : cs[i]? = some v) : w.cell? ⟨b, i, none⟩ = some v := by
  unfold Box at h
  simp [World.cell?, h, hi]
theorem Box.frozen (h : Box w b t cs) (i : Nat) : w.frozen? ⟨b, i, none⟩ = false := by
  unfold Box at h
  simp [World.frozen?, h]
theorem Box.under {B : Nat} (h : Box w b t cs) (hb : Below B w w') (hB : b < B) : Box w' b t cs := (hb.block b hB).trans h
theorem Box.below (h : Box w b t cs) (hb : Below w.heap.size w w') : Box w' b t cs := h.under hb h.lt
theorem Box.drewN (h : Box w b t cs) (n : Nat) : Box (w.drewN n) b t cs := h
theorem Box.alloc (h : Box w b t cs) (o : Obj) : Box (w.alloc o) b t cs := h.below ((Below.refl _ _).alloc (Nat.le_refl _) o)
theorem Box.set (h : Box w b t cs) (i : Nat) (v : Value) : Box (w.setCell ⟨b, i, none⟩ v) b t (cs.set i v) := by
  obtain ⟨hlt, hk⟩ := Array.getElem?_eq_some_iff.1 h
  show (w.heap.modify b _)[b]? = _
  rw [Array.getElem?_eq_getElem (by rw [Array.size_modify]; exact hlt), Array.getElem_modify_self, hk]
  simp
theorem Box.far (h : Box w b t cs) {g : Nat} (hne : b ≠ g) (i : Nat) (v : Value) : Box (w.setCell ⟨g, i, none⟩ v) b t cs := (Below.heap_setCell w ⟨g, i, none⟩ v b hne).trans h
theorem Box.grown {row : Option Nat} (h : Box w b t cs) (hg : w.grownBy w' row) (hne : row ≠ some b) : Box w' b t cs := (hg.block b h.lt (fun e => hne e.symm)).trans h
end
end Go.Proofs.YtljpangeodgbkaaDoor
