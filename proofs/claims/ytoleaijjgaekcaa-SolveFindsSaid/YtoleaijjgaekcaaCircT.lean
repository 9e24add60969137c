/- Circuits: small ones written out, and whether there is a product. -/
import Derived.Test.YtoleaijjgaekcaaCircX
import Derived.Test.YtoleaijjgaekcaaFill
namespace Go.Proofs.Ytoleaijjgaekcaa
open Go.RowKit Croft

theorem flat_cell {w : World} {b : Nat} {t : TypeId} {cs : List Value} (h : Box w b t cs) : Cells w (some ⟨b, 0, none⟩) cs := by
  refine .inr ⟨b, 0, rfl, h.lt, fun j hj => ?_⟩
  rw [Nat.zero_add, List.getElem?_eq_getElem hj]
  exact h.cell (List.getElem?_eq_getElem hj)
theorem lit_gates (w : World) (gs : List Gt) (h : ∀ g ∈ gs, GateOk g) (hl : gs.length ≤ 1000) : IsGates (w.alloc (.cells (gcs gs).toArray 133)) (.slice (some ⟨w.heap.size, 0, none⟩) gs.length gs.length) gs :=
  ⟨_, _, rfl, Nat.le_refl _, by unfold maxLen; omega, by omega, h, flat_cell (Box.new _ _ _)⟩
theorem lit_ints (w : World) (zs : List Int) (h : ∀ z ∈ zs, I64 z) (hl : zs.length ≤ 1000) : IsInts (w.alloc (.cells (i64s zs).toArray 3)) (.slice (some ⟨w.heap.size, 0, none⟩) zs.length zs.length) zs :=
  ⟨_, _, rfl, Nat.le_refl _, by unfold maxLen; omega, by omega, h, flat_cell (Box.new _ _ _)⟩
def mulB (gs : List Gt) : Bool := gs.any fun g => g.kind == 5
def tinyG : List Gt := [⟨1, 1, 0, 0⟩, ⟨1, 2, 0, 0⟩, ⟨5, 0, 1, 0⟩, ⟨2, 0, 0, 7⟩, ⟨3, 2, 3, 0⟩]
theorem gcs_tiny : (gcs tinyG) = [.int .i64 1, .int .i64 1, .int .i64 0, .int .u64 0, .int .i64 1, .int .i64 2, .int .i64 0, .int .u64 0, .int .i64 5, .int .i64 0, .int .i64 1, .int .u64 0, .int .i64 2, .int .i64 0, .int .i64 0, .int .u64 7, .int .i64 3, .int .i64 2, .int .i64 3, .int .u64 0] := rfl
theorem kTiny_any (w : World) : Calls Try.prog 103 #[] w fun e w' => ∃ v, e = .returned v ∧ IsCirc w' v tinyG [4] ∧ Below w.heap.size w w' := by
  have k1 := (lit_gates (w.alloc (.cells #[.slice (some ⟨w.heap.size + 1, 0, none⟩) 5 5, .slice (some ⟨w.heap.size + 1 + 1, 0, none⟩) 1 1] 62)) tinyG (by unfold tinyG GateOk I64 U64; simp) (by simp [tinyG])).below ((Below.refl _ _).alloc (Nat.le_refl _) (.cells #[.int .i64 4] 3))
  have k2 := lit_ints ((w.alloc (.cells #[.slice (some ⟨w.heap.size + 1, 0, none⟩) 5 5, .slice (some ⟨w.heap.size + 1 + 1, 0, none⟩) 1 1] 62)).alloc (.cells (gcs tinyG).toArray 133)) [4] (by unfold I64; simp) (by simp)
  have kb := (((Below.refl w.heap.size w).alloc (Nat.le_refl _) (.cells #[.slice (some ⟨w.heap.size + 1, 0, none⟩) 5 5, .slice (some ⟨w.heap.size + 1 + 1, 0, none⟩) 1 1] 62)).alloc (by simp) (.cells (gcs tinyG).toArray 133)).alloc (by simp; omega) (.cells #[.int .i64 4] 3)
  rw [gcs_tiny, size_alloc] at k1
  rw [gcs_tiny, size_alloc, size_alloc] at k2
  rw [gcs_tiny] at kb
  have K1 := Lib.hid k1
  have K2 := Lib.hid k2
  have KB := Lib.hid kb
  clear k1 k2 kb
  go_enter Try.func103, Try.ntmps103
  go_wp2_with fail
  exact bodyPost_ret (v := .agg #[.slice (some ⟨w.heap.size + 1, 0, none⟩) 5 5, .slice (some ⟨w.heap.size + 1 + 1, 0, none⟩) 1 1]) (by simp [results, Try.results103, go_sem]) rfl ⟨_, rfl, ⟨_, _, rfl, K1.out, K2.out⟩, KB.out⟩
end Go.Proofs.Ytoleaijjgaekcaa
