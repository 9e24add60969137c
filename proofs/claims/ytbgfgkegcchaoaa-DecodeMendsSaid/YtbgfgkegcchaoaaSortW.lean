/- What slices.Sort makes of a list of whole numbers. -/
import Derived.Test.YtbgfgkegcchaoaaSortL
import Derived.Test.YtbgfgkegcchaoaaInts
import Derived.Sort.OwnSortedInts
namespace Go.Proofs.Ytbgfgkegcchaoaa
open Go.RowKit Croft Go.Sort

/-- a list of whole numbers, sorted -/
def srt (zs : List Int) : List Int := zs.mergeSort fun x y => decide (x ≤ y)
theorem srt_perm (zs : List Int) : (srt zs).Perm zs := List.mergeSort_perm _ _
theorem srt_length (zs : List Int) : (srt zs).length = zs.length := (srt_perm zs).length_eq
theorem srt_pairwise (zs : List Int) : (srt zs).Pairwise (· ≤ ·) := by
  have h := List.pairwise_mergeSort (le := fun x y : Int => decide (x ≤ y)) (by intro a b c; simp; omega) (by intro a b; simp; omega) zs
  exact h.imp (by intro a b h; simpa using h)
theorem i64s_map (zs : List Int) : i64s zs = zs.map (Value.int .i64) := rfl
theorem sort_any (base : Nat) (v : Value) (zs : List Int) (w : World) (h : OwnInts w base v zs) :
    Calls Try.prog 64 #[v] w fun e w' => e = .returned (.tuple #[]) ∧ OwnInts w' base v (srt zs) ∧ Below base w w' := by
  obtain ⟨h1, h2, h3⟩ := h
  rcases h1.2 with ⟨rfl, h0⟩ | ⟨g, cap, cur, rfl, hb, hg, hn, hc, hs, ht⟩
  · obtain rfl : zs = [] := List.length_eq_zero_iff.1 h0
    refine (Any.slices_Sort_int_none lays189 none 0 w).mono fun e w' hh => ?_
    obtain ⟨rfl, rfl⟩ := hh
    have e : srt [] = [] := by simp [srt]
    rw [e]
    exact ⟨rfl, ⟨h1, h2, h3⟩, Below.refl _ _⟩
  · have hgs : g < w.heap.size := (Array.getElem?_eq_some_iff.1 hg).1
    refine (Any.slices_Sort_int lays189 g 0 cap zs w (holds_of_blockI hg (by rw [← Nat.mul_one zs.length, ht]; rfl)) hgs (by omega)).mono fun e w' hh => ?_
    obtain ⟨rfl, n, os, rfl⟩ := hh
    refine ⟨rfl, ⟨?_, by rw [srt_length]; exact h2, fun z hz => h3 z ((srt_perm zs).mem_iff.1 hz)⟩, ?_⟩
    · have := ownsRow_sortedI (n := n) (os := os) (ss := zs) (ts := srt zs) (srt_length zs) hb hg hn hc hs
      rw [srt_length]
      exact this
    · obtain ⟨q1, q2, q3, q4, q5⟩ := grownBy_sortedI (w := w) (g := g) (n := n) (os := os) (srt zs).toArray
      exact ⟨q1, q2, q3, q4, fun k hk => q5 k (by omega) (by simp; omega)⟩
end Go.Proofs.Ytbgfgkegcchaoaa
