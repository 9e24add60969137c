/- A share taken out of a list: what the library's call returns. -/
import Derived.Test.YtegmeepogjijiaaShamK
import Derived.Test.YtegmeepogjijiaaGrid
import Derived.Test.YtegmeepogjijiaaJoin
import Derived.Laws.CopyOwn
import Derived.Maps.AppendAt
import Derived.Deep.RegionLaw
namespace Go.Proofs.Ytegmeepogjijiaa
open Go.RowKit Croft

theorem splice_cons (xs : List Value) (o : Nat) (u : Value) (us : List Value) (h : o < xs.length) : splice (xs.set o u) (o + 1) us = splice xs o (u :: us) := by
  unfold splice
  have h1 : (xs.set o u).take (o + 1) = xs.take o ++ [u] := by
    rw [List.take_add_one, List.getElem?_set_self h, List.take_set_of_le (Nat.le_refl o)]; rfl
  have h2 : (xs.set o u).drop (o + 1 + us.length) = xs.drop (o + (u :: us).length) := by
    rw [List.drop_set_of_lt (by omega), List.length_cons]
    congr 1
    omega
  rw [h1, h2]; simp
theorem own_setCells {b g n c : Nat} {e : TypeId} {size : Nat} : ∀ (us : List Value) (o : Nat) (w : World) (xs : List Value), w.ownsRow b e size (.slice (some ⟨g, 0, none⟩) n c) n xs → o + us.length ≤ n * size → (w.setCells g o us).ownsRow b e size (.slice (some ⟨g, 0, none⟩) n c) n (splice xs o us)
  | [], o, w, xs, h, _ => by
    have : splice xs o [] = xs := by simp [splice]
    rw [this]; exact h
  | u :: us, o, w, xs, h, hl => by
    rw [List.length_cons] at hl
    rw [← splice_cons xs o u us (by rw [h.1]; omega)]
    exact own_setCells us (o + 1) _ _ (h.stored o u).1 (by omega)
theorem setCells_grown (g : Nat) : ∀ (us : List Value) (o : Nat) (w : World), w.grownBy (w.setCells g o us) (some g)
  | [], _, _ => ⟨rfl, rfl, rfl, Nat.le_refl _, fun _ _ _ => rfl⟩
  | u :: us, o, w => (set_grown w g o u).trans (setCells_grown g us (o + 1) _)
theorem own_shrink {w : World} {b g n m c : Nat} {e : TypeId} {size : Nat} {xs : List Value} (h : w.ownsRow b e size (.slice (some ⟨g, 0, none⟩) n c) n xs) (hm : m ≤ n) : w.ownsRow b e size (.slice (some ⟨g, 0, none⟩) m c) m (xs.take (m * size)) := by
  have hms : m * size ≤ n * size := Nat.mul_le_mul hm (Nat.le_refl _)
  refine ⟨by rw [List.length_take, h.1]; omega, ?_⟩
  rcases h.2 with ⟨hv, _⟩ | ⟨g', cap, cur, hv, hb, hg, hn, hc, hs, ht⟩
  · simp at hv
  · injection hv with h1 h2 h3
    refine .inr ⟨g', cap, cur, by rw [h1, h3], hb, hg, by omega, hc, hs, ?_⟩
    rw [← ht, List.take_take, Nat.min_eq_left hms]
theorem shs_append (a b : List (Int × Int)) : shs (a ++ b) = shs a ++ shs b := by simp [shs]
theorem shs_take (l : List (Int × Int)) (k : Nat) : (shs l).take (k * 2) = shs (l.take k) := by
  induction l generalizing k with
  | nil => simp [shs]
  | cons s l ih =>
    cases k with
    | zero => simp [shs]
    | succ k => rw [shs_cons, show (k + 1) * 2 = k * 2 + 1 + 1 by omega, List.take_succ_cons, List.take_succ_cons, List.take_succ_cons, shs_cons, ih]
theorem shs_drop (l : List (Int × Int)) (k : Nat) : (shs l).drop (k * 2) = shs (l.drop k) := by
  induction l generalizing k with
  | nil => simp [shs]
  | cons s l ih =>
    cases k with
    | zero => simp [shs]
    | succ k => rw [shs_cons, show (k + 1) * 2 = k * 2 + 1 + 1 by omega, List.drop_succ_cons, List.drop_succ_cons, List.drop_succ_cons, ih]
theorem run_clear_share (w : World) (ty : TypeId) (b o c : Nat)
    (hc : ∀ j, j < 2 → (w.cell? ⟨b, o + j, none⟩).isSome = true) (hf : ∀ j, j < 2 → w.frozen? ⟨b, o + j, none⟩ = false) :
    (Builtin.clear_ #[93] ty #[.slice (some ⟨b, o, none⟩) 1 c]).run Try.prog w = .ok (.tuple #[]) (w.setCells b o [.int .i64 0, .int .u64 0]) := by
  have hv : ∀ w, (zeroValue 95).run Try.prog w = .ok (.agg #[.int .i64 0, .int .u64 0]) w := fun w => by kernel_rfl
  have hzc : (Builtin.zeroCells (Value.agg #[.int .i64 0, .int .u64 0]).cells 1).toList = [.int .i64 0, .int .u64 0] := by kernel_rfl
  have hst := run_storeCells_cells (P := Try.prog) b o [.int .i64 0, .int .u64 0] 0 w (by simpa using hc) (by simpa using hf) (by intro v hv'; simp at hv'; rcases hv' with rfl | rfl <;> rfl)
  simp only [Nat.add_zero] at hst
  simp [Builtin.clear_, run_underlying Try.underlying93, hv, hzc, hst]
theorem eraseIdx_eq (l : List (Int × Int)) (i : Nat) : l.eraseIdx i = l.take i ++ l.drop (i + 1) := List.eraseIdx_eq_take_drop_succ l i
end Go.Proofs.Ytegmeepogjijiaa
