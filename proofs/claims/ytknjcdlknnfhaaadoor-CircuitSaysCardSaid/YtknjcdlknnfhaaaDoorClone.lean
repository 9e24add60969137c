/- A share taken out of a list: what the library's call returns. -/
import Derived.Test.YtknjcdlknnfhaaaDoorShamK
import Derived.Test.YtknjcdlknnfhaaaDoorGrid
import Derived.Test.YtknjcdlknnfhaaaDoorJoin
import Derived.Laws.CopyOwn
import Derived.Maps.AppendAt
import Derived.Deep.RegionLaw
import Derived.Lib.SliceRun
namespace Go.Proofs.YtknjcdlknnfhaaaDoor
open Go.RowKit Croft

theorem splice_cons (xs : List Value) (o : Nat) (u : Value) (us : List Value) (h : o < xs.length) : splice (xs.set o u) (o + 1) us = splice xs o (u :: us) := by
  unfold splice
  have h1 : (xs.set o u).take (o + 1) = xs.take o ++ [u] := by
    rw [List.take_add_one, List.getElem?_set_self h, List.take_set_of_le (Nat.le_refl o)]; rfl
  have h2 : (xs.set o u).drop (o + 1 + us.length) = xs.drop (o + (u :: us).length) := by
    rw [List.drop_set_of_lt (by omega), List.length_cons]
    congr 1
    omega
  rw [h1, h2]; simp
theorem own_setCells {b g n c : Nat} {e : TypeId} {size : Nat} : ∀ (us : List Value) (o : Nat) (w : World) (xs : List Value), w.ownsRow b e size (.slice (some ⟨g, 0, none⟩) n c) n xs → o + us.length ≤ n * size → (w.setCells g o us).ownsRow b e size (.slice (some ⟨g, 0, none⟩) n c) n (splice xs o us)
  | [], o, w, xs, h, _ => by
    have : splice xs o [] = xs := by simp [splice]
    rw [this]; exact h
  | u :: us, o, w, xs, h, hl => by
    rw [List.length_cons] at hl
    rw [← splice_cons xs o u us (by rw [h.1]; omega)]
    exact own_setCells us (o + 1) _ _ (h.stored o u).1 (by omega)
theorem setCells_grown (g : Nat) : ∀ (us : List Value) (o : Nat) (w : World), w.grownBy (w.setCells g o us) (some g)
  | [], _, _ => ⟨rfl, rfl, rfl, Nat.le_refl _, fun _ _ _ => rfl⟩
  | u :: us, o, w => (set_grown w g o u).trans (setCells_grown g us (o + 1) _)
theorem own_shrink {w : World} {b g n m c : Nat} {e : TypeId} {size : Nat} {xs : List Value} (h : w.ownsRow b e size (.slice (some ⟨g, 0, none⟩) n c) n xs) (hm : m ≤ n) : w.ownsRow b e size (.slice (some ⟨g, 0, none⟩) m c) m (xs.take (m * size)) := by
  have hms : m * size ≤ n * size := Nat.mul_le_mul hm (Nat.le_refl _)
  refine ⟨by rw [List.length_take, h.1]; omega, ?_⟩
  rcases h.2 with ⟨hv, _⟩ | ⟨g', cap, cur, hv, hb, hg, hn, hc, hs, ht⟩
  · simp at hv
  · injection hv with h1 h2 h3
    refine .inr ⟨g', cap, cur, by rw [h1, h3], hb, hg, by omega, hc, hs, ?_⟩
    rw [← ht, List.take_take, Nat.min_eq_left hms]
theorem shs_append (a b : List (Int × Int)) : shs (a ++ b) = shs a ++ shs b := by simp [shs]
theorem shs_take (l : List (Int × Int)) (k : Nat) : (shs l).take (k * 2) = shs (l.take k) := by
  induction l generalizing k with
  | nil => simp [shs]
  | cons s l ih =>
    cases k with
    | zero => simp [shs]
    | succ k => rw [shs_cons, show (k + 1) * 2 = k * 2 + 1 + 1 by omega, List.take_succ_cons, List.take_succ_cons, List.take_succ_cons, shs_cons, ih]
theorem shs_drop (l : List (Int × Int)) (k : Nat) : (shs l).drop (k * 2) = shs (l.drop k) := by
  induction l generalizing k with
  | nil => simp [shs]
  | cons s l ih =>
    cases k with
    | zero => simp [shs]
    | succ k => rw [shs_cons, show (k + 1) * 2 = k * 2 + 1 + 1 by omega, List.drop_succ_cons, List.drop_succ_cons, List.drop_succ_cons, ih]
theorem run_clear_share (w : World) (ty : TypeId) (b o c : Nat)
    (hc : ∀ j, j < 2 → (w.cell? ⟨b, o + j, none⟩).isSome = true) (hf : ∀ j, j < 2 → w.frozen? ⟨b, o + j, none⟩ = false) :
    (Builtin.clear_ #[106] ty #[.slice (some ⟨b, o, none⟩) 1 c]).run Tryd.prog w = .ok (.tuple #[]) (w.setCells b o [.int .i64 0, .int .u64 0]) := by
  have hv : ∀ w, (zeroValue 108).run Tryd.prog w = .ok (.agg #[.int .i64 0, .int .u64 0]) w := fun w => by kernel_rfl
  have hzc : (Builtin.zeroCells (Value.agg #[.int .i64 0, .int .u64 0]).cells 1).toList = [.int .i64 0, .int .u64 0] := by kernel_rfl
  have hst := run_storeCells_cells (P := Tryd.prog) b o [.int .i64 0, .int .u64 0] 0 w (by simpa using hc) (by simpa using hf) (by intro v hv'; simp at hv'; rcases hv' with rfl | rfl <;> rfl)
  simp only [Nat.add_zero] at hst
  simp [Builtin.clear_, run_underlying Tryd.underlying106, hv, hzc, hst]
theorem eraseIdx_eq (l : List (Int × Int)) (i : Nat) : l.eraseIdx i = l.take i ++ l.drop (i + 1) := List.eraseIdx_eq_take_drop_succ l i
end Go.Proofs.YtknjcdlknnfhaaaDoor
namespace Go.Proofs.YtknjcdlknnfhaaaDoor
open Go.RowKit Croft

theorem IsShares.cells {w : World} {v : Value} {l : List (Int × Int)} (h : IsShares w v l) : ∀ s ∈ l, I64 s.1 ∧ U64 s.2 := by
  obtain ⟨_, _, _, _, _, _, h5, _⟩ := h
  exact h5
theorem shs_one (l : List (Int × Int)) : ∀ u ∈ shs l, u.oneCell' = true := by
  intro u hu
  unfold shs at hu
  obtain ⟨s, _, hs⟩ := List.mem_flatMap.1 hu
  simp at hs
  rcases hs with rfl | rfl <;> rfl
theorem wpList_join_shares {ops : Array Oper} {rest : List Oper} {o : Oper} {a : Act} {Q : Exit → Act → World → Prop} {w : World} (hgd : o.guard = none) (s x : Operand)
    (ho : o.op = .call { callee := .builtin .append, args := #[s, x], argTypes := #[106, 106] })
    (base : Nat) (v y : Value) (ds : List (Int × Int)) (hs : a.eval s = v) (hown : OwnShares w base v []) (hx : a.eval x = y) (hy : IsShares w y ds) (hp : 0 < ds.length)
    (hb : base ≤ w.heap.size)
    (h : ∀ v' w', OwnShares w' base v' ds → Below base w w' → wpList Tryd.prog ops Q rest (a.put o.dst v') w') : wpList Tryd.prog ops Q (o :: rest) a w := by
  obtain ⟨i0, hi, hz0, hz1, hz2⟩ := info_parts sinfo
  have hcs := hy.cells
  obtain ⟨A, cap, rfl, k1, k2, k3, k4, k5⟩ := hy
  cases A with
  | none =>
    rcases k5 with k5 | ⟨b, o, k5, _⟩
    · have := congrArg List.length k5
      rw [shs_length] at this
      simp at this
      omega
    · cases k5
  | some ad =>
    refine wpList_append_own w hgd s x 106 ho base 108 i0 (.agg #[.int .i64 0, .int .u64 0]) 2 16 Tryd.underlying106 hi hz0 hz1 hz2 rfl (by decide) v 0 (shs []) hs hown.1 ad ds.length cap (shs ds) hx (by rw [shs_length]) ?_ (shs_one ds) ?_ ?_ hb ?_
    · intro j u hu
      rcases k5 with k5 | ⟨b, o, k5, _, hc⟩
      · rw [k5] at hu; simp at hu
      · obtain rfl := Option.some.inj k5
        rw [add_addr, hc j (List.getElem?_eq_some_iff.1 hu).1, hu]
    · unfold maxLen; omega
    · omega
    · intro v' w' h1 h2 _
      refine h v' w' ⟨?_, k3, hcs⟩ ((Below.refl _ _).grown h2 hb (fun k hk => (hown.1.lt k hk).1))
      have e : shs [] ++ shs ds = shs ds := rfl
      rw [e, Nat.zero_add] at h1
      exact h1
theorem OwnShares.under {w w' : World} {B base g n c : Nat} {l : List (Int × Int)} (h : OwnShares w base (.slice (some ⟨g, 0, none⟩) n c) l) (hb : Below B w w') (hg : g < B) : OwnShares w' base (.slice (some ⟨g, 0, none⟩) n c) l := by
  refine ⟨⟨h.1.1, ?_⟩, h.2⟩
  rcases h.1.2 with ⟨hv, _⟩ | ⟨g', cap, cur, hv, h2, h3, h4⟩
  · simp at hv
  · have hgg : g = g' := by injection hv with hv; injection hv with hv; injection hv
    subst hgg
    exact .inr ⟨g, cap, cur, hv, h2, (hb.block g hg).trans h3, h4⟩
theorem OwnShares.kept {w w' : World} {base : Nat} {v : Value} {l : List (Int × Int)} {row : Option Nat} (h : OwnShares w base v l) (hg : w.grownBy w' row) (hne : v.ownBlock = none ∨ v.ownBlock ≠ row) : OwnShares w' base v l := ⟨h.1.kept hg hne, h.2⟩
theorem perm_pick {P L S : List (Int × Int)} {i : Nat} {s : Int × Int} (h : (P ++ L).Perm S) (hi : L[i]? = some s) : ((P ++ [s]) ++ L.eraseIdx i).Perm S := by
  refine List.Perm.trans ?_ h
  rw [List.append_assoc]
  apply List.Perm.append_left
  obtain ⟨hl, hs⟩ := List.getElem?_eq_some_iff.1 hi
  have e : L = L.take i ++ s :: L.drop (i + 1) := by
    rw [← hs, ← List.drop_eq_getElem_cons hl, List.take_append_drop]
  rw [eraseIdx_eq]
  have h2 := (List.perm_middle (a := s) (l₁ := L.take i) (l₂ := L.drop (i + 1))).symm
  rw [← e] at h2
  exact h2
end Go.Proofs.YtknjcdlknnfhaaaDoor
