/- A share taken out of a list: what the library's call returns. -/
import Derived.Test.YtbgfgkegcchaoaaShamK
import Derived.Test.YtbgfgkegcchaoaaGrid
import Derived.Test.YtbgfgkegcchaoaaJoin
import Derived.Laws.CopyOwn
import Derived.Maps.AppendAt
import Derived.Deep.RegionLaw
namespace Go.Proofs.Ytbgfgkegcchaoaa
open Go.RowKit Croft

theorem splice_cons (xs : List Value) (o : Nat) (u : Value) (us : List Value) (h : o < xs.length) : splice (xs.set o u) (o + 1) us = splice xs o (u :: us) := by
  unfold splice
  have h1 : (xs.set o u).take (o + 1) = xs.take o ++ [u] := by
    rw [List.take_add_one, List.getElem?_set_self h, List.take_set_of_le (Nat.le_refl o)]; rfl
  have h2 : (xs.set o u).drop (o + 1 + us.length) = xs.drop (o + (u :: us).length) := by
    rw [List.drop_set_of_lt (by omega), List.length_cons]
    congr 1
    omega
  rw [h1, h2]; simp
theorem own_setCells {b g n c : Nat} {e : TypeId} {size : Nat} : ∀ (us : List Value) (o : Nat) (w : World) (xs : List Value), w.ownsRow b e size (.slice (some ⟨g, 0, none⟩) n c) n xs → o + us.length ≤ n * size → (w.setCells g o us).ownsRow b e size (.slice (some ⟨g, 0, none⟩) n c) n (splice xs o us)
  | [], o, w, xs, h, _ => by
    have : splice xs o [] = xs := by simp [splice]
    rw [this]; exact h
  | u :: us, o, w, xs, h, hl => by
    rw [List.length_cons] at hl
    rw [← splice_cons xs o u us (by rw [h.1]; omega)]
    exact own_setCells us (o + 1) _ _ (h.stored o u).1 (by omega)
theorem setCells_grown (g : Nat) : ∀ (us : List Value) (o : Nat) (w : World), w.grownBy (w.setCells g o us) (some g)
  | [], _, _ => ⟨rfl, rfl, rfl, Nat.le_refl _, fun _ _ _ => rfl⟩
  | u :: us, o, w => (set_grown w g o u).trans (setCells_grown g us (o + 1) _)
theorem own_shrink {w : World} {b g n m c : Nat} {e : TypeId} {size : Nat} {xs : List Value} (h : w.ownsRow b e size (.slice (some ⟨g, 0, none⟩) n c) n xs) (hm : m ≤ n) : w.ownsRow b e size (.slice (some ⟨g, 0, none⟩) m c) m (xs.take (m * size)) := by
  have hms : m * size ≤ n * size := Nat.mul_le_mul hm (Nat.le_refl _)
  refine ⟨by rw [List.length_take, h.1]; omega, ?_⟩
  rcases h.2 with ⟨hv, _⟩ | ⟨g', cap, cur, hv, hb, hg, hn, hc, hs, ht⟩
  · simp at hv
  · injection hv with h1 h2 h3
    refine .inr ⟨g', cap, cur, by rw [h1, h3], hb, hg, by omega, hc, hs, ?_⟩
    rw [← ht, List.take_take, Nat.min_eq_left hms]
theorem shs_append (a b : List (Int × Int)) : shs (a ++ b) = shs a ++ shs b := by simp [shs]
theorem shs_take (l : List (Int × Int)) (k : Nat) : (shs l).take (k * 2) = shs (l.take k) := by
  induction l generalizing k with
  | nil => simp [shs]
  | cons s l ih =>
    cases k with
    | zero => simp [shs]
    | succ k => rw [shs_cons, show (k + 1) * 2 = k * 2 + 1 + 1 by omega, List.take_succ_cons, List.take_succ_cons, List.take_succ_cons, shs_cons, ih]
theorem shs_drop (l : List (Int × Int)) (k : Nat) : (shs l).drop (k * 2) = shs (l.drop k) := by
  induction l generalizing k with
  | nil => simp [shs]
  | cons s l ih =>
    cases k with
    | zero => simp [shs]
    | succ k => rw [shs_cons, show (k + 1) * 2 = k * 2 + 1 + 1 by omega, List.drop_succ_cons, List.drop_succ_cons, List.drop_succ_cons, ih]
theorem run_clear_share (w : World) (ty : TypeId) (b o c : Nat)
    (hc : ∀ j, j < 2 → (w.cell? ⟨b, o + j, none⟩).isSome = true) (hf : ∀ j, j < 2 → w.frozen? ⟨b, o + j, none⟩ = false) :
    (Builtin.clear_ #[90] ty #[.slice (some ⟨b, o, none⟩) 1 c]).run Try.prog w = .ok (.tuple #[]) (w.setCells b o [.int .i64 0, .int .u64 0]) := by
  have hv : ∀ w, (zeroValue 94).run Try.prog w = .ok (.agg #[.int .i64 0, .int .u64 0]) w := fun w => by kernel_rfl
  have hzc : (Builtin.zeroCells (Value.agg #[.int .i64 0, .int .u64 0]).cells 1).toList = [.int .i64 0, .int .u64 0] := by kernel_rfl
  have hst := run_storeCells_cells (P := Try.prog) b o [.int .i64 0, .int .u64 0] 0 w (by simpa using hc) (by simpa using hf) (by intro v hv'; simp at hv'; rcases hv' with rfl | rfl <;> rfl)
  simp only [Nat.add_zero] at hst
  simp [Builtin.clear_, run_underlying Try.underlying90, hv, hzc, hst]
theorem eraseIdx_eq (l : List (Int × Int)) (i : Nat) : l.eraseIdx i = l.take i ++ l.drop (i + 1) := List.eraseIdx_eq_take_drop_succ l i
set_option maxRecDepth 1000000 in
set_option maxHeartbeats 4000000 in
theorem sDelete_any (g m c i base : Nat) (l : List (Int × Int)) (w : World) (h : OwnShares w base (.slice (some ⟨g, 0, none⟩) (m + 1) c) l) (hi : i ≤ m) (hm : m ≤ 100) :
    Calls Try.prog 117 #[.slice (some ⟨g, 0, none⟩) (m + 1) c, .int .i64 i, .int .i64 ((i : Int) + 1)] w fun e w' => e = .returned (.slice (some ⟨g, 0, none⟩) m c) ∧ OwnShares w' base (.slice (some ⟨g, 0, none⟩) m c) (l.eraseIdx i) ∧ w.grownBy w' (some g) := by
  obtain ⟨i0, hi0, hz0, hz1, hz2⟩ := info_parts sinfo
  have hl : l.length = m + 1 := h.len.symm
  obtain ⟨A0, c0, hv0, hc0, hcm⟩ := own_form h.1
  injection hv0 with hv1 hv2 hv3
  subst hv3
  clear hv1 hv2
  rw [hl] at hc0
  unfold maxLen at hcm
  have hcells : ∀ j, j < (m + 1) * 2 → w.cell? ⟨g, j, none⟩ = (shs l)[j]? := fun j hj => by
    have h1 := h.1
    rw [hl] at h1
    exact h1.cellAt j hj
  obtain ⟨news, hnews⟩ : ∃ news, news = shs (l.drop (i + 1)) := ⟨_, rfl⟩
  have hnl : news.length = (m - i) * 2 := by rw [hnews, shs_length, List.length_drop, hl]; congr 1; omega
  obtain ⟨A, hA, hsrc⟩ : ∃ A : Addr, (if c = i + 1 then some (⟨g, 0, none⟩ : Addr) else some ⟨g, (i + 1) * 2, none⟩) = some A ∧ Hid (∀ j u, news[j]? = some u → w.drew.cell? (A.add j) = some u) := by
    by_cases hce : c = i + 1
    · refine ⟨⟨g, 0, none⟩, by simp [hce], fun j u hu => ?_⟩
      have := (List.getElem?_eq_some_iff.1 hu).1
      rw [hnl] at this
      omega
    · refine ⟨⟨g, (i + 1) * 2, none⟩, by simp [hce], fun j u hu => ?_⟩
      have hj := (List.getElem?_eq_some_iff.1 hu).1
      rw [hnl] at hj
      rw [add_addr]
      refine (hcells _ (by omega)).trans ?_
      rw [hnews, ← shs_drop, List.getElem?_drop] at hu
      exact hu
  have s1 : Hid (news.length = (m - i) * 2) := hnl
  have s2 : Hid (∀ u ∈ news, u.oneCell' = true) := by
    intro u hu
    rw [hnews] at hu
    unfold shs at hu
    obtain ⟨s, _, hs⟩ := List.mem_flatMap.1 hu
    simp at hs
    rcases hs with rfl | rfl <;> rfl
  have s3 : Hid (∀ j, j < news.length → (w.drew.cell? ⟨g, 0 + i * 2 + j, none⟩).isSome = true ∧ w.drew.frozen? ⟨g, 0 + i * 2 + j, none⟩ = false) := by
    intro j hj
    rw [hnl] at hj
    refine ⟨?_, h.frozen _⟩
    show (w.cell? _).isSome = true
    rw [hcells _ (by omega), List.getElem?_eq_getElem (by rw [shs_length, hl]; omega)]
    rfl
  obtain ⟨W1, hW1⟩ : ∃ W1, W1 = w.drew.setCells g (0 + i * 2) news := ⟨_, rfl⟩
  have hown0 : w.drew.ownsRow base 94 2 (.slice (some ⟨g, 0, none⟩) (m + 1) c) (m + 1) (shs l) := by have h1 := h.1; rw [hl] at h1; exact h1
  have hown1 := own_setCells news (0 + i * 2) _ _ hown0 (by rw [hnl]; omega)
  rw [← hW1] at hown1
  have hg1 : w.grownBy W1 (some g) := by rw [hW1]; exact (show w.grownBy w.drew (some g) from ⟨rfl, rfl, rfl, Nat.le_refl _, fun _ _ _ => rfl⟩).trans (setCells_grown g news (0 + i * 2) w.drew)
  have hcl : ∀ ty, (Builtin.clear_ #[90] ty #[.slice (some ⟨g, m * 2, none⟩) 1 (c - m)]).run Try.prog W1 = .ok (.tuple #[]) (W1.setCells g (m * 2) [.int .i64 0, .int .u64 0]) := fun ty => by
    refine run_clear_share W1 ty g (m * 2) (c - m) (fun j hj => ?_) (fun j _ => hown1.frozenAt _)
    rw [hown1.cellAt _ (by omega), List.getElem?_eq_getElem (by rw [hown1.1]; omega)]
    rfl
  have hown2 := own_shrink (own_setCells [.int .i64 0, .int .u64 0] (m * 2) _ _ hown1 (by simp; omega)) (show m ≤ m + 1 by omega)
  have hfin : OwnShares (W1.setCells g (m * 2) [.int .i64 0, .int .u64 0]) base (.slice (some ⟨g, 0, none⟩) m c) (l.eraseIdx i) := by
    have hel : (l.eraseIdx i).length = m := by rw [List.length_eraseIdx, if_pos (by omega), hl]; omega
    refine ⟨?_, by rw [hel]; omega, fun s hs => h.2.2 s (List.mem_of_mem_eraseIdx hs)⟩
    rw [hel]
    have hx : (splice (splice (shs l) (0 + i * 2) news) (m * 2) [.int .i64 0, .int .u64 0]).take (m * 2) = shs (l.eraseIdx i) := by
      have h1 : (splice (shs l) (0 + i * 2) news) = shs (l.take i) ++ (news ++ (shs l).drop (0 + i * 2 + news.length)) := by
        unfold splice; rw [Nat.zero_add, shs_take]
      rw [h1, eraseIdx_eq, shs_append, ← hnews, ← List.append_assoc]
      have h2 : (shs (l.take i) ++ news).length = m * 2 := by
        rw [List.length_append, shs_length, hnl, List.length_take, hl, Nat.min_eq_left (by omega)]; omega
      unfold splice
      rw [List.take_left' h2, List.take_left' h2]
    rw [← hx]
    exact hown2
  have HFIN := Lib.hid hfin
  have HG := Lib.hid (hg1.trans (setCells_grown g [.int .i64 0, .int .u64 0] (m * 2) W1))
  have hW : Hid (W1 = w.drew.setCells g (0 + i * 2) news) := hW1
  have hwr : IntKind.i64.wrap ((i : Int) + 1) = (i : Int) + 1 := IntWalk.i64_in _ (by omega)
  have hbe : ((i : Int) == (i : Int) + 1) = false := by rw [beq_eq_false_iff_ne]; omega
  have hp2 : ((i : Int) + 1).toNat = i + 1 := by omega
  have hmi : i + (m - i) = m := by omega
  have hcm2 : ¬ c = m := by omega
  have hic : i ≤ c := by omega
  have hic1 : i + 1 ≤ m + 1 := by omega
  have hp0 : (0 : Int) ≤ (i : Int) + 1 := by omega
  clear hW1 hown0 hown1 hown2 hg1 hfin hcells hnews hnl h hl
  go_enter Try.func117, Try.ntmps117
  go_wp2_with fail
  go_region_law (refine step_append_room rfl (.tmp 22) (.tmp 25) 90 rfl 94 i0 2 Try.underlying90 hi0 hz1 g 0 i c (by simp [Act.eval, Act.put]) A (m - i) (c - (i + 1)) news (by simp [Act.eval, Act.put]) s1.out hsrc.out s2.out (by omega) s3.out ?_; rw [← hW.out])
  go_wp2_with fail
  go_ret
  exact ⟨rfl, HFIN.out, HG.out⟩
end Go.Proofs.Ytbgfgkegcchaoaa
