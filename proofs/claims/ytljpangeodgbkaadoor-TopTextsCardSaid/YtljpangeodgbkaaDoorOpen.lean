/- What is handed in, read as data, as lists of numbers. -/
import Derived.Test.YtljpangeodgbkaaDoorLists
import Derived.ProofKit
import Derived.OpenShut
import Derived.SizedLaws
import Derived.Test.YtljpangeodgbkaaDoorShares
import Derived.Deep.SlicePairs
import Derived.Test.YtljpangeodgbkaaDoorInts
namespace Go.Proofs.YtljpangeodgbkaaDoor
open Go.ChangeShapes Go.WideShapes Go.ChangeAt Go.RowKit Croft
theorem cells25 : Tryd.prog.cellsOf 46 = 1 := by kernel_rfl
theorem bytes25 : Tryd.prog.bytesOf 46 = 8 := by kernel_rfl
theorem U64.of_wf' {a : Int} (h : (Lit.int .u64 a).wf = true) : U64 a := by
  have h1 : IntKind.u64.min = 0 := rfl
  have h2 : IntKind.u64.max = 18446744073709551615 := rfl
  simp only [Lit.wf, Bool.and_eq_true, decide_eq_true_eq] at h
  unfold U64
  omega
set_option maxRecDepth 100000 in
theorem open_nums {H : Type} {enc : TypeId × Value → H} {W : World} {base : Nat} {v : Value} {d : DataW H} {p : List MemPlace}
    (hs : ∀ elems spare, d = .slice elems spare → (elems.length + spare.length) * Tryd.prog.bytesOf 46 ≤ reachBytes)
    (hv : Value.okWide Tryd.prog W .any base 35 v) (h : DataW.Trod enc Tryd.prog W 0 (fun _ => true) true 35 v d p) (hlt : ∀ x ∈ p, x.block < W.heap.size) : ∃ zs, IsNums W v zs := by
  obtain ⟨a0, len, cap, rfl⟩ := okWide_slice Tryd.underlying35 hv
  obtain ⟨fuel, hf⟩ := h
  rcases open_ints Tryd.underlying35 Tryd.underlying46 cells25 hf with ⟨hcs, hx⟩ | ⟨a, len', cap', zs, hcs, _, hl, hm, hz, hx, hcell, hwz⟩
  · simp [Value.cells] at hcs
    obtain ⟨rfl, rfl, rfl⟩ := hcs
    exact ⟨[], IsNums.nil _⟩
  · simp [Value.cells] at hcs
    obtain ⟨rfl, rfl, rfl⟩ := hcs
    simp only [Prod.mk.injEq] at hx
    obtain ⟨rfl, rfl⟩ := hx
    simp only [if_true] at hz
    have hreach := hs _ _ rfl
    rw [bytes25] at hreach
    simp only [lits, List.length_map, List.length_take, List.length_drop, reachBytes] at hreach
    have hlen : (zs.take len).length = len := by simp; omega
    refine ⟨zs.take len, some a, cap, by rw [hlen], by rw [hlen]; exact hl, hm, by rw [hlen]; omega, fun z hz => U64.of_wf' (hwz z (List.mem_of_mem_take hz)), ?_⟩
    rcases Nat.eq_zero_or_pos len with h0 | h0
    · subst h0; exact .inl (by simp [u64s])
    · obtain ⟨b, off, spot⟩ := a
      have hspot : spot = none := by simpa [Addr.add] using World.cell?_spot (hcell 0 (by omega))
      subst hspot
      have hbW : b < W.heap.size := hlt (.cell b off) (MemPlace.mem_row.2 ⟨0, by omega, by simp⟩)
      refine .inr ⟨b, off, rfl, hbW, fun j hj => ?_⟩
      rw [u64s_length, hlen] at hj
      rw [← add_addr, hcell j (by omega), u64s_get, List.getElem?_take, if_pos hj, List.getElem?_eq_getElem (by omega)]
      simp [List.getD, List.getElem?_eq_getElem (show j < zs.length by omega)]
end Go.Proofs.YtljpangeodgbkaaDoor
namespace Go.Proofs.YtljpangeodgbkaaDoor
open Go.ChangeShapes Go.WideShapes Go.ChangeAt Go.RowKit Go.Deep Croft
theorem cells63 : Tryd.prog.cellsOf 98 = 2 := by kernel_rfl
theorem bytes63 : Tryd.prog.bytesOf 98 = 16 := by kernel_rfl
theorem cells3 : Tryd.prog.cellsOf 3 = 1 := by kernel_rfl
theorem I64.of_wf' {a : Int} (h : (Lit.int .i64 a).wf = true) : I64 a := by
  have h1 : IntKind.i64.min = -9223372036854775808 := rfl
  have h2 : IntKind.i64.max = 9223372036854775807 := rfl
  simp only [Lit.wf, Bool.and_eq_true, decide_eq_true_eq] at h
  unfold I64
  omega
theorem shs_cells {w : World} {b off : Nat} {l : List (Int × Int)} (hc : ∀ i s, l[i]? = some s → w.cell? ⟨b, off + i * 2, none⟩ = some (.int .i64 s.1) ∧ w.cell? ⟨b, off + i * 2 + 1, none⟩ = some (.int .u64 s.2)) :
    ∀ j, j < (shs l).length → w.cell? ⟨b, off + j, none⟩ = (shs l)[j]? := by
  intro j hj
  rw [shs_length] at hj
  have hg : l[j / 2]? = some l[j / 2] := List.getElem?_eq_getElem (by omega)
  obtain ⟨g1, g2⟩ := shs_get l _ _ hg
  obtain ⟨c1, c2⟩ := hc _ _ hg
  rcases Nat.mod_two_eq_zero_or_one j with h | h
  · have e : j = j / 2 * 2 := by omega
    rw [← e] at g1 c1
    rw [c1, g1]
  · have e : j = j / 2 * 2 + 1 := by omega
    rw [Nat.add_assoc] at c2
    rw [← e] at g2 c2
    rw [c2, g2]
set_option maxRecDepth 100000 in
theorem open_shares {H : Type} {enc : TypeId × Value → H} {W : World} {base : Nat} {v : Value} {d : DataW H} {p : List MemPlace}
    (hs : ∀ elems spare, d = .slice elems spare → (elems.length + spare.length) * Tryd.prog.bytesOf 98 ≤ reachBytes)
    (hv : Value.okWide Tryd.prog W .any base 96 v) (h : DataW.Trod enc Tryd.prog W 0 (fun _ => true) true 96 v d p) (hlt : ∀ x ∈ p, x.block < W.heap.size) : ∃ l, IsShares W v l := by
  obtain ⟨a0, len, cap, rfl⟩ := okWide_slice Tryd.underlying96 hv
  obtain ⟨fuel, hf⟩ := h
  rcases open_slice_pairs Tryd.underlying96 Tryd.underlying98 cells63 rfl rfl cells3 cells25 hf with ⟨hcs, hx⟩ | ⟨a, len', cap', m, n, V0, V1, D0, D1, P0, P1, hcs, _, hl, hm, hmm, hx, hi⟩
  · simp [Value.cells] at hcs
    obtain ⟨rfl, rfl, rfl⟩ := hcs
    exact ⟨[], none, 0, rfl, Nat.le_refl _, by simp [maxLen], by simp, by simp, .inl rfl⟩
  · simp [Value.cells] at hcs
    obtain ⟨rfl, rfl, rfl⟩ := hcs
    simp only [Prod.mk.injEq] at hx
    obtain ⟨rfl, rfl⟩ := hx
    simp only [if_true] at hmm
    subst hmm
    have hreach := hs _ _ rfl
    rw [bytes63] at hreach
    simp only [List.length_map, List.length_range, reachBytes] at hreach
    have each : ∀ i, i < len → ∃ s : Int × Int, V0 i = .int .i64 s.1 ∧ V1 i = .int .u64 s.2 ∧ I64 s.1 ∧ U64 s.2 := by
      intro i hil
      obtain ⟨_, _, t0, t1⟩ := hi i (by omega)
      obtain ⟨n0, e0, _, w0⟩ := DataW.trod_int Tryd.underlying3 t0
      obtain ⟨n1, e1, _, w1⟩ := DataW.trod_int Tryd.underlying46 t1
      injection e0 with e0
      injection e1 with e1
      exact ⟨(n0, n1), e0, e1, I64.of_wf' w0, U64.of_wf' w1⟩
    obtain ⟨S, hS⟩ := choose_lt each
    refine ⟨(List.range len).map S, some a, m, by simp, by simpa using hl, hm, by simp; omega, fun s hs => ?_, ?_⟩
    · obtain ⟨i, hir, rfl⟩ := List.mem_map.1 hs
      exact ⟨(hS i (List.mem_range.1 hir)).2.2.1, (hS i (List.mem_range.1 hir)).2.2.2⟩
    rcases Nat.eq_zero_or_pos len with h0 | h0
    · subst h0; exact .inl (by simp [shs])
    · obtain ⟨b, off, spot⟩ := a
      have hspot : spot = none := by simpa [Addr.add] using World.cell?_spot (hi 0 (by omega)).1
      subst hspot
      have hbW : b < W.heap.size := hlt (.cell b off) (List.mem_append.2 (.inl (MemPlace.mem_row.2 ⟨0, by omega, by simp⟩)))
      refine .inr ⟨b, off, rfl, hbW, shs_cells fun i s hg => ?_⟩
      have hil : i < len := by have := (List.getElem?_eq_some_iff.1 hg).1; simpa using this
      have hse : S i = s := by rw [List.getElem?_map, List.getElem?_range hil] at hg; simpa using hg
      subst hse
      obtain ⟨e0, e1, _⟩ := hi i (by omega)
      obtain ⟨s0, s1, _⟩ := hS i hil
      rw [add_addr] at e0 e1
      rw [e0, ← s0, Nat.add_assoc, e1, ← s1]
      exact ⟨rfl, rfl⟩
end Go.Proofs.YtljpangeodgbkaaDoor
namespace Go.Proofs.YtljpangeodgbkaaDoor
open Go.ChangeShapes Go.WideShapes Go.ChangeAt Go.RowKit Croft
theorem bytes3 : Tryd.prog.bytesOf 3 = 8 := by kernel_rfl
set_option maxRecDepth 100000 in
theorem open_intl {H : Type} {enc : TypeId × Value → H} {W : World} {base : Nat} {v : Value} {d : DataW H} {p : List MemPlace}
    (hs : ∀ elems spare, d = .slice elems spare → (elems.length + spare.length) * Tryd.prog.bytesOf 3 ≤ reachBytes)
    (hv : Value.okWide Tryd.prog W .any base 23 v) (h : DataW.Trod enc Tryd.prog W 0 (fun _ => true) true 23 v d p) (hlt : ∀ x ∈ p, x.block < W.heap.size) : ∃ zs, IsInts W v zs := by
  obtain ⟨a0, len, cap, rfl⟩ := okWide_slice Tryd.underlying23 hv
  obtain ⟨fuel, hf⟩ := h
  rcases open_ints Tryd.underlying23 Tryd.underlying3 cells3 hf with ⟨hcs, hx⟩ | ⟨a, len', cap', zs, hcs, _, hl, hm, hz, hx, hcell, hwz⟩
  · simp [Value.cells] at hcs
    obtain ⟨rfl, rfl, rfl⟩ := hcs
    exact ⟨[], IsInts.nil _⟩
  · simp [Value.cells] at hcs
    obtain ⟨rfl, rfl, rfl⟩ := hcs
    simp only [Prod.mk.injEq] at hx
    obtain ⟨rfl, rfl⟩ := hx
    simp only [if_true] at hz
    have hreach := hs _ _ rfl
    rw [bytes3] at hreach
    simp only [lits, List.length_map, List.length_take, List.length_drop, reachBytes] at hreach
    have hlen : (zs.take len).length = len := by simp; omega
    refine ⟨zs.take len, some a, cap, by rw [hlen], by rw [hlen]; exact hl, hm, by rw [hlen]; omega, fun z hz => I64.of_wf' (hwz z (List.mem_of_mem_take hz)), ?_⟩
    rcases Nat.eq_zero_or_pos len with h0 | h0
    · subst h0; exact .inl (by simp [i64s])
    · obtain ⟨b, off, spot⟩ := a
      have hspot : spot = none := by simpa [Addr.add] using World.cell?_spot (hcell 0 (by omega))
      subst hspot
      have hbW : b < W.heap.size := hlt (.cell b off) (MemPlace.mem_row.2 ⟨0, by omega, by simp⟩)
      refine .inr ⟨b, off, rfl, hbW, fun j hj => ?_⟩
      rw [i64s_length, hlen] at hj
      rw [← add_addr, hcell j (by omega), i64s_get, List.getElem?_take, if_pos hj, List.getElem?_eq_getElem (by omega)]
      simp [List.getD, List.getElem?_eq_getElem (show j < zs.length by omega)]
end Go.Proofs.YtljpangeodgbkaaDoor
