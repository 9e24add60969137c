/- Circuits that are handed in, read as data. -/
import Derived.Test.YtcdeoccpbdncmaaOpen
import Derived.Test.YtcdeoccpbdncmaaCircW
import Derived.Lib.SmallJoins
namespace Go.Proofs.Ytcdeoccpbdncmaa
open Go.ChangeShapes Go.WideShapes Go.ChangeAt Go.RowKit Go.Deep Go.Joins Croft
section
variable {H : Type} {enc : TypeId × Value → H} {W : World}
theorem cells75 : Try.prog.cellsOf 53 = 4 := by kernel_rfl
theorem bytes75 : Try.prog.bytesOf 53 = 32 := by kernel_rfl
set_option maxRecDepth 100000 in
theorem one_gate {cs : List Value} {fuel : Nat} {x : DataW H × List MemPlace} (hl : cs.length = 4) (h : DataW.trod enc Try.prog W 0 (fun _ => true) true fuel 53 cs = some x) : ∃ g : Gt, cs = genc g ∧ GateOk g := by
  obtain ⟨ys, n, _, _, _, hyl, hf⟩ := DataW.trod_struct Try.underlying53 h
  match cs, hl with
  | [c0, c1, c2, c3], _ =>
    have hyl4 : ys.length = 4 := hyl
    have f0 := hf 0 _ rfl
    have f1 := hf 1 _ rfl
    have f2 := hf 2 _ rfl
    have f3 := hf 3 _ rfl
    match ys, hyl4 with
    | [y0, y1, y2, y3], _ =>
      simp only [List.getElem?_cons_zero, List.getElem?_cons_succ] at f0 f1 f2 f3
      obtain ⟨n0, e0, _, w0⟩ := DataW.trod_int Try.underlying3 f0
      obtain ⟨n1, e1, _, w1⟩ := DataW.trod_int Try.underlying3 f1
      obtain ⟨n2, e2, _, w2⟩ := DataW.trod_int Try.underlying3 f2
      obtain ⟨n3, e3, _, w3⟩ := DataW.trod_int Try.underlying40 f3
      injection e0 with e0
      injection e1 with e1
      injection e2 with e2
      injection e3 with e3
      subst e0 e1 e2 e3
      exact ⟨⟨n0, n1, n2, n3⟩, rfl, I64.of_wf' w0, I64.of_wf' w1, I64.of_wf' w2, U64.of_wf' w3⟩
set_option maxRecDepth 100000 in
theorem open_gates_f {v : Value} {fuel : Nat} {x : DataW H × List MemPlace}
    (hs : ∀ elems spare, x.1 = .slice elems spare → (elems.length + spare.length) * Try.prog.bytesOf 53 ≤ reachBytes)
    (h : DataW.trod enc Try.prog W 0 (fun _ => true) true fuel 22 [v] = some x) (hlt : ∀ q ∈ x.2, q.block < W.heap.size) : ∃ gs, IsGates W v gs := by
  rcases open_slice Try.underlying22 h with ⟨hcs, hx⟩ | ⟨a, len, cap, m, n, D, Pl, hcs, _, hl, hm, hmm, hx, hi⟩
  · injection hcs with hcs
    subst hcs
    exact ⟨[], IsGates.nil _⟩
  · injection hcs with hcs
    subst hcs
    subst hx
    simp only [if_true] at hmm
    subst hmm
    have hreach := hs _ _ rfl
    rw [bytes75] at hreach
    simp only [List.length_map, List.length_range, reachBytes] at hreach
    rw [cells75] at hi
    have each : ∀ i, i < m → ∃ g : Gt, GateOk g ∧ ∀ j, j < 4 → W.cell? (a.add (i * 4 + j)) = (genc g)[j]? := by
      intro i him
      obtain ⟨cs', hc, ht⟩ := hi i him
      obtain ⟨_, hcl, hat⟩ := World.cells?_some hc
      obtain ⟨g, rfl, hg⟩ := one_gate hcl ht
      exact ⟨g, hg, fun j hj => by rw [← Go.Deep.add_add]; exact hat j hj⟩
    haveI : Inhabited Gt := ⟨⟨0, 0, 0, 0⟩⟩
    obtain ⟨S, hS⟩ := choose_lt each
    refine ⟨(List.range len).map S, some a, m, by simp, by simpa using hl, hm, by simp; omega, fun g hg => ?_, ?_⟩
    · obtain ⟨i, hir, rfl⟩ := List.mem_map.1 hg
      exact (hS i (by have := List.mem_range.1 hir; omega)).1
    rcases Nat.eq_zero_or_pos len with h0 | h0
    · subst h0; exact .inl (by simp [gcs])
    · obtain ⟨b, off, spot⟩ := a
      have hsome := (hS 0 (by omega)).2 0 (by omega)
      have hspot : spot = none := by
        have : W.cell? ((⟨b, off, spot⟩ : Addr).add 0) = some (.int .i64 (S 0).kind) := by simpa [genc] using hsome
        simpa [Addr.add] using World.cell?_spot this
      subst hspot
      have hbW : b < W.heap.size := hlt (.cell b off) (List.mem_append.2 (.inl (MemPlace.mem_row.2 ⟨0, by rw [cells75]; omega, by simp⟩)))
      refine .inr ⟨b, off, rfl, hbW, fun j hj => ?_⟩
      rw [gcs_length, List.length_map, List.length_range] at hj
      have hk : j / 4 < len := by omega
      have e : j = j / 4 * 4 + j % 4 := by omega
      have h2 := (hS (j / 4) (by omega)).2 (j % 4) (Nat.mod_lt _ (by omega))
      have h3 := flat_get genc 4 genc_length ((List.range len).map S) (j / 4) (j % 4) (S (j / 4)) (by rw [List.getElem?_map, List.getElem?_range hk]; rfl) (Nat.mod_lt _ (by omega))
      rw [← add_addr, e, h2]
      exact h3.symm
set_option maxRecDepth 100000 in
theorem open_ints_f {v : Value} {fuel : Nat} {x : DataW H × List MemPlace}
    (hs : ∀ elems spare, x.1 = .slice elems spare → (elems.length + spare.length) * Try.prog.bytesOf 3 ≤ reachBytes)
    (hf : DataW.trod enc Try.prog W 0 (fun _ => true) true fuel 23 [v] = some x) (hlt : ∀ q ∈ x.2, q.block < W.heap.size) : ∃ zs, IsInts W v zs := by
  rcases open_ints Try.underlying23 Try.underlying3 cells3 hf with ⟨hcs, hx⟩ | ⟨a, len, cap, zs, hcs, _, hl, hm, hz, hx, hcell, hwz⟩
  · injection hcs with hcs
    subst hcs
    exact ⟨[], IsInts.nil _⟩
  · injection hcs with hcs
    subst hcs
    subst hx
    simp only [if_true] at hz
    have hreach := hs _ _ rfl
    rw [bytes3] at hreach
    simp only [lits, List.length_map, List.length_take, List.length_drop, reachBytes] at hreach
    have hlen : (zs.take len).length = len := by simp; omega
    refine ⟨zs.take len, some a, cap, by rw [hlen], by rw [hlen]; exact hl, hm, by rw [hlen]; omega, fun z hz => I64.of_wf' (hwz z (List.mem_of_mem_take hz)), ?_⟩
    rcases Nat.eq_zero_or_pos len with h0 | h0
    · subst h0; exact .inl (by simp [i64s])
    · obtain ⟨b, off, spot⟩ := a
      have hspot : spot = none := by simpa [Addr.add] using World.cell?_spot (hcell 0 (by omega))
      subst hspot
      have hbW : b < W.heap.size := hlt (.cell b off) (MemPlace.mem_row.2 ⟨0, by omega, by simp⟩)
      refine .inr ⟨b, off, rfl, hbW, fun j hj => ?_⟩
      rw [i64s_length, hlen] at hj
      rw [← add_addr, hcell j (by omega), i64s_get, List.getElem?_take, if_pos hj, List.getElem?_eq_getElem (by omega)]
      simp [List.getD, List.getElem?_eq_getElem (show j < zs.length by omega)]
set_option maxRecDepth 100000 in
theorem open_circuit {base : Nat} {v : Value} {d : DataW H} {p : List MemPlace} (hs : ∀ x ∈ d.weights Try.prog 25, x ≤ reachBytes)
    (hv : Value.okWide Try.prog W .any base 25 v) (h : DataW.Trod enc Try.prog W 0 (fun _ => true) true 25 v d p) (hlt : ∀ x ∈ p, x.block < W.heap.size) : ∃ a : List Gt × List Int, IsCirc W v a.1 a.2 := by
  obtain ⟨v0, v1, y0, y1, n, rfl, rfl, rfl, h0, h1⟩ := open_agg2 Try.underlying25 (by kernel_rfl) (by kernel_rfl) hv h
  obtain ⟨gs, hg⟩ := open_gates_f (fun elems spare he => hs _ (by
    obtain ⟨d0, p0⟩ := y0
    dsimp only at he
    subst he
    simp [DataW.weights, DataW.weightsEach, Try.underlying25, Try.underlying22])) h0 (fun q hq => hlt q (by simp [hq]))
  obtain ⟨os, ho⟩ := open_ints_f (fun elems spare he => hs _ (by
    obtain ⟨d1, p1⟩ := y1
    dsimp only at he
    subst he
    simp [DataW.weights, DataW.weightsEach, Try.underlying25, Try.underlying23])) h1 (fun q hq => hlt q (by simp [hq]))
  exact ⟨(gs, os), v0, v1, rfl, hg, ho⟩
end
end Go.Proofs.Ytcdeoccpbdncmaa
