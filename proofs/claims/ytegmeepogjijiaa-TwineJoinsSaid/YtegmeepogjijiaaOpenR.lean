/- Rows that are handed in, opened. -/
import Derived.Test.YtegmeepogjijiaaOpen
import Derived.Lib.SmallJoins
import Derived.Test.YtegmeepogjijiaaRowsW
import Derived.Test.YtegmeepogjijiaaGates
namespace Go.Proofs.Ytegmeepogjijiaa
open Go.ChangeShapes Go.WideShapes Go.ChangeAt Go.RowKit Go.Deep Go.Joins Croft
def renc (q : (Int × List Int) × Value) : List Value := [.int .i64 q.1.1, q.2]
theorem renc_length (q : (Int × List Int) × Value) : (renc q).length = 2 := rfl
def RowOk (w : World) (q : (Int × List Int) × Value) : Prop := I64 q.1.1 ∧ IsNums w q.2 q.1.2
theorem rcs_enc (L : List ((Int × List Int) × Value)) : rcs ((L.map (·.1)).map (·.1)) (L.map (·.2)) = L.flatMap renc := by
  induction L with
  | nil => rfl
  | cons q L ih =>
    have : rcs ((q :: L).map (·.1) |>.map (·.1)) ((q :: L).map (·.2)) = renc q ++ rcs ((L.map (·.1)).map (·.1)) (L.map (·.2)) := by simp [rcs, renc]
    rw [this, ih]
    rfl
section
variable {H : Type} {enc : TypeId × Value → H} {W : World}
theorem weightsAll_memR {P : Program} {e : TypeId} {l : List (DataW H)} {d : DataW H} {x : Nat} (hd : d ∈ l) (hx : x ∈ d.weights P e) : x ∈ DataW.weightsAll P e l := by
  induction l with
  | nil => cases hd
  | cons a l ih =>
    rw [DataW.weightsAll, List.mem_append]
    rcases List.mem_cons.1 hd with rfl | h
    · exact .inl hx
    · exact .inr (ih h)
set_option maxRecDepth 100000 in
theorem open_nums_fR {v : Value} {fuel : Nat} {x : DataW H × List MemPlace}
    (hs : ∀ elems spare, x.1 = .slice elems spare → (elems.length + spare.length) * Try.prog.bytesOf 23 ≤ reachBytes)
    (hf : DataW.trod enc Try.prog W 0 (fun _ => true) true fuel 22 [v] = some x) (hlt : ∀ q ∈ x.2, q.block < W.heap.size) : ∃ zs, IsNums W v zs := by
  rcases open_ints Try.underlying22 Try.underlying23 cells25 hf with ⟨hcs, hx⟩ | ⟨a, len, cap, zs, hcs, _, hl, hm, hz, hx, hcell, hwz⟩
  · injection hcs with hcs
    subst hcs
    exact ⟨[], IsNums.nil _⟩
  · injection hcs with hcs
    subst hcs
    subst hx
    simp only [if_true] at hz
    have hreach := hs _ _ rfl
    rw [bytes25] at hreach
    simp only [lits, List.length_map, List.length_take, List.length_drop, reachBytes] at hreach
    have hlen : (zs.take len).length = len := by simp; omega
    refine ⟨zs.take len, some a, cap, by rw [hlen], by rw [hlen]; exact hl, hm, by rw [hlen]; omega, fun z hz => U64.of_wf' (hwz z (List.mem_of_mem_take hz)), ?_⟩
    rcases Nat.eq_zero_or_pos len with h0 | h0
    · subst h0; exact .inl (by simp [u64s])
    · obtain ⟨b, off, spot⟩ := a
      have hspot : spot = none := by simpa [Addr.add] using World.cell?_spot (hcell 0 (by omega))
      subst hspot
      have hbW : b < W.heap.size := hlt (.cell b off) (MemPlace.mem_row.2 ⟨0, by omega, by simp⟩)
      refine .inr ⟨b, off, rfl, hbW, fun j hj => ?_⟩
      rw [u64s_length, hlen] at hj
      rw [← add_addr, hcell j (by omega), u64s_get, List.getElem?_take, if_pos hj, List.getElem?_eq_getElem (by omega)]
      simp [List.getD, List.getElem?_eq_getElem (show j < zs.length by omega)]
theorem cellsRw : Try.prog.cellsOf 106 = 2 := by kernel_rfl
theorem bytesRw : Try.prog.bytesOf 106 = 32 := by kernel_rfl
set_option maxRecDepth 100000 in
theorem one_row {cs : List Value} {fuel : Nat} {x : DataW H × List MemPlace} (hs : ∀ y ∈ x.1.weights Try.prog 106, y ≤ reachBytes) (hl : cs.length = 2) (h : DataW.trod enc Try.prog W 0 (fun _ => true) true fuel 106 cs = some x) (hlt : ∀ q ∈ x.2, q.block < W.heap.size) : ∃ q : (Int × List Int) × Value, cs = renc q ∧ RowOk W q := by
  obtain ⟨ys, n, _, hx, _, hyl, hf⟩ := DataW.trod_struct Try.underlying106 h
  match cs, hl with
  | [c0, c1], _ =>
    have hyl2 : ys.length = 2 := hyl
    have f0 := hf 0 _ rfl
    have f1 := hf 1 _ rfl
    match ys, hyl2 with
    | [y0, y1], _ =>
      simp only [List.getElem?_cons_zero, List.getElem?_cons_succ] at f0 f1
      obtain ⟨n0, e0, _, w0⟩ := DataW.trod_int Try.underlying3 f0
      injection e0 with e0
      subst e0
      obtain ⟨zs, hz⟩ := open_nums_fR (v := c1) (x := y1) (fun elems spare he => hs _ (by
        obtain ⟨d5, p5⟩ := y1
        dsimp only at he
        subst he
        rw [hx]
        simp [DataW.weights, DataW.weightsEach, Try.underlying106, Try.underlying22])) f1 (fun q hq => hlt q (by rw [hx]; simp [hq]))
      exact ⟨((n0, zs), c1), rfl, I64.of_wf' w0, hz⟩
set_option maxRecDepth 100000 in
theorem open_rows {base : Nat} {v : Value} {d : DataW H} {p : List MemPlace} (hs : ∀ x ∈ d.weights Try.prog 83, x ≤ reachBytes)
    (hv : Value.okWide Try.prog W .any base 83 v) (h : DataW.Trod enc Try.prog W 0 (fun _ => true) true 83 v d p) (hlt : ∀ x ∈ p, x.block < W.heap.size) : ∃ l, IsRows W v l := by
  obtain ⟨a0, len0, cap0, rfl⟩ := okWide_slice Try.underlying83 hv
  obtain ⟨fuel, hf⟩ := h
  rcases open_slice Try.underlying83 hf with ⟨hcs, hx⟩ | ⟨a, len, cap, m, n, D, Pl, hcs, _, hl, hm, hmm, hx, hi⟩
  · simp [Value.cells] at hcs
    obtain ⟨rfl, rfl, rfl⟩ := hcs
    exact ⟨[], IsRows.nil _⟩
  · simp [Value.cells] at hcs
    obtain ⟨rfl, rfl, rfl⟩ := hcs
    simp only [Prod.mk.injEq] at hx
    obtain ⟨rfl, rfl⟩ := hx
    simp only [if_true] at hmm
    subst hmm
    have hreach := hs ((((List.range len0).map D).length + ((List.range (m - len0)).map fun j => D (len0 + j)).length) * Try.prog.bytesOf 106) (by simp [DataW.weights, Try.underlying83])
    rw [bytesRw] at hreach
    simp only [List.length_map, List.length_range, reachBytes] at hreach
    rw [cellsRw] at hi
    have hD : ∀ i, i < m → ∀ x ∈ (D i).weights Try.prog 106, x ≤ reachBytes := fun i hic x hx => by
      refine hs x ?_
      simp only [DataW.weights, Try.underlying83, List.mem_cons, List.mem_append]
      rcases Nat.lt_or_ge i len0 with hil | hil
      · exact .inr (.inl (weightsAll_memR (List.mem_map.2 ⟨i, List.mem_range.2 hil, rfl⟩) hx))
      · exact .inr (.inr (weightsAll_memR (List.mem_map.2 ⟨i - len0, List.mem_range.2 (by omega), by rw [show len0 + (i - len0) = i by omega]⟩) hx))
    have each : ∀ i, i < m → ∃ q : (Int × List Int) × Value, RowOk W q ∧ ∀ j, j < 2 → W.cell? (a.add (i * 2 + j)) = (renc q)[j]? := by
      intro i him
      obtain ⟨cs', hc, ht⟩ := hi i him
      obtain ⟨_, hcl, hat⟩ := World.cells?_some hc
      obtain ⟨q, rfl, hq⟩ := one_row (x := (D i, Pl i)) (hD i him) hcl ht (fun r hr => hlt r (List.mem_append.2 (.inr (List.mem_flatMap.2 ⟨i, List.mem_range.2 him, hr⟩))))
      exact ⟨q, hq, fun j hj => by rw [← Go.Deep.add_add]; exact hat j hj⟩
    haveI : Inhabited ((Int × List Int) × Value) := ⟨((0, []), .bool true)⟩
    obtain ⟨S, hS⟩ := choose_lt each
    have hlenL : ((List.range len0).map S).length = len0 := by simp
    refine ⟨((List.range len0).map S).map (·.1), some a, m, ((List.range len0).map S).map (·.2), by simp, by simpa using hl, hm, by simp; omega, fun s hq => ?_, ?_, by simp, fun i x r hx hr => ?_⟩
    · obtain ⟨q, hq1, rfl⟩ := List.mem_map.1 hq
      obtain ⟨i, hir, he⟩ := List.mem_map.1 hq1
      rw [← he]
      exact (hS i (by have := List.mem_range.1 hir; omega)).1.1
    · rw [rcs_enc]
      rcases Nat.eq_zero_or_pos len0 with h0 | h0
      · subst h0; exact .inl (by simp)
      · obtain ⟨b, off, spot⟩ := a
        have hsome := (hS 0 (by omega)).2 0 (by omega)
        have hspot : spot = none := by
          have : W.cell? ((⟨b, off, spot⟩ : Addr).add 0) = some (.int .i64 (S 0).1.1) := by simpa [renc] using hsome
          simpa [Addr.add] using World.cell?_spot this
        subst hspot
        have hbW : b < W.heap.size := hlt (.cell b off) (List.mem_append.2 (.inl (MemPlace.mem_row.2 ⟨0, by rw [cellsRw]; omega, by simp⟩)))
        refine .inr ⟨b, off, rfl, hbW, fun j hj => ?_⟩
        rw [flat_length renc 2 renc_length, List.length_map, List.length_range] at hj
        have hk : j / 2 < len0 := by omega
        have e : j = j / 2 * 2 + j % 2 := by omega
        have h2 := (hS (j / 2) (by omega)).2 (j % 2) (Nat.mod_lt _ (by omega))
        have h3 := flat_get renc 2 renc_length ((List.range len0).map S) (j / 2) (j % 2) (S (j / 2)) (by rw [List.getElem?_map, List.getElem?_range hk]; rfl) (Nat.mod_lt _ (by omega))
        rw [← add_addr, e, h2]
        exact h3.symm
    · rw [List.getElem?_map, List.getElem?_map] at hx
      rw [List.getElem?_map, List.getElem?_map, List.getElem?_map] at hr
      rcases Nat.lt_or_ge i len0 with hi' | hi'
      · rw [List.getElem?_range hi'] at hx hr
        simp only [Option.map_some, Option.some.injEq] at hx hr
        subst hx hr
        exact (hS i (by omega)).1.2
      · rw [List.getElem?_eq_none (by simp; omega)] at hx
        cases hx
end
end Go.Proofs.Ytegmeepogjijiaa
