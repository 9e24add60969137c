/- Lists of lists of numbers that are handed in, read as data. -/
import Derived.Test.YtoleaijjgaekcaaOpen
import Derived.Test.YtoleaijjgaekcaaGrid
import Derived.Lib.SmallJoins
namespace Go.Proofs.Ytoleaijjgaekcaa
open Go.ChangeShapes Go.WideShapes Go.ChangeAt Go.RowKit Go.Deep Go.Joins Croft
section
variable {H : Type} {enc : TypeId × Value → H} {W : World}
theorem cells26 : Try.prog.cellsOf 23 = 1 := by kernel_rfl
theorem bytes26 : Try.prog.bytesOf 23 = 24 := by kernel_rfl
theorem weightsAll_mem {P : Program} {e : TypeId} {l : List (DataW H)} {d : DataW H} {x : Nat} (hd : d ∈ l) (hx : x ∈ d.weights P e) : x ∈ DataW.weightsAll P e l := by
  induction l with
  | nil => cases hd
  | cons a l ih =>
    rw [DataW.weightsAll, List.mem_append]
    rcases List.mem_cons.1 hd with rfl | h
    · exact .inl hx
    · exact .inr (ih h)
set_option maxRecDepth 100000 in
theorem open_nums_f {v : Value} {fuel : Nat} {x : DataW H × List MemPlace}
    (hs : ∀ elems spare, x.1 = .slice elems spare → (elems.length + spare.length) * Try.prog.bytesOf 24 ≤ reachBytes)
    (hf : DataW.trod enc Try.prog W 0 (fun _ => true) true fuel 23 [v] = some x) (hlt : ∀ q ∈ x.2, q.block < W.heap.size) : ∃ zs, IsNums W v zs := by
  rcases open_ints Try.underlying23 Try.underlying24 cells25 hf with ⟨hcs, hx⟩ | ⟨a, len, cap, zs, hcs, _, hl, hm, hz, hx, hcell, hwz⟩
  · injection hcs with hcs
    subst hcs
    exact ⟨[], IsNums.nil _⟩
  · injection hcs with hcs
    subst hcs
    subst hx
    simp only [if_true] at hz
    have hreach := hs _ _ rfl
    rw [bytes25] at hreach
    simp only [lits, List.length_map, List.length_take, List.length_drop, reachBytes] at hreach
    have hlen : (zs.take len).length = len := by simp; omega
    refine ⟨zs.take len, some a, cap, by rw [hlen], by rw [hlen]; exact hl, hm, by rw [hlen]; omega, fun z hz => U64.of_wf' (hwz z (List.mem_of_mem_take hz)), ?_⟩
    rcases Nat.eq_zero_or_pos len with h0 | h0
    · subst h0; exact .inl (by simp [u64s])
    · obtain ⟨b, off, spot⟩ := a
      have hspot : spot = none := by simpa [Addr.add] using World.cell?_spot (hcell 0 (by omega))
      subst hspot
      have hbW : b < W.heap.size := hlt (.cell b off) (MemPlace.mem_row.2 ⟨0, by omega, by simp⟩)
      refine .inr ⟨b, off, rfl, hbW, fun j hj => ?_⟩
      rw [u64s_length, hlen] at hj
      rw [← add_addr, hcell j (by omega), u64s_get, List.getElem?_take, if_pos hj, List.getElem?_eq_getElem (by omega)]
      simp [List.getD, List.getElem?_eq_getElem (show j < zs.length by omega)]
set_option maxRecDepth 100000 in
theorem open_numss {base : Nat} {v : Value} {d : DataW H} {p : List MemPlace} (hs : ∀ x ∈ d.weights Try.prog 22, x ≤ reachBytes)
    (hv : Value.okWide Try.prog W .any base 22 v) (h : DataW.Trod enc Try.prog W 0 (fun _ => true) true 22 v d p) (hlt : ∀ x ∈ p, x.block < W.heap.size) : ∃ rows, IsNumss W v rows := by
  obtain ⟨a0, len0, cap0, rfl⟩ := okWide_slice Try.underlying22 hv
  obtain ⟨fuel, hf⟩ := h
  rcases open_slice Try.underlying22 hf with ⟨hcs, hx⟩ | ⟨a, len, cap, m, n, D, Pl, hcs, _, hl, hm, hmm, hx, hi⟩
  · simp [Value.cells] at hcs
    obtain ⟨rfl, rfl, rfl⟩ := hcs
    exact ⟨[], none, 0, [], rfl, Nat.le_refl _, by simp [maxLen], by simp, .inl rfl, AllNums.nil _⟩
  · simp [Value.cells] at hcs
    obtain ⟨rfl, rfl, rfl⟩ := hcs
    simp only [Prod.mk.injEq] at hx
    obtain ⟨rfl, rfl⟩ := hx
    simp only [if_true] at hmm
    subst hmm
    have hreach := hs ((((List.range len0).map D).length + ((List.range (m - len0)).map fun j => D (len0 + j)).length) * Try.prog.bytesOf 23) (by simp [DataW.weights, Try.underlying22])
    rw [bytes26] at hreach
    simp only [List.length_map, List.length_range, reachBytes] at hreach
    rw [cells26] at hi
    have hD : ∀ i, i < m → ∀ x ∈ (D i).weights Try.prog 23, x ≤ reachBytes := fun i hic x hx => by
      refine hs x ?_
      simp only [DataW.weights, Try.underlying22, List.mem_cons, List.mem_append]
      rcases Nat.lt_or_ge i len0 with hil | hil
      · exact .inr (.inl (weightsAll_mem (List.mem_map.2 ⟨i, List.mem_range.2 hil, rfl⟩) hx))
      · exact .inr (.inr (weightsAll_mem (List.mem_map.2 ⟨i - len0, List.mem_range.2 (by omega), by rw [show len0 + (i - len0) = i by omega]⟩) hx))
    have each : ∀ i, i < m → ∃ q : Value × List Int, W.cell? (a.add i) = some q.1 ∧ IsNums W q.1 q.2 := by
      intro i him
      obtain ⟨cs', hc, ht⟩ := hi i him
      obtain ⟨_, hcl, hat⟩ := World.cells?_some hc
      match cs', hcl with
      | [x], _ =>
        have h0 := hat 0 (by omega)
        rw [Nat.mul_one, Go.Deep.add_add] at h0
        obtain ⟨zs, hz⟩ := open_nums_f (x := (D i, Pl i)) (fun elems spare he => by
          have h1 := hD i him ((elems.length + spare.length) * Try.prog.bytesOf 24)
          refine h1 ?_
          dsimp only at he
          rw [he]
          simp [DataW.weights, Try.underlying23]) ht (fun q hq => hlt q (List.mem_append.2 (.inr (List.mem_flatMap.2 ⟨i, List.mem_range.2 him, hq⟩))))
        exact ⟨(x, zs), by simpa using h0, hz⟩
    haveI : Inhabited (Value × List Int) := ⟨(.bool true, [])⟩
    obtain ⟨S, hS⟩ := choose_lt each
    refine ⟨(List.range len0).map fun i => (S i).2, some a, m, (List.range len0).map fun i => (S i).1, by simp, by simpa using hl, hm, by simp; omega, ?_, by simp, fun i x r hx hr => ?_⟩
    · rcases Nat.eq_zero_or_pos len0 with h0 | h0
      · subst h0; exact .inl (by simp)
      · obtain ⟨b, off, spot⟩ := a
        have hspot : spot = none := by simpa [Addr.add] using World.cell?_spot (hS 0 (by omega)).1
        subst hspot
        have hbW : b < W.heap.size := hlt (.cell b off) (List.mem_append.2 (.inl (MemPlace.mem_row.2 ⟨0, by rw [cells26]; omega, by simp⟩)))
        refine .inr ⟨b, off, rfl, hbW, fun j hj => ?_⟩
        rw [List.length_map, List.length_range] at hj
        rw [← add_addr, (hS j (by omega)).1, List.getElem?_map, List.getElem?_range hj]
        rfl
    · rw [List.getElem?_map] at hx hr
      rcases Nat.lt_or_ge i len0 with hil | hil
      · rw [List.getElem?_range hil] at hx hr
        simp only [Option.map_some, Option.some.injEq] at hx hr
        subst hx hr
        exact (hS i (by omega)).2
      · rw [List.getElem?_eq_none (by simpa using hil)] at hx
        cases hx
end
end Go.Proofs.Ytoleaijjgaekcaa
