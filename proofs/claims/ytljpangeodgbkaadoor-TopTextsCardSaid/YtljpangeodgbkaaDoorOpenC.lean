/- Lists of lists of numbers that are handed in, read as data. -/
import Derived.Test.YtljpangeodgbkaaDoorOpen
import Derived.Test.YtljpangeodgbkaaDoorGrid
import Derived.Lib.SmallJoins
import Derived.Test.YtljpangeodgbkaaDoorCircW
namespace Go.Proofs.YtljpangeodgbkaaDoor
open Go.ChangeShapes Go.WideShapes Go.ChangeAt Go.RowKit Go.Deep Go.Joins Croft
section
variable {H : Type} {enc : TypeId × Value → H} {W : World}
theorem cells26 : Tryd.prog.cellsOf 35 = 1 := by kernel_rfl
theorem bytes26 : Tryd.prog.bytesOf 35 = 24 := by kernel_rfl
theorem weightsAll_mem {P : Program} {e : TypeId} {l : List (DataW H)} {d : DataW H} {x : Nat} (hd : d ∈ l) (hx : x ∈ d.weights P e) : x ∈ DataW.weightsAll P e l := by
  induction l with
  | nil => cases hd
  | cons a l ih =>
    rw [DataW.weightsAll, List.mem_append]
    rcases List.mem_cons.1 hd with rfl | h
    · exact .inl hx
    · exact .inr (ih h)
set_option maxRecDepth 100000 in
theorem open_nums_f {v : Value} {fuel : Nat} {x : DataW H × List MemPlace}
    (hs : ∀ elems spare, x.1 = .slice elems spare → (elems.length + spare.length) * Tryd.prog.bytesOf 46 ≤ reachBytes)
    (hf : DataW.trod enc Tryd.prog W 0 (fun _ => true) true fuel 35 [v] = some x) (hlt : ∀ q ∈ x.2, q.block < W.heap.size) : ∃ zs, IsNums W v zs := by
  rcases open_ints Tryd.underlying35 Tryd.underlying46 cells25 hf with ⟨hcs, hx⟩ | ⟨a, len, cap, zs, hcs, _, hl, hm, hz, hx, hcell, hwz⟩
  · injection hcs with hcs
    subst hcs
    exact ⟨[], IsNums.nil _⟩
  · injection hcs with hcs
    subst hcs
    subst hx
    simp only [if_true] at hz
    have hreach := hs _ _ rfl
    rw [bytes25] at hreach
    simp only [lits, List.length_map, List.length_take, List.length_drop, reachBytes] at hreach
    have hlen : (zs.take len).length = len := by simp; omega
    refine ⟨zs.take len, some a, cap, by rw [hlen], by rw [hlen]; exact hl, hm, by rw [hlen]; omega, fun z hz => U64.of_wf' (hwz z (List.mem_of_mem_take hz)), ?_⟩
    rcases Nat.eq_zero_or_pos len with h0 | h0
    · subst h0; exact .inl (by simp [u64s])
    · obtain ⟨b, off, spot⟩ := a
      have hspot : spot = none := by simpa [Addr.add] using World.cell?_spot (hcell 0 (by omega))
      subst hspot
      have hbW : b < W.heap.size := hlt (.cell b off) (MemPlace.mem_row.2 ⟨0, by omega, by simp⟩)
      refine .inr ⟨b, off, rfl, hbW, fun j hj => ?_⟩
      rw [u64s_length, hlen] at hj
      rw [← add_addr, hcell j (by omega), u64s_get, List.getElem?_take, if_pos hj, List.getElem?_eq_getElem (by omega)]
      simp [List.getD, List.getElem?_eq_getElem (show j < zs.length by omega)]
set_option maxRecDepth 100000 in
theorem open_numss {base : Nat} {v : Value} {d : DataW H} {p : List MemPlace} (hs : ∀ x ∈ d.weights Tryd.prog 41, x ≤ reachBytes)
    (hv : Value.okWide Tryd.prog W .any base 41 v) (h : DataW.Trod enc Tryd.prog W 0 (fun _ => true) true 41 v d p) (hlt : ∀ x ∈ p, x.block < W.heap.size) : ∃ rows, IsNumss W v rows := by
  obtain ⟨a0, len0, cap0, rfl⟩ := okWide_slice Tryd.underlying41 hv
  obtain ⟨fuel, hf⟩ := h
  rcases open_slice Tryd.underlying41 hf with ⟨hcs, hx⟩ | ⟨a, len, cap, m, n, D, Pl, hcs, _, hl, hm, hmm, hx, hi⟩
  · simp [Value.cells] at hcs
    obtain ⟨rfl, rfl, rfl⟩ := hcs
    exact ⟨[], none, 0, [], rfl, Nat.le_refl _, by simp [maxLen], by simp, .inl rfl, AllNums.nil _⟩
  · simp [Value.cells] at hcs
    obtain ⟨rfl, rfl, rfl⟩ := hcs
    simp only [Prod.mk.injEq] at hx
    obtain ⟨rfl, rfl⟩ := hx
    simp only [if_true] at hmm
    subst hmm
    have hreach := hs ((((List.range len0).map D).length + ((List.range (m - len0)).map fun j => D (len0 + j)).length) * Tryd.prog.bytesOf 35) (by simp [DataW.weights, Tryd.underlying41])
    rw [bytes26] at hreach
    simp only [List.length_map, List.length_range, reachBytes] at hreach
    rw [cells26] at hi
    have hD : ∀ i, i < m → ∀ x ∈ (D i).weights Tryd.prog 35, x ≤ reachBytes := fun i hic x hx => by
      refine hs x ?_
      simp only [DataW.weights, Tryd.underlying41, List.mem_cons, List.mem_append]
      rcases Nat.lt_or_ge i len0 with hil | hil
      · exact .inr (.inl (weightsAll_mem (List.mem_map.2 ⟨i, List.mem_range.2 hil, rfl⟩) hx))
      · exact .inr (.inr (weightsAll_mem (List.mem_map.2 ⟨i - len0, List.mem_range.2 (by omega), by rw [show len0 + (i - len0) = i by omega]⟩) hx))
    have each : ∀ i, i < m → ∃ q : Value × List Int, W.cell? (a.add i) = some q.1 ∧ IsNums W q.1 q.2 := by
      intro i him
      obtain ⟨cs', hc, ht⟩ := hi i him
      obtain ⟨_, hcl, hat⟩ := World.cells?_some hc
      match cs', hcl with
      | [x], _ =>
        have h0 := hat 0 (by omega)
        rw [Nat.mul_one, Go.Deep.add_add] at h0
        obtain ⟨zs, hz⟩ := open_nums_f (x := (D i, Pl i)) (fun elems spare he => by
          have h1 := hD i him ((elems.length + spare.length) * Tryd.prog.bytesOf 46)
          refine h1 ?_
          dsimp only at he
          rw [he]
          simp [DataW.weights, Tryd.underlying35]) ht (fun q hq => hlt q (List.mem_append.2 (.inr (List.mem_flatMap.2 ⟨i, List.mem_range.2 him, hq⟩))))
        exact ⟨(x, zs), by simpa using h0, hz⟩
    haveI : Inhabited (Value × List Int) := ⟨(.bool true, [])⟩
    obtain ⟨S, hS⟩ := choose_lt each
    refine ⟨(List.range len0).map fun i => (S i).2, some a, m, (List.range len0).map fun i => (S i).1, by simp, by simpa using hl, hm, by simp; omega, ?_, by simp, fun i x r hx hr => ?_⟩
    · rcases Nat.eq_zero_or_pos len0 with h0 | h0
      · subst h0; exact .inl (by simp)
      · obtain ⟨b, off, spot⟩ := a
        have hspot : spot = none := by simpa [Addr.add] using World.cell?_spot (hS 0 (by omega)).1
        subst hspot
        have hbW : b < W.heap.size := hlt (.cell b off) (List.mem_append.2 (.inl (MemPlace.mem_row.2 ⟨0, by rw [cells26]; omega, by simp⟩)))
        refine .inr ⟨b, off, rfl, hbW, fun j hj => ?_⟩
        rw [List.length_map, List.length_range] at hj
        rw [← add_addr, (hS j (by omega)).1, List.getElem?_map, List.getElem?_range hj]
        rfl
    · rw [List.getElem?_map] at hx hr
      rcases Nat.lt_or_ge i len0 with hil | hil
      · rw [List.getElem?_range hil] at hx hr
        simp only [Option.map_some, Option.some.injEq] at hx hr
        subst hx hr
        exact (hS i (by omega)).2
      · rw [List.getElem?_eq_none (by simpa using hil)] at hx
        cases hx
end
end Go.Proofs.YtljpangeodgbkaaDoor
namespace Go.Proofs.YtljpangeodgbkaaDoor
open Go.ChangeShapes Go.WideShapes Go.ChangeAt Go.RowKit Go.Deep Go.Joins Croft
section
variable {H : Type} {enc : TypeId × Value → H} {W : World}
theorem cells75 : Tryd.prog.cellsOf 62 = 4 := by kernel_rfl
theorem bytes75 : Tryd.prog.bytesOf 62 = 32 := by kernel_rfl
set_option maxRecDepth 100000 in
theorem one_gate {cs : List Value} {fuel : Nat} {x : DataW H × List MemPlace} (hl : cs.length = 4) (h : DataW.trod enc Tryd.prog W 0 (fun _ => true) true fuel 62 cs = some x) : ∃ g : Gt, cs = genc g ∧ GateOk g := by
  obtain ⟨ys, n, _, _, _, hyl, hf⟩ := DataW.trod_struct Tryd.underlying62 h
  match cs, hl with
  | [c0, c1, c2, c3], _ =>
    have hyl4 : ys.length = 4 := hyl
    have f0 := hf 0 _ rfl
    have f1 := hf 1 _ rfl
    have f2 := hf 2 _ rfl
    have f3 := hf 3 _ rfl
    match ys, hyl4 with
    | [y0, y1, y2, y3], _ =>
      simp only [List.getElem?_cons_zero, List.getElem?_cons_succ] at f0 f1 f2 f3
      obtain ⟨n0, e0, _, w0⟩ := DataW.trod_int Tryd.underlying3 f0
      obtain ⟨n1, e1, _, w1⟩ := DataW.trod_int Tryd.underlying3 f1
      obtain ⟨n2, e2, _, w2⟩ := DataW.trod_int Tryd.underlying3 f2
      obtain ⟨n3, e3, _, w3⟩ := DataW.trod_int Tryd.underlying46 f3
      injection e0 with e0
      injection e1 with e1
      injection e2 with e2
      injection e3 with e3
      subst e0 e1 e2 e3
      exact ⟨⟨n0, n1, n2, n3⟩, rfl, I64.of_wf' w0, I64.of_wf' w1, I64.of_wf' w2, U64.of_wf' w3⟩
set_option maxRecDepth 100000 in
theorem open_gates_f {v : Value} {fuel : Nat} {x : DataW H × List MemPlace}
    (hs : ∀ elems spare, x.1 = .slice elems spare → (elems.length + spare.length) * Tryd.prog.bytesOf 62 ≤ reachBytes)
    (h : DataW.trod enc Tryd.prog W 0 (fun _ => true) true fuel 22 [v] = some x) (hlt : ∀ q ∈ x.2, q.block < W.heap.size) : ∃ gs, IsGates W v gs := by
  rcases open_slice Tryd.underlying22 h with ⟨hcs, hx⟩ | ⟨a, len, cap, m, n, D, Pl, hcs, _, hl, hm, hmm, hx, hi⟩
  · injection hcs with hcs
    subst hcs
    exact ⟨[], IsGates.nil _⟩
  · injection hcs with hcs
    subst hcs
    subst hx
    simp only [if_true] at hmm
    subst hmm
    have hreach := hs _ _ rfl
    rw [bytes75] at hreach
    simp only [List.length_map, List.length_range, reachBytes] at hreach
    rw [cells75] at hi
    have each : ∀ i, i < m → ∃ g : Gt, GateOk g ∧ ∀ j, j < 4 → W.cell? (a.add (i * 4 + j)) = (genc g)[j]? := by
      intro i him
      obtain ⟨cs', hc, ht⟩ := hi i him
      obtain ⟨_, hcl, hat⟩ := World.cells?_some hc
      obtain ⟨g, rfl, hg⟩ := one_gate hcl ht
      exact ⟨g, hg, fun j hj => by rw [← Go.Deep.add_add]; exact hat j hj⟩
    haveI : Inhabited Gt := ⟨⟨0, 0, 0, 0⟩⟩
    obtain ⟨S, hS⟩ := choose_lt each
    refine ⟨(List.range len).map S, some a, m, by simp, by simpa using hl, hm, by simp; omega, fun g hg => ?_, ?_⟩
    · obtain ⟨i, hir, rfl⟩ := List.mem_map.1 hg
      exact (hS i (by have := List.mem_range.1 hir; omega)).1
    rcases Nat.eq_zero_or_pos len with h0 | h0
    · subst h0; exact .inl (by simp [gcs])
    · obtain ⟨b, off, spot⟩ := a
      have hsome := (hS 0 (by omega)).2 0 (by omega)
      have hspot : spot = none := by
        have : W.cell? ((⟨b, off, spot⟩ : Addr).add 0) = some (.int .i64 (S 0).kind) := by simpa [genc] using hsome
        simpa [Addr.add] using World.cell?_spot this
      subst hspot
      have hbW : b < W.heap.size := hlt (.cell b off) (List.mem_append.2 (.inl (MemPlace.mem_row.2 ⟨0, by rw [cells75]; omega, by simp⟩)))
      refine .inr ⟨b, off, rfl, hbW, fun j hj => ?_⟩
      rw [gcs_length, List.length_map, List.length_range] at hj
      have hk : j / 4 < len := by omega
      have e : j = j / 4 * 4 + j % 4 := by omega
      have h2 := (hS (j / 4) (by omega)).2 (j % 4) (Nat.mod_lt _ (by omega))
      have h3 := flat_get genc 4 genc_length ((List.range len).map S) (j / 4) (j % 4) (S (j / 4)) (by rw [List.getElem?_map, List.getElem?_range hk]; rfl) (Nat.mod_lt _ (by omega))
      rw [← add_addr, e, h2]
      exact h3.symm
set_option maxRecDepth 100000 in
theorem open_ints_f {v : Value} {fuel : Nat} {x : DataW H × List MemPlace}
    (hs : ∀ elems spare, x.1 = .slice elems spare → (elems.length + spare.length) * Tryd.prog.bytesOf 3 ≤ reachBytes)
    (hf : DataW.trod enc Tryd.prog W 0 (fun _ => true) true fuel 23 [v] = some x) (hlt : ∀ q ∈ x.2, q.block < W.heap.size) : ∃ zs, IsInts W v zs := by
  rcases open_ints Tryd.underlying23 Tryd.underlying3 cells3 hf with ⟨hcs, hx⟩ | ⟨a, len, cap, zs, hcs, _, hl, hm, hz, hx, hcell, hwz⟩
  · injection hcs with hcs
    subst hcs
    exact ⟨[], IsInts.nil _⟩
  · injection hcs with hcs
    subst hcs
    subst hx
    simp only [if_true] at hz
    have hreach := hs _ _ rfl
    rw [bytes3] at hreach
    simp only [lits, List.length_map, List.length_take, List.length_drop, reachBytes] at hreach
    have hlen : (zs.take len).length = len := by simp; omega
    refine ⟨zs.take len, some a, cap, by rw [hlen], by rw [hlen]; exact hl, hm, by rw [hlen]; omega, fun z hz => I64.of_wf' (hwz z (List.mem_of_mem_take hz)), ?_⟩
    rcases Nat.eq_zero_or_pos len with h0 | h0
    · subst h0; exact .inl (by simp [i64s])
    · obtain ⟨b, off, spot⟩ := a
      have hspot : spot = none := by simpa [Addr.add] using World.cell?_spot (hcell 0 (by omega))
      subst hspot
      have hbW : b < W.heap.size := hlt (.cell b off) (MemPlace.mem_row.2 ⟨0, by omega, by simp⟩)
      refine .inr ⟨b, off, rfl, hbW, fun j hj => ?_⟩
      rw [i64s_length, hlen] at hj
      rw [← add_addr, hcell j (by omega), i64s_get, List.getElem?_take, if_pos hj, List.getElem?_eq_getElem (by omega)]
      simp [List.getD, List.getElem?_eq_getElem (show j < zs.length by omega)]
set_option maxRecDepth 100000 in
theorem open_circuit {base : Nat} {v : Value} {d : DataW H} {p : List MemPlace} (hs : ∀ x ∈ d.weights Tryd.prog 25, x ≤ reachBytes)
    (hv : Value.okWide Tryd.prog W .any base 25 v) (h : DataW.Trod enc Tryd.prog W 0 (fun _ => true) true 25 v d p) (hlt : ∀ x ∈ p, x.block < W.heap.size) : ∃ a : List Gt × List Int, IsCirc W v a.1 a.2 := by
  obtain ⟨v0, v1, y0, y1, n, rfl, rfl, rfl, h0, h1⟩ := open_agg2 Tryd.underlying25 (by kernel_rfl) (by kernel_rfl) hv h
  obtain ⟨gs, hg⟩ := open_gates_f (fun elems spare he => hs _ (by
    obtain ⟨d0, p0⟩ := y0
    dsimp only at he
    subst he
    simp [DataW.weights, DataW.weightsEach, Tryd.underlying25, Tryd.underlying22])) h0 (fun q hq => hlt q (by simp [hq]))
  obtain ⟨os, ho⟩ := open_ints_f (fun elems spare he => hs _ (by
    obtain ⟨d1, p1⟩ := y1
    dsimp only at he
    subst he
    simp [DataW.weights, DataW.weightsEach, Tryd.underlying25, Tryd.underlying23])) h1 (fun q hq => hlt q (by simp [hq]))
  exact ⟨(gs, os), v0, v1, rfl, hg, ho⟩
end
end Go.Proofs.YtljpangeodgbkaaDoor
namespace Go.Proofs.YtljpangeodgbkaaDoor
open Go.ChangeShapes Go.WideShapes Go.ChangeAt Go.RowKit Go.Deep Go.Joins Croft
/-- a call of keys -/
structure Cl where
  kind : Int
  g : Int
  h : Int
  a : Int
  b : Int
  draws : List Int
def cenc (q : Cl × Value) : List Value := [.int .i64 q.1.kind, .int .i64 q.1.g, .int .i64 q.1.h, .int .u64 q.1.a, .int .u64 q.1.b, q.2]
theorem cenc_length (q : Cl × Value) : (cenc q).length = 6 := rfl
def ccs (l : List (Cl × Value)) : List Value := l.flatMap cenc
theorem ccs_length (l : List (Cl × Value)) : (ccs l).length = l.length * 6 := flat_length cenc 6 cenc_length l
def CallOk (w : World) (q : Cl × Value) : Prop := I64 q.1.kind ∧ I64 q.1.g ∧ I64 q.1.h ∧ U64 q.1.a ∧ U64 q.1.b ∧ IsNums w q.2 q.1.draws
def IsCalls (w : World) (v : Value) (l : List (Cl × Value)) : Prop :=
  ∃ A cap, v = .slice A l.length cap ∧ l.length ≤ cap ∧ cap ≤ maxLen ∧ l.length ≤ 4398046511104 ∧ (∀ q ∈ l, CallOk w q) ∧ Cells w A (ccs l)
theorem IsCalls.below {w w' : World} {v : Value} {l : List (Cl × Value)} (h : IsCalls w v l) (hb : Below w.heap.size w w') : IsCalls w' v l := by
  obtain ⟨A, cap, h1, h2, h3, h4, h5, h6⟩ := h
  exact ⟨A, cap, h1, h2, h3, h4, fun q hq => by
    obtain ⟨k1, k2, k3, k4, k5, k6⟩ := h5 q hq
    exact ⟨k1, k2, k3, k4, k5, k6.below hb⟩, h6.below hb⟩
theorem IsCalls.nil (w : World) : IsCalls w (.slice none 0 0) [] := ⟨none, 0, rfl, Nat.le_refl _, by simp [maxLen], by simp, by simp, .inl rfl⟩
theorem call_at {w : World} {A : Option Addr} {l : List (Cl × Value)} (h : Cells w A (ccs l)) (h5 : ∀ q ∈ l, CallOk w q) {k : Nat} (hk : k < l.length) :
    ∃ b o c u, A = some ⟨b, o, none⟩ ∧ b < w.heap.size ∧ l[k]? = some (c, u) ∧ CallOk w (c, u) ∧ w.cell? ⟨b, o + k * 6, none⟩ = some (.int .i64 c.kind) ∧ w.cell? ⟨b, o + k * 6 + 1, none⟩ = some (.int .i64 c.g) ∧ w.cell? ⟨b, o + k * 6 + 2, none⟩ = some (.int .i64 c.h) ∧ w.cell? ⟨b, o + k * 6 + 3, none⟩ = some (.int .u64 c.a) ∧ w.cell? ⟨b, o + k * 6 + 4, none⟩ = some (.int .u64 c.b) ∧ w.cell? ⟨b, o + k * 6 + 5, none⟩ = some u := by
  obtain ⟨b, o, rfl, hb, hc⟩ := h.at_ (j := k * 6) (by rw [ccs_length]; omega)
  have hg : l[k]? = some l[k] := List.getElem?_eq_getElem hk
  have hat : ∀ j, j < 6 → w.cell? ⟨b, o + (k * 6 + j), none⟩ = (cenc l[k])[j]? := fun j hj => by
    rw [hc (k * 6 + j) (by rw [ccs_length]; omega)]
    exact flat_get cenc 6 cenc_length l k j _ hg hj
  exact ⟨b, o, l[k].1, l[k].2, rfl, hb, hg, h5 _ (List.getElem_mem hk), hat 0 (by omega), hat 1 (by omega), hat 2 (by omega), hat 3 (by omega), hat 4 (by omega), hat 5 (by omega)⟩
section
variable {H : Type} {enc : TypeId × Value → H} {W : World}
end
end Go.Proofs.YtljpangeodgbkaaDoor
