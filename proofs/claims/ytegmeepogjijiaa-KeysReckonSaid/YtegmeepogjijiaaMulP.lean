/- Products of shares: what is wanted for the walk. -/
import Derived.Test.YtegmeepogjijiaaGridP
import Derived.Test.YtegmeepogjijiaaWeiW
import Derived.Test.YtegmeepogjijiaaShamK
namespace Go.Proofs.Ytegmeepogjijiaa
open Go.RowKit Croft

/-- append of one number, to what the call has built, and what is left alone -/
theorem wpList_push_int_at {ops : Array Oper} {rest : List Oper} {o : Oper} {a : Act} {Q : Exit → Act → World → Prop} {w : World} (hgd : o.guard = none) (s x : Operand)
    (ho : o.op = .call { callee := .builtin .append, args := #[s, x], argTypes := #[44, 44] })
    (base : Nat) (v : Value) (zs : List Int) (z : Int) (g c : Nat) (hs : a.eval s = v) (hown : OwnInts w base v zs) (hx : a.eval x = .slice (some ⟨g, 0, none⟩) 1 c)
    (hc : w.cell? ⟨g, 0, none⟩ = some (.int .i64 z)) (hz : I64 z) (hl : zs.length + 1 ≤ 17592186043904) (hb : base ≤ w.heap.size)
    (h : ∀ v' w', OwnInts w' base v' (zs ++ [z]) → Below base w w' → w.grownBy w' v.ownBlock → wpList Try.prog ops Q rest (a.put o.dst v') w') : wpList Try.prog ops Q (o :: rest) a w := by
  obtain ⟨i0, hi, hz0, hz1, hz2⟩ := info_parts iinfo
  refine wpList_append_own w hgd s x 44 ho base 3 i0 (.int .i64 0) 1 8 Try.underlying44 hi hz0 hz1 hz2 rfl (by decide) v zs.length (i64s zs) hs hown.1 ⟨g, 0, none⟩ 1 c [.int .i64 z] hx rfl ?_ ?_ ?_ ?_ hb ?_
  · intro j u hu
    match j, hu with
    | 0, hu =>
      simp at hu
      subst hu
      rw [add_addr]; exact hc
  · intro u hu
    simp at hu
    subst hu; rfl
  · unfold maxLen; omega
  · omega
  · intro v' w' h1 h2 _
    refine h v' w' ⟨?_, ?_, ?_⟩ ((Below.refl _ _).grown h2 hb (fun k hk => (hown.1.lt k hk).1)) h2
    · have e : (zs ++ [z]).length = zs.length + 1 := by simp
      have e2 : i64s (zs ++ [z]) = i64s zs ++ [.int .i64 z] := by simp [i64s]
      rw [e, e2]; exact h1
    · simpa using hl
    · intro y hy
      rcases List.mem_append.1 hy with h3 | h3
      · exact hown.2.2 y h3
      · simp at h3; subst h3; exact hz
/-- a list of numbers, a list of lists, and an error -/
def MulRes (w : World) (e : Ending) (w' : World) (l : List Int) (g : List (List Int)) (err : Int) : Prop :=
  ∃ v vg vs, e = .returned (.tuple #[v, vg, .int .i64 err]) ∧ OwnNums w' w.heap.size v l ∧ Grid w' w.heap.size vg vs g ∧ (∀ (i : Nat) (x : Value) (b : Nat), vs[i]? = some x → x.ownBlock = some b → v.ownBlock ≠ some b) ∧ Below w.heap.size w w'
def rowK (f : Nat → Nat → Int) (m q : Nat) : List Int := (List.range m).map fun i => f i q
theorem rowK_length (f : Nat → Nat → Int) (m q : Nat) : (rowK f m q).length = m := by simp [rowK]
theorem rowK_next (f : Nat → Nat → Int) (m q : Nat) : rowK f (m + 1) q = rowK f m q ++ [f m q] := by simp [rowK, List.range_succ]
def gRows (n : Nat) (f : Nat → Nat → Int) (k j : Nat) : List (List Int) := (List.range n).map fun q => rowK f (if q < j then k + 1 else k) q
theorem gRows_length (n : Nat) (f : Nat → Nat → Int) (k j : Nat) : (gRows n f k j).length = n := by simp [gRows]
theorem gRows_get {n : Nat} (f : Nat → Nat → Int) {k j q : Nat} (h : q < n) : (gRows n f k j)[q]? = some (rowK f (if q < j then k + 1 else k) q) := by simp [gRows, h]
theorem gRows_at {n : Nat} (f : Nat → Nat → Int) {k j : Nat} (h : j < n) : (gRows n f k j)[j]? = some (rowK f k j) := by rw [gRows_get f h, if_neg (by omega)]
theorem gRows_set {n : Nat} (f : Nat → Nat → Int) {k j : Nat} (h : j < n) : (gRows n f k j).set j (rowK f k j ++ [f k j]) = gRows n f k (j + 1) := by
  apply List.ext_getElem?
  intro q
  by_cases hq : q < n
  · rw [gRows_get f hq]
    by_cases hqj : q = j
    · subst hqj
      rw [List.getElem?_set_self (by rw [gRows_length]; exact h), if_pos (by omega), rowK_next]
    · rw [List.getElem?_set_ne (Ne.symm hqj), gRows_get f hq]
      by_cases h1 : q < j
      · rw [if_pos h1, if_pos (by omega)]
      · rw [if_neg h1, if_neg (by omega)]
  · rw [List.getElem?_eq_none (by rw [List.length_set, gRows_length]; omega), List.getElem?_eq_none (by rw [gRows_length]; omega)]
theorem gRows_end (n : Nat) (f : Nat → Nat → Int) (k : Nat) : gRows n f k n = gRows n f (k + 1) 0 := by
  unfold gRows
  apply List.map_congr_left
  intro q hq
  rw [List.mem_range] at hq
  rw [if_pos hq, if_neg (by omega)]
theorem gRows_start (n : Nat) (f : Nat → Nat → Int) : gRows n f 0 0 = List.replicate n [] := by
  apply List.ext_getElem?
  intro q
  by_cases hq : q < n
  · rw [gRows_get f hq, if_neg (by omega), List.getElem?_replicate, if_pos hq]; rfl
  · rw [List.getElem?_eq_none (by rw [gRows_length]; omega), List.getElem?_replicate, if_neg hq]
/-- what party q gets of party i -/
def fMulAt (t : Nat) (A B D : List F) (i q : Nat) : Int := ofF (peval ((co A i * co B i) :: chunk t D i) (pt q))
theorem gRows_got (n t : Nat) (A B D : List F) : gRows n (fMulAt t A B D) n 0 = (gotM n t A B D).map ofFs := by
  unfold gRows gotM rowK ofFs
  rw [List.map_map]
  apply List.map_congr_left
  intro q _
  rw [if_neg (by omega)]
  simp [fMulAt, Function.comp_def]
theorem atsN_wt (n : Nat) : wtL (atsN n) n = ofFs (wts n) := by
  unfold wtL
  rw [List.take_of_length_le (by rw [atsN_length]; exact Nat.le_refl _), atsN_toFs]
  simp [atsN, wts, ofFs, pt, Function.comp_def]
/-- a slice of a slice, as an equation -/
theorem slice_run (A : Option Addr) (m c lo hi : Nat) (x y : Int) (hx : x = lo) (hy : y = hi) (h1 : lo ≤ hi) (h2 : hi ≤ c) (W : World) :
    (Instr.sliceAt 22 (.slice A m c) (some (.int .i64 x)) (some (.int .i64 y)) none).run Try.prog W = .ok (.slice (if c = lo then A else A.map (·.add (lo * 1))) (hi - lo) (c - lo)) W := by
  subst hx hy
  have hU : Program.underlying Try.prog 22 = some (.slice (Program.elem Try.prog 22)) := by kernel_rfl
  have hs : ∀ W, (sizeOf (Program.elem Try.prog 22)).run Try.prog W = .ok 1 W := fun W => by kernel_rfl
  rw [run_sliceAt_slice _ _ _ _ _ _ hU, run_slice_lh W _ A m c hU .i64 .i64 _ _ (by omega) (by omega) (by omega), hs]
  simp [Result.andThen, sliced]
theorem IsNums.cut {w : World} {A : Option Addr} {len c : Nat} {zs : List Int} (h : IsNums w (.slice A len c) zs) (lo hi : Nat) (h1 : lo ≤ hi) (h2 : hi ≤ zs.length) : IsNums w (.slice (if c = lo then A else A.map (·.add (lo * 1))) (hi - lo) (c - lo)) ((zs.drop lo).take (hi - lo)) := by
  obtain ⟨A1, c1, e1, e2, e3, e4, e5, e6⟩ := h
  injection e1 with e1a e1b e1c
  subst e1a e1b e1c
  have hl : ((zs.drop lo).take (hi - lo)).length = hi - lo := by simp; omega
  refine ⟨_, _, by rw [hl], by rw [hl]; omega, by omega, by rw [hl]; omega, fun z hz => e5 z (List.mem_of_mem_drop (List.mem_of_mem_take hz)), ?_⟩
  rcases Nat.lt_or_ge lo hi with hlt | hge
  · obtain ⟨b, o, rfl, hb, hc⟩ := e6.at_ (j := lo) (by rw [u64s_length]; omega)
    rw [if_neg (by omega)]
    refine .inr ⟨b, o + lo, by simp [add_addr], hb, fun j hj => ?_⟩
    rw [u64s_length, hl] at hj
    rw [Nat.add_assoc, hc _ (by rw [u64s_length]; omega), u64s_get, u64s_get, List.getElem?_take, if_pos hj, List.getElem?_drop]
  · have h0 : hi - lo = 0 := by omega
    rw [h0]; exact .inl (by simp [u64s])
theorem chunk_toFs (t : Nat) (ds : List Int) (i : Nat) : toFs ((ds.drop (i * t)).take t) = chunk t (toFs ds) i := by simp [chunk, toFs, List.map_take, List.map_drop]
end Go.Proofs.Ytegmeepogjijiaa
