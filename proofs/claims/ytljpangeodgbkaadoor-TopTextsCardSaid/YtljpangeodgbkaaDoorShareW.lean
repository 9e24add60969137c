/- Lists of shares that a call builds. -/
import Derived.Test.YtljpangeodgbkaaDoorShares
namespace Go.Proofs.YtljpangeodgbkaaDoor
open Go.RowKit Croft

def OwnShares (w : World) (base : Nat) (v : Value) (l : List (Int × Int)) : Prop :=
  w.ownsRow base 98 2 v l.length (shs l) ∧ l.length ≤ 8796093022208 ∧ (∀ s ∈ l, I64 s.1 ∧ U64 s.2)
theorem OwnShares.is {w : World} {base : Nat} {v : Value} {l : List (Int × Int)} (h : OwnShares w base v l) : IsShares w v l := by
  obtain ⟨h1, h2, h3⟩ := h
  obtain ⟨A, cap, rfl, h4, h5⟩ := own_form h1
  exact ⟨A, cap, rfl, h4, h5, h2, h3, Cells.of_own h1⟩
theorem OwnShares.nil (w : World) (base : Nat) : OwnShares w base (.slice none 0 0) [] := ⟨World.ownsRow_nil _ _ _ _, by simp, by simp⟩
theorem OwnShares.alloc {w : World} {base : Nat} {v : Value} {l : List (Int × Int)} (h : OwnShares w base v l) (o : Obj) : OwnShares (w.alloc o) base v l := ⟨h.1.alloc o, h.2⟩
theorem OwnShares.drewN {w : World} {base : Nat} {v : Value} {l : List (Int × Int)} (h : OwnShares w base v l) (n : Nat) : OwnShares (w.drewN n) base v l := h
theorem OwnShares.below {w w' : World} {base : Nat} {v : Value} {l : List (Int × Int)} (h : OwnShares w base v l) (hb : Below w.heap.size w w') : OwnShares w' base v l := ⟨own_kept h.1 hb, h.2⟩
theorem OwnShares.less {w : World} {base base' : Nat} {v : Value} {l : List (Int × Int)} (h : OwnShares w base v l) (hb : base' ≤ base) : OwnShares w base' v l := by
  refine ⟨⟨h.1.1, ?_⟩, h.2⟩
  rcases h.1.2 with h1 | ⟨g, cap, cur, hv, hg, r⟩
  · exact .inl h1
  · exact .inr ⟨g, cap, cur, hv, by omega, r⟩
theorem shs_snoc (l : List (Int × Int)) (s : Int × Int) : shs (l ++ [s]) = shs l ++ [.int .i64 s.1, .int .u64 s.2] := by simp [shs]
theorem sinfo : (Tryd.prog.info? 98).map (fun i => (i.zero, i.size, i.bytes)) = some (some (.agg #[.int .i64 0, .int .u64 0]), 2, 16) := by kernel_rfl
theorem pair_cell0 (w : World) (x y : Value) (t : TypeId) : (w.alloc (.cells #[x, y] t)).cell? ⟨w.heap.size, 0, none⟩ = some x := by
  rw [cell_of_row _ _ 0 #[x, y] t (0, 0) (heap_alloc_new w _)]; rfl
theorem pair_cell1 (w : World) (x y : Value) (t : TypeId) : (w.alloc (.cells #[x, y] t)).cell? ⟨w.heap.size, 1, none⟩ = some y := by
  rw [cell_of_row _ _ 1 #[x, y] t (0, 0) (heap_alloc_new w _)]; rfl
/-- append of one share, to what the call has built -/
theorem wpList_push_share {ops : Array Oper} {rest : List Oper} {o : Oper} {a : Act} {Q : Exit → Act → World → Prop} {w : World} (hgd : o.guard = none) (s x : Operand)
    (ho : o.op = .call { callee := .builtin .append, args := #[s, x], argTypes := #[96, 96] })
    (base : Nat) (v : Value) (l : List (Int × Int)) (n z : Int) (g c : Nat) (hs : a.eval s = v) (hown : OwnShares w base v l) (hx : a.eval x = .slice (some ⟨g, 0, none⟩) 1 c)
    (hc : w.cell? ⟨g, 0, none⟩ = some (.int .i64 n)) (hc2 : w.cell? ⟨g, 1, none⟩ = some (.int .u64 z)) (hn : I64 n) (hz : U64 z) (hl : l.length + 1 ≤ 8796093022208) (hb : base ≤ w.heap.size)
    (h : ∀ v' w', OwnShares w' base v' (l ++ [(n, z)]) → Below base w w' → wpList Tryd.prog ops Q rest (a.put o.dst v') w') : wpList Tryd.prog ops Q (o :: rest) a w := by
  obtain ⟨i0, hi, hz0, hz1, hz2⟩ := info_parts sinfo
  refine wpList_append_own w hgd s x 96 ho base 98 i0 (.agg #[.int .i64 0, .int .u64 0]) 2 16 Tryd.underlying96 hi hz0 hz1 hz2 rfl (by decide) v l.length (shs l) hs hown.1 ⟨g, 0, none⟩ 1 c [.int .i64 n, .int .u64 z] hx rfl ?_ ?_ ?_ ?_ hb ?_
  · intro j u hu
    match j, hu with
    | 0, hu =>
      simp at hu
      subst hu
      rw [add_addr]; exact hc
    | 1, hu =>
      simp at hu
      subst hu
      rw [add_addr]; exact hc2
  · intro u hu
    simp at hu
    rcases hu with rfl | rfl <;> rfl
  · unfold maxLen; omega
  · omega
  · intro v' w' h1 h2 _
    refine h v' w' ⟨?_, ?_, ?_⟩ ((Below.refl _ _).grown h2 hb (fun k hk => (hown.1.lt k hk).1))
    · have e : (l ++ [(n, z)]).length = l.length + 1 := by simp
      rw [e, shs_snoc]; exact h1
    · simpa using hl
    · intro y hy
      rcases List.mem_append.1 hy with h3 | h3
      · exact hown.2.2 y h3
      · simp at h3; subst h3; exact ⟨hn, hz⟩
/-- shares written out are the call's own -/
theorem lit_shares (w : World) (base : Nat) (l : List (Int × Int)) (h : ∀ s ∈ l, I64 s.1 ∧ U64 s.2) (hl : l.length ≤ 1000) (hb : base ≤ w.heap.size) : OwnShares (w.alloc (.cells (shs l).toArray 98)) base (.slice (some ⟨w.heap.size, 0, none⟩) l.length l.length) l := by
  refine ⟨⟨shs_length l, .inr ⟨w.heap.size, l.length, (shs l).toArray, rfl, hb, heap_alloc_new w _, Nat.le_refl _, by unfold maxLen; omega, by simp [shs_length], ?_⟩⟩, by omega, h⟩
  exact List.take_of_length_le (by simp [shs_length])
end Go.Proofs.YtljpangeodgbkaaDoor
