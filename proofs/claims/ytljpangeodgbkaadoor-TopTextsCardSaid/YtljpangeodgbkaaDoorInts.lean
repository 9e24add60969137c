/- Lists of whole numbers: how they lie in memory, and how a call builds them. -/
import Derived.Test.YtljpangeodgbkaaDoorShareW
namespace Go.Proofs.YtljpangeodgbkaaDoor
open Go.RowKit Croft

def i64s (zs : List Int) : List Value := zs.map (Value.int .i64)
theorem i64s_length (zs : List Int) : (i64s zs).length = zs.length := by simp [i64s]
theorem i64s_get (zs : List Int) (j : Nat) : (i64s zs)[j]? = (zs[j]?).map (Value.int .i64) := by simp [i64s]
def IsInts (w : World) (v : Value) (zs : List Int) : Prop :=
  ∃ A cap, v = .slice A zs.length cap ∧ zs.length ≤ cap ∧ cap ≤ maxLen ∧ zs.length ≤ 17592186043904 ∧ (∀ z ∈ zs, I64 z) ∧ Cells w A (i64s zs)
theorem IsInts.below {w w' : World} {v : Value} {zs : List Int} (h : IsInts w v zs) (hb : Below w.heap.size w w') : IsInts w' v zs := by
  obtain ⟨A, cap, h1, h2, h3, h4, h5, h6⟩ := h
  exact ⟨A, cap, h1, h2, h3, h4, h5, h6.below hb⟩
theorem IsInts.drewN {w : World} {v : Value} {zs : List Int} (h : IsInts w v zs) (n : Nat) : IsInts (w.drewN n) v zs := h
theorem IsInts.drewn {w wr : World} {v : Value} {zs : List Int} {n : Nat} (h : IsInts w v zs) (hw : wr = w.drewN n) : IsInts wr v zs := by subst hw; exact h
theorem IsInts.alloc {w : World} {v : Value} {zs : List Int} (h : IsInts w v zs) (o : Obj) : IsInts (w.alloc o) v zs := h.below ((Below.refl _ _).alloc (Nat.le_refl _) o)
theorem IsInts.i64 {w : World} {v : Value} {zs : List Int} (h : IsInts w v zs) : ∀ z ∈ zs, I64 z := by
  obtain ⟨A, cap, h1, h2, h3, h4, h5, h6⟩ := h
  exact h5
theorem IsInts.nil (w : World) : IsInts w (.slice none 0 0) [] := ⟨none, 0, rfl, Nat.le_refl _, by simp [maxLen], by simp, by simp, .inl rfl⟩
theorem ints_at {w : World} {A : Option Addr} {zs : List Int} (h : Cells w A (i64s zs)) (h5 : ∀ z ∈ zs, I64 z) {k : Nat} (hk : k < zs.length) :
    ∃ b o z, A = some ⟨b, o, none⟩ ∧ b < w.heap.size ∧ zs[k]? = some z ∧ I64 z ∧ w.cell? ⟨b, o + k, none⟩ = some (.int .i64 z) := by
  obtain ⟨b, o, rfl, hb, hc⟩ := h.at_ (j := k) (by rw [i64s_length]; exact hk)
  have hg : zs[k]? = some zs[k] := List.getElem?_eq_getElem hk
  exact ⟨b, o, zs[k], rfl, hb, hg, h5 _ (List.getElem_mem hk), by rw [hc k (by rw [i64s_length]; exact hk), i64s_get, hg]; rfl⟩
def OwnInts (w : World) (base : Nat) (v : Value) (zs : List Int) : Prop :=
  w.ownsRow base 3 1 v zs.length (i64s zs) ∧ zs.length ≤ 17592186043904 ∧ (∀ z ∈ zs, I64 z)
theorem OwnInts.is {w : World} {base : Nat} {v : Value} {zs : List Int} (h : OwnInts w base v zs) : IsInts w v zs := by
  obtain ⟨h1, h2, h3⟩ := h
  obtain ⟨A, cap, rfl, h4, h5⟩ := own_form h1
  exact ⟨A, cap, rfl, h4, h5, h2, h3, Cells.of_own h1⟩
theorem OwnInts.nil (w : World) (base : Nat) : OwnInts w base (.slice none 0 0) [] := ⟨World.ownsRow_nil _ _ _ _, by simp, by simp⟩
theorem OwnInts.alloc {w : World} {base : Nat} {v : Value} {zs : List Int} (h : OwnInts w base v zs) (o : Obj) : OwnInts (w.alloc o) base v zs := ⟨h.1.alloc o, h.2⟩
theorem OwnInts.drewN {w : World} {base : Nat} {v : Value} {zs : List Int} (h : OwnInts w base v zs) (n : Nat) : OwnInts (w.drewN n) base v zs := h
theorem OwnInts.below {w w' : World} {base : Nat} {v : Value} {zs : List Int} (h : OwnInts w base v zs) (hb : Below w.heap.size w w') : OwnInts w' base v zs := ⟨own_kept h.1 hb, h.2⟩
theorem OwnInts.less {w : World} {base base' : Nat} {v : Value} {zs : List Int} (h : OwnInts w base v zs) (hb : base' ≤ base) : OwnInts w base' v zs := by
  refine ⟨⟨h.1.1, ?_⟩, h.2⟩
  rcases h.1.2 with h1 | ⟨g, cap, cur, hv, hg, r⟩
  · exact .inl h1
  · exact .inr ⟨g, cap, cur, hv, by omega, r⟩
theorem iinfo : (Tryd.prog.info? 3).map (fun i => (i.zero, i.size, i.bytes)) = some (some (.int .i64 0), 1, 8) := by kernel_rfl
/-- append of one number, to what the call has built -/
theorem wpList_push_int {ops : Array Oper} {rest : List Oper} {o : Oper} {a : Act} {Q : Exit → Act → World → Prop} {w : World} (hgd : o.guard = none) (s x : Operand)
    (ho : o.op = .call { callee := .builtin .append, args := #[s, x], argTypes := #[23, 23] })
    (base : Nat) (v : Value) (zs : List Int) (z : Int) (g c : Nat) (hs : a.eval s = v) (hown : OwnInts w base v zs) (hx : a.eval x = .slice (some ⟨g, 0, none⟩) 1 c)
    (hc : w.cell? ⟨g, 0, none⟩ = some (.int .i64 z)) (hz : I64 z) (hl : zs.length + 1 ≤ 17592186043904) (hb : base ≤ w.heap.size)
    (h : ∀ v' w', OwnInts w' base v' (zs ++ [z]) → Below base w w' → wpList Tryd.prog ops Q rest (a.put o.dst v') w') : wpList Tryd.prog ops Q (o :: rest) a w := by
  obtain ⟨i0, hi, hz0, hz1, hz2⟩ := info_parts iinfo
  refine wpList_append_own w hgd s x 23 ho base 3 i0 (.int .i64 0) 1 8 Tryd.underlying23 hi hz0 hz1 hz2 rfl (by decide) v zs.length (i64s zs) hs hown.1 ⟨g, 0, none⟩ 1 c [.int .i64 z] hx rfl ?_ ?_ ?_ ?_ hb ?_
  · intro j u hu
    match j, hu with
    | 0, hu =>
      simp at hu
      subst hu
      rw [add_addr]; exact hc
  · intro u hu
    simp at hu
    subst hu; rfl
  · unfold maxLen; omega
  · omega
  · intro v' w' h1 h2 _
    refine h v' w' ⟨?_, ?_, ?_⟩ ((Below.refl _ _).grown h2 hb (fun k hk => (hown.1.lt k hk).1))
    · have e : (zs ++ [z]).length = zs.length + 1 := by simp
      have e2 : i64s (zs ++ [z]) = i64s zs ++ [.int .i64 z] := by simp [i64s]
      rw [e, e2]; exact h1
    · simpa using hl
    · intro y hy
      rcases List.mem_append.1 hy with h3 | h3
      · exact hown.2.2 y h3
      · simp at h3; subst h3; exact hz
end Go.Proofs.YtljpangeodgbkaaDoor
