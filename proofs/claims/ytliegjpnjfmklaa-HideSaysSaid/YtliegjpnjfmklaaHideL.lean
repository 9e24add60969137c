/- What is wanted for the law HideSays. -/
import Derived.Test.YtliegjpnjfmklaaHideT
import Derived.Test.YtliegjpnjfmklaaHideB
import Derived.Test.YtliegjpnjfmklaaGridP
import Derived.Deep.RegionHeld3
namespace Go.Proofs.Ytliegjpnjfmklaa
open Go.RowKit Croft

/-- append of one number, at a step of a region that draws -/
theorem step_push {ops : Array Oper} {o : Oper} {a : Act} {K : Act → World → Prop} {Q : Exit → Act → World → Prop} {E : Prop} {w : World} (hgd : o.guard = none) (s x : Operand)
    (ho : o.op = .call { callee := .builtin .append, args := #[s, x], argTypes := #[26, 26] })
    (base : Nat) (v : Value) (zs : List Int) (z : Int) (g c : Nat) (hs : a.eval s = v) (hown : OwnNums w base v zs) (hx : a.eval x = .slice (some ⟨g, 0, none⟩) 1 c)
    (hc : w.cell? ⟨g, 0, none⟩ = some (.int .u64 z)) (hz : U64 z) (hl : zs.length + 1 ≤ 17592186043904) (hb : base ≤ w.heap.size)
    (h : ∀ b cap w', OwnNums w' base (.slice (some ⟨b, 0, none⟩) (zs.length + 1) cap) (zs ++ [z]) → Below base w w' → K (a.put o.dst (.slice (some ⟨b, 0, none⟩) (zs.length + 1) cap)) w') : if Region.wanted o (yielded ops a.tmps) = true then Oper.wp Try.prog o a w K Q else E := by
  obtain ⟨i0, hi, hz0, hz1, hz2⟩ := info_parts uinfo
  refine step_append_lies w hgd s x 26 ho base 40 i0 (.int .u64 0) 1 8 Try.underlying26 hi hz0 hz1 hz2 rfl (by decide) v zs.length (u64s zs) hs hown.1 ⟨g, 0, none⟩ 1 c [.int .u64 z] hx rfl ?_ ?_ (by omega) ?_ ?_ hb _ rfl ?_
  · intro j u hu
    match j, hu with
    | 0, hu =>
      simp at hu
      subst hu
      rw [add_addr]; exact hc
  · intro u hu
    simp at hu
    subst hu; rfl
  · unfold maxLen; omega
  · omega
  · intro b cap w' h1 h2 _ _
    refine h b cap w' ⟨?_, by simpa using hl, fun y hy => ?_⟩ ((Below.refl _ _).grown h2 hb (fun k hk => (hown.1.lt k hk).1))
    · have e : (zs ++ [z]).length = zs.length + 1 := by simp
      have e2 : u64s (zs ++ [z]) = u64s zs ++ [.int .u64 z] := by simp [u64s]
      rw [e, e2]; exact h1
    · rcases List.mem_append.1 hy with h5 | h5
      · exact hown.2.2 y h5
      · simp at h5; subst h5; exact hz
theorem off_pos' (t : Nat) (ht : t < 5) (i : Nat) (hi : i < 5) (m : Nat) (hm : m < 5) (h : i + m ≤ t) : off t i + m = 0 ↔ i + m = 0 := by
  have h5 : ∀ t i m : Fin 5, i.1 + m.1 ≤ t.1 → (off t.1 i.1 + m.1 = 0 ↔ i.1 + m.1 = 0) := by decide
  exact h5 ⟨t, ht⟩ ⟨i, hi⟩ ⟨m, hm⟩ h
theorem F_addneg (x y : F) : x + - y = x - y := by grind
end Go.Proofs.Ytliegjpnjfmklaa
