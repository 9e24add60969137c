/- A list of shares copied, and shares picked out of it: what the calls return. -/
import Derived.Test.YtegmeepogjijiaaPickW
import Derived.Lib.SliceRun
namespace Go.Proofs.Ytegmeepogjijiaa
open Go.RowKit Croft

theorem IsShares.cells {w : World} {v : Value} {l : List (Int × Int)} (h : IsShares w v l) : ∀ s ∈ l, I64 s.1 ∧ U64 s.2 := by
  obtain ⟨_, _, _, _, _, _, h5, _⟩ := h
  exact h5
theorem shs_one (l : List (Int × Int)) : ∀ u ∈ shs l, u.oneCell' = true := by
  intro u hu
  unfold shs at hu
  obtain ⟨s, _, hs⟩ := List.mem_flatMap.1 hu
  simp at hs
  rcases hs with rfl | rfl <;> rfl
theorem wpList_join_shares {ops : Array Oper} {rest : List Oper} {o : Oper} {a : Act} {Q : Exit → Act → World → Prop} {w : World} (hgd : o.guard = none) (s x : Operand)
    (ho : o.op = .call { callee := .builtin .append, args := #[s, x], argTypes := #[93, 93] })
    (base : Nat) (v y : Value) (ds : List (Int × Int)) (hs : a.eval s = v) (hown : OwnShares w base v []) (hx : a.eval x = y) (hy : IsShares w y ds) (hp : 0 < ds.length)
    (hb : base ≤ w.heap.size)
    (h : ∀ v' w', OwnShares w' base v' ds → Below base w w' → wpList Try.prog ops Q rest (a.put o.dst v') w') : wpList Try.prog ops Q (o :: rest) a w := by
  obtain ⟨i0, hi, hz0, hz1, hz2⟩ := info_parts sinfo
  have hcs := hy.cells
  obtain ⟨A, cap, rfl, k1, k2, k3, k4, k5⟩ := hy
  cases A with
  | none =>
    rcases k5 with k5 | ⟨b, o, k5, _⟩
    · have := congrArg List.length k5
      rw [shs_length] at this
      simp at this
      omega
    · cases k5
  | some ad =>
    refine wpList_append_own w hgd s x 93 ho base 95 i0 (.agg #[.int .i64 0, .int .u64 0]) 2 16 Try.underlying93 hi hz0 hz1 hz2 rfl (by decide) v 0 (shs []) hs hown.1 ad ds.length cap (shs ds) hx (by rw [shs_length]) ?_ (shs_one ds) ?_ ?_ hb ?_
    · intro j u hu
      rcases k5 with k5 | ⟨b, o, k5, _, hc⟩
      · rw [k5] at hu; simp at hu
      · obtain rfl := Option.some.inj k5
        rw [add_addr, hc j (List.getElem?_eq_some_iff.1 hu).1, hu]
    · unfold maxLen; omega
    · omega
    · intro v' w' h1 h2 _
      refine h v' w' ⟨?_, k3, hcs⟩ ((Below.refl _ _).grown h2 hb (fun k hk => (hown.1.lt k hk).1))
      have e : shs [] ++ shs ds = shs ds := rfl
      rw [e, Nat.zero_add] at h1
      exact h1
theorem OwnShares.under {w w' : World} {B base g n c : Nat} {l : List (Int × Int)} (h : OwnShares w base (.slice (some ⟨g, 0, none⟩) n c) l) (hb : Below B w w') (hg : g < B) : OwnShares w' base (.slice (some ⟨g, 0, none⟩) n c) l := by
  refine ⟨⟨h.1.1, ?_⟩, h.2⟩
  rcases h.1.2 with ⟨hv, _⟩ | ⟨g', cap, cur, hv, h2, h3, h4⟩
  · simp at hv
  · have hgg : g = g' := by injection hv with hv; injection hv with hv; injection hv
    subst hgg
    exact .inr ⟨g, cap, cur, hv, h2, (hb.block g hg).trans h3, h4⟩
theorem OwnShares.kept {w w' : World} {base : Nat} {v : Value} {l : List (Int × Int)} {row : Option Nat} (h : OwnShares w base v l) (hg : w.grownBy w' row) (hne : v.ownBlock = none ∨ v.ownBlock ≠ row) : OwnShares w' base v l := ⟨h.1.kept hg hne, h.2⟩
theorem perm_pick {P L S : List (Int × Int)} {i : Nat} {s : Int × Int} (h : (P ++ L).Perm S) (hi : L[i]? = some s) : ((P ++ [s]) ++ L.eraseIdx i).Perm S := by
  refine List.Perm.trans ?_ h
  rw [List.append_assoc]
  apply List.Perm.append_left
  obtain ⟨hl, hs⟩ := List.getElem?_eq_some_iff.1 hi
  have e : L = L.take i ++ s :: L.drop (i + 1) := by
    rw [← hs, ← List.drop_eq_getElem_cons hl, List.take_append_drop]
  rw [eraseIdx_eq]
  have h2 := (List.perm_middle (a := s) (l₁ := L.take i) (l₂ := L.drop (i + 1))).symm
  rw [← e] at h2
  exact h2
end Go.Proofs.Ytegmeepogjijiaa
