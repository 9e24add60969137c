/- Helpers of the keeps: what each returns. -/
import Derived.Test.YtljpangeodgbkaaDoorPolyD
import Derived.WalkLawsBesides
namespace Go.Proofs.YtljpangeodgbkaaDoor
open Go.RowKit Croft
theorem Cells.take {w : World} {A : Option Addr} {cs : List Value} (h : Cells w A cs) (n : Nat) : Cells w A (cs.take n) := by
  rcases h with rfl | ⟨b, o, rfl, hb, hc⟩
  · exact .inl (by simp)
  · refine .inr ⟨b, o, rfl, hb, fun j hj => ?_⟩
    simp only [List.length_take] at hj
    rw [hc j (by omega), List.getElem?_take, if_pos (by omega)]
theorem u64s_take (zs : List Int) (n : Nat) : u64s (zs.take n) = (u64s zs).take n := by simp [u64s, List.map_take]
/-- numbers that are written out -/
theorem lit_nums (w : World) (zs : List Int) (h : ∀ z ∈ zs, U64 z) (hl : zs.length ≤ 1000) : IsNums (w.alloc (.cells (u64s zs).toArray 46)) (.slice (some ⟨w.heap.size, 0, none⟩) zs.length zs.length) zs := by
  refine ⟨_, _, rfl, Nat.le_refl _, by unfold maxLen; omega, by omega, h, .inr ⟨_, 0, rfl, by simp, fun j hj => ?_⟩⟩
  rw [Nat.zero_add, cell_of_row _ _ j _ _ (0, 0) (heap_alloc_new w _)]
  simp
theorem div_unique {B Q R Q' R' : List F} (hB : B ≠ []) (hnB : pnorm B = B) (hQ : pnorm Q = Q) (hR : pnorm R = R) (hQ' : pnorm Q' = Q') (hR' : pnorm R' = R') (hl : R.length < B.length) (hl' : R'.length < B.length)
    (h : pnorm (padd (pmulS Q B) R) = pnorm (padd (pmulS Q' B) R')) : Q = Q' ∧ R = R' := by
  have hco : ∀ k, co (pmulS Q B) k + co R k = co (pmulS Q' B) k + co R' k := fun k => by
    rw [← co_add, ← co_add, ← pnorm_co, h, pnorm_co]
  have hd : pnorm (padd Q (pscale (-1) Q')) = [] := by
    by_cases hne : pnorm (padd Q (pscale (-1) Q')) = []
    · exact hne
    · exfalso
      have hn := pnorm_norm (padd Q (pscale (-1) Q'))
      have hco2 : ∀ i, co (pnorm (padd Q (pscale (-1) Q'))) i = co Q i - co Q' i := fun i => by rw [pnorm_co, co_add, co_scale]; grind
      generalize pnorm (padd Q (pscale (-1) Q')) = D at *
      have hpn := pmulS_normal hn hnB
      have hlen : (pmulS D B).length = D.length + B.length - 1 := by rw [pmulS_length, if_neg (by simp [hne, hB])]
      have hDl := List.length_pos_iff.2 hne
      have hne2 : pmulS D B ≠ [] := by intro e; rw [e] at hlen; simp at hlen; omega
      have hf := pnorm_full hpn hne2
      have hz : co (pmulS D B) ((pmulS D B).length - 1) = co R' ((pmulS D B).length - 1) - co R ((pmulS D B).length - 1) := by
        have e : co (pmulS D B) ((pmulS D B).length - 1) = co (pmulS Q B) ((pmulS D B).length - 1) - co (pmulS Q' B) ((pmulS D B).length - 1) := by
          generalize (pmulS D B).length - 1 = k
          rw [co_mulS, co_mulS, co_mulS]
          have : ∀ i, co D i * co B (k - i) = co Q i * co B (k - i) + (-1) * (co Q' i * co B (k - i)) := fun i => by rw [hco2]; grind
          rw [fsum_congr (fun i _ => this i), fsum_add, fsum_mul]; grind
        have := hco ((pmulS D B).length - 1)
        rw [e]; grind
      rw [co_of_le (l := R') (by omega), co_of_le (l := R) (by omega), F_sz] at hz
      exact hf hz
  have hQQ : Q = Q' := by
    rw [← hQ, ← hQ']
    apply pnorm_ext
    intro i
    have := Zero.iff_co.1 ((pnorm_nil_iff _).1 hd) i
    rw [co_add, co_scale] at this
    grind
  refine ⟨hQQ, ?_⟩
  subst hQQ
  rw [← hR, ← hR']
  apply pnorm_ext
  intro i
  have := hco i
  grind
/-- the rest by a number is the value there -/
theorem div_rest {A Q R : List F} {x : F} (h : DivOut A [-x, 1] Q R) : R = pnorm [peval A x] := by
  have hl : R.length ≤ 1 := by have := h.short; simp at this; omega
  have he : peval A x = peval R x := by
    rw [← h.eq, pnorm_eval, peval_add, peval_mulS]
    have : peval [-x, 1] x = 0 := by simp only [peval, F_mz, F_az]; grind
    rw [this, F_mz, F_za]
  have hn := h.nr
  rw [he]
  clear he h
  match R, hl, hn with
  | [], _, _ =>
    simp only [peval, pnorm]
    rw [if_pos (by simp)]
  | [r], _, hn =>
    simp only [peval, F_mz, F_az]
    exact hn.symm
end Go.Proofs.YtljpangeodgbkaaDoor
