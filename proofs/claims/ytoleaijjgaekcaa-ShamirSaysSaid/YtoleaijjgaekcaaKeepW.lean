/- Helpers of the keeps: what each returns. -/
import Derived.Test.YtoleaijjgaekcaaPolyD
import Derived.WalkLawsBesides
namespace Go.Proofs.Ytoleaijjgaekcaa
open Go.RowKit Croft
theorem Cells.take {w : World} {A : Option Addr} {cs : List Value} (h : Cells w A cs) (n : Nat) : Cells w A (cs.take n) := by
  rcases h with rfl | ⟨b, o, rfl, hb, hc⟩
  · exact .inl (by simp)
  · refine .inr ⟨b, o, rfl, hb, fun j hj => ?_⟩
    simp only [List.length_take] at hj
    rw [hc j (by omega), List.getElem?_take, if_pos (by omega)]
theorem u64s_take (zs : List Int) (n : Nat) : u64s (zs.take n) = (u64s zs).take n := by simp [u64s, List.map_take]
theorem kShort_any (va : Value) (zs : List Int) (n : Int) (w : World) (h1 : IsNums w va zs) (hn : 0 ≤ n) :
    Calls Try.prog 15 #[va, .int .i64 n] w fun e w' => ∃ v, e = .returned v ∧ IsNums w v (zs.take n.toNat) ∧ w = w' := by
  obtain ⟨A1, c1, rfl, hc1, hm1, hl1, hu1, hr1⟩ := h1
  have hm1' : c1 ≤ 9223372036854775807 := by unfold maxLen at hm1; exact hm1
  by_cases h : n ≤ zs.length
  · have hm : min n (zs.length : Int) = n := by omega
    have hl : (zs.take n.toNat).length = n.toNat := by simp; omega
    have HR := Lib.hid (show IsNums w (.slice A1 n.toNat c1) (zs.take n.toNat) from ⟨A1, c1, by rw [hl], by rw [hl]; omega, hm1, by rw [hl]; omega, fun z hz => hu1 z (List.mem_of_mem_take hz), by rw [u64s_take]; exact hr1.take _⟩)
    clear hu1 hr1 hl
    go_enter Try.func15, Try.ntmps15
    go_wp2_with fail
    go_ret
    exact ⟨_, rfl, HR.out, rfl⟩
  · have hm : min n (zs.length : Int) = (zs.length : Int) := by omega
    have HR := Lib.hid (show IsNums w (.slice A1 zs.length c1) (zs.take n.toNat) from by
      rw [List.take_of_length_le (by omega)]
      exact ⟨A1, c1, rfl, hc1, hm1, hl1, hu1, hr1⟩)
    clear hu1 hr1
    go_enter Try.func15, Try.ntmps15
    go_wp2_with fail
    go_ret
    exact ⟨_, rfl, HR.out, rfl⟩
/-- numbers that are written out -/
theorem lit_nums (w : World) (zs : List Int) (h : ∀ z ∈ zs, U64 z) (hl : zs.length ≤ 1000) : IsNums (w.alloc (.cells (u64s zs).toArray 24)) (.slice (some ⟨w.heap.size, 0, none⟩) zs.length zs.length) zs := by
  refine ⟨_, _, rfl, Nat.le_refl _, by unfold maxLen; omega, by omega, h, .inr ⟨_, 0, rfl, by simp, fun j hj => ?_⟩⟩
  rw [Nat.zero_add, cell_of_row _ _ j _ _ (0, 0) (heap_alloc_new w _)]
  simp
theorem div_unique {B Q R Q' R' : List F} (hB : B ≠ []) (hnB : pnorm B = B) (hQ : pnorm Q = Q) (hR : pnorm R = R) (hQ' : pnorm Q' = Q') (hR' : pnorm R' = R') (hl : R.length < B.length) (hl' : R'.length < B.length)
    (h : pnorm (padd (pmulS Q B) R) = pnorm (padd (pmulS Q' B) R')) : Q = Q' ∧ R = R' := by
  have hco : ∀ k, co (pmulS Q B) k + co R k = co (pmulS Q' B) k + co R' k := fun k => by
    rw [← co_add, ← co_add, ← pnorm_co, h, pnorm_co]
  have hd : pnorm (padd Q (pscale (-1) Q')) = [] := by
    by_cases hne : pnorm (padd Q (pscale (-1) Q')) = []
    · exact hne
    · exfalso
      have hn := pnorm_norm (padd Q (pscale (-1) Q'))
      have hco2 : ∀ i, co (pnorm (padd Q (pscale (-1) Q'))) i = co Q i - co Q' i := fun i => by rw [pnorm_co, co_add, co_scale]; grind
      generalize pnorm (padd Q (pscale (-1) Q')) = D at *
      have hpn := pmulS_normal hn hnB
      have hlen : (pmulS D B).length = D.length + B.length - 1 := by rw [pmulS_length, if_neg (by simp [hne, hB])]
      have hDl := List.length_pos_iff.2 hne
      have hne2 : pmulS D B ≠ [] := by intro e; rw [e] at hlen; simp at hlen; omega
      have hf := pnorm_full hpn hne2
      have hz : co (pmulS D B) ((pmulS D B).length - 1) = co R' ((pmulS D B).length - 1) - co R ((pmulS D B).length - 1) := by
        have e : co (pmulS D B) ((pmulS D B).length - 1) = co (pmulS Q B) ((pmulS D B).length - 1) - co (pmulS Q' B) ((pmulS D B).length - 1) := by
          generalize (pmulS D B).length - 1 = k
          rw [co_mulS, co_mulS, co_mulS]
          have : ∀ i, co D i * co B (k - i) = co Q i * co B (k - i) + (-1) * (co Q' i * co B (k - i)) := fun i => by rw [hco2]; grind
          rw [fsum_congr (fun i _ => this i), fsum_add, fsum_mul]; grind
        have := hco ((pmulS D B).length - 1)
        rw [e]; grind
      rw [co_of_le (l := R') (by omega), co_of_le (l := R) (by omega), F_sz] at hz
      exact hf hz
  have hQQ : Q = Q' := by
    rw [← hQ, ← hQ']
    apply pnorm_ext
    intro i
    have := Zero.iff_co.1 ((pnorm_nil_iff _).1 hd) i
    rw [co_add, co_scale] at this
    grind
  refine ⟨hQQ, ?_⟩
  subst hQQ
  rw [← hR, ← hR']
  apply pnorm_ext
  intro i
  have := hco i
  grind
/-- the rest by a number is the value there -/
theorem div_rest {A Q R : List F} {x : F} (h : DivOut A [-x, 1] Q R) : R = pnorm [peval A x] := by
  have hl : R.length ≤ 1 := by have := h.short; simp at this; omega
  have he : peval A x = peval R x := by
    rw [← h.eq, pnorm_eval, peval_add, peval_mulS]
    have : peval [-x, 1] x = 0 := by simp only [peval, F_mz, F_az]; grind
    rw [this, F_mz, F_za]
  have hn := h.nr
  rw [he]
  clear he h
  match R, hl, hn with
  | [], _, _ =>
    simp only [peval, pnorm]
    rw [if_pos (by simp)]
  | [r], _, hn =>
    simp only [peval, F_mz, F_az]
    exact hn.symm
end Go.Proofs.Ytoleaijjgaekcaa
