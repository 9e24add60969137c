/- The laws on numbers, walked: Names, FieldSays, FieldLaws. -/
import Derived.Test.YtnojmphggdndmaaFieldW
namespace Go.Proofs.Ytnojmphggdndmaa
open Go.RowKit Croft
theorem U64.of_wf {a : Int} (h : (Lit.int .u64 a).wf = true) : U64 a := by
  have h1 : IntKind.u64.min = 0 := rfl
  have h2 : IntKind.u64.max = 18446744073709551615 := rfl
  simp only [Lit.wf, Bool.and_eq_true, decide_eq_true_eq] at h
  unfold U64
  omega
theorem fieldSays_any (a b n : Int) (w : World) (ha : U64 a) (hb : U64 b) (hn : U64 n) :
    Calls Try.prog 4 #[.int .u64 a, .int .u64 b, .int .u64 n] w fun e w' => e = .returned (.bool true) ∧ Below w.heap.size w w' := by
  have ha0 := ha.1; have hb0 := hb.1
  have hs : toF a + - toF b = toF a - toF b := by grind
  have HS := Lib.hid hs
  clear hs
  by_cases h : toF a = 0
  · have h0 : ofF (toF a) = 0 := by rw [h]; rfl
    have h1 : zErr (toF a) = 1 := by rw [h]; rfl
    have h2 : ofF (inv (toF a)) = 0 := by rw [h, inv_zero]; rfl
    clear h
    go_enter Try.func4, Try.ntmps4
    go_wp2_with fail
    refine (fInv_any _ _ ha0).mono ?_
    rintro e w' ⟨rfl, rfl⟩
    rw [h1, h2]
    go_wp2_with fail
    refine (rNorm_any _ _ ha).mono ?_
    rintro e w' ⟨rfl, rfl⟩
    rw [h0]
    go_wp2_with fail
    refine (fNorm_any _ _ ha0).mono ?_
    rintro e w' ⟨rfl, rfl⟩
    go_wp2_with fail
    refine (rNorm_any _ _ ha).mono ?_
    rintro e w' ⟨rfl, rfl⟩
    go_wp2_with fail
    refine (fAdd_any _ _ _ ha0 hb0).mono ?_
    rintro e w' ⟨rfl, rfl⟩
    go_wp2_with fail
    refine (rAdd_any _ _ _ ha hb).mono ?_
    rintro e w' ⟨rfl, rfl⟩
    go_wp2_with fail
    refine (fSub_any _ _ _ ha0 hb0).mono ?_
    rintro e w' ⟨rfl, rfl⟩
    go_wp2_with fail
    refine (rNeg_any _ _ hb).mono ?_
    rintro e w' ⟨rfl, rfl⟩
    go_wp2_with fail
    refine (rAdd_any _ _ _ ha (U64.of_ofF _)).mono ?_
    rintro e w' ⟨rfl, rfl⟩
    rw [toF_ofF, HS.out]
    go_wp2_with fail
    refine (fMul_any _ _ _ ha0 hb0).mono ?_
    rintro e w' ⟨rfl, rfl⟩
    go_wp2_with fail
    refine (rMul_any _ _ _ ha hb).mono ?_
    rintro e w' ⟨rfl, rfl⟩
    go_wp2_with fail
    refine (fPow_any _ _ _ ha0 hn).mono ?_
    rintro e w' ⟨rfl, rfl⟩
    go_wp2_with fail
    refine (rPow_any _ _ _ ha hn).mono ?_
    rintro e w' ⟨rfl, rfl⟩
    go_wp2_with fail
    go_ret
    exact ⟨rfl, Below.refl _ _⟩
  · have h0 : (ofF (toF a) != 0) = true := by rw [bne_iff_ne]; exact fun hh => h (ofF_inj hh)
    have h1 : zErr (toF a) = 0 := by unfold zErr; rw [if_neg h]
    clear h
    go_enter Try.func4, Try.ntmps4
    go_wp2_with fail
    refine (fInv_any _ _ ha0).mono ?_
    rintro e w' ⟨rfl, rfl⟩
    rw [h1]
    go_wp2_with fail
    refine (rNorm_any _ _ ha).mono ?_
    rintro e w' ⟨rfl, rfl⟩
    go_wp2_with fail
    refine (rInv_any _ _ ha).mono ?_
    rintro e w' ⟨rfl, rfl⟩
    go_wp2_with fail
    refine (fNorm_any _ _ ha0).mono ?_
    rintro e w' ⟨rfl, rfl⟩
    go_wp2_with fail
    refine (rNorm_any _ _ ha).mono ?_
    rintro e w' ⟨rfl, rfl⟩
    go_wp2_with fail
    refine (fAdd_any _ _ _ ha0 hb0).mono ?_
    rintro e w' ⟨rfl, rfl⟩
    go_wp2_with fail
    refine (rAdd_any _ _ _ ha hb).mono ?_
    rintro e w' ⟨rfl, rfl⟩
    go_wp2_with fail
    refine (fSub_any _ _ _ ha0 hb0).mono ?_
    rintro e w' ⟨rfl, rfl⟩
    go_wp2_with fail
    refine (rNeg_any _ _ hb).mono ?_
    rintro e w' ⟨rfl, rfl⟩
    go_wp2_with fail
    refine (rAdd_any _ _ _ ha (U64.of_ofF _)).mono ?_
    rintro e w' ⟨rfl, rfl⟩
    rw [toF_ofF, HS.out]
    go_wp2_with fail
    refine (fMul_any _ _ _ ha0 hb0).mono ?_
    rintro e w' ⟨rfl, rfl⟩
    go_wp2_with fail
    refine (rMul_any _ _ _ ha hb).mono ?_
    rintro e w' ⟨rfl, rfl⟩
    go_wp2_with fail
    refine (fPow_any _ _ _ ha0 hn).mono ?_
    rintro e w' ⟨rfl, rfl⟩
    go_wp2_with fail
    refine (rPow_any _ _ _ ha hn).mono ?_
    rintro e w' ⟨rfl, rfl⟩
    go_wp2_with fail
    go_ret
    exact ⟨rfl, Below.refl _ _⟩
theorem names_any (w : World) : Calls Try.prog 3 #[] w fun e w' => e = .returned (.bool true) ∧ Below w.heap.size w w' := by
  go_enter Try.func3, Try.ntmps3
  go_wp2_with fail
  refine wp_loop_rounds 8 ?_
  rw [rounds_succ]
  go_wp2_with fail
  rw [rounds_succ]
  go_wp2_with fail
  rw [rounds_succ]
  go_wp2_with fail
  rw [rounds_succ]
  go_wp2_with fail
  rw [rounds_succ]
  go_wp2_with fail
  rw [rounds_succ]
  go_wp2_with fail
  rw [rounds_succ]
  go_wp2_with fail
  rw [rounds_succ]
  go_wp2_with fail
  go_ret
  exact ⟨rfl, (Below.refl _ _).alloc (Nat.le_refl _) _⟩
theorem half_two : ofF (toF 1073741824 * toF 2) = 1 := by rw [← toF_mul, ofF_toF]; rfl
theorem minus_one : ofF (toF 0 - toF 1) = 2147483646 := by rw [← toF_sub, ofF_toF]; rfl
theorem fpow_P (a : F) : fpow a 2147483647 = a := F_fermat a
theorem fieldLaws_any (a b c : Int) (w : World) (ha : U64 a) (hb : U64 b) (hc : U64 c) :
    Calls Try.prog 5 #[.int .u64 a, .int .u64 b, .int .u64 c] w fun e w' => e = .returned (.bool true) ∧ Below w.heap.size w w' := by
  have ha0 := ha.1; have hb0 := hb.1; have hc0 := hc.1
  have A1 := Lib.hid (show toF b + toF a = toF a + toF b by grind)
  have A2 := Lib.hid (show toF b * toF a = toF a * toF b by grind)
  have A3 := Lib.hid (show toF a - toF b + toF b = toF a by grind)
  have A4 := Lib.hid (show toF a * toF 1 = toF a by rw [toF_one, F_mo])
  have A5 := Lib.hid (show toF a * toF b * toF c = toF a * (toF b * toF c) by grind)
  have A6 := Lib.hid (show toF a * toF b + toF a * toF c = toF a * (toF b + toF c) by grind)
  have walk : ∀ W : World, (zErr (toF a) = 1 ∧ ofF (toF a) = 0 ∨ zErr (toF a) = 0 ∧ ofF (toF a * inv (toF a)) = 1) → Calls Try.prog 5 #[.int .u64 a, .int .u64 b, .int .u64 c] W fun e w' => e = .returned (.bool true) ∧ Below W.heap.size W w' := by
    intro W hz
    have HZ := Lib.hid hz
    clear hz
    go_enter Try.func5, Try.ntmps5
    go_wp2_with fail
    refine (fMul_any _ _ _ (by omega) (by omega)).mono ?_
    rintro e w' ⟨rfl, rfl⟩
    rw [half_two]
    go_wp2_with fail
    refine (fSub_any _ _ _ (by omega) (by omega)).mono ?_
    rintro e w' ⟨rfl, rfl⟩
    rw [minus_one]
    go_wp2_with fail
    refine (fAdd_any _ _ _ ha0 hb0).mono ?_
    rintro e w' ⟨rfl, rfl⟩
    go_wp2_with fail
    refine (fAdd_any _ _ _ hb0 ha0).mono ?_
    rintro e w' ⟨rfl, rfl⟩
    rw [A1.out]
    go_wp2_with fail
    refine (fMul_any _ _ _ ha0 hb0).mono ?_
    rintro e w' ⟨rfl, rfl⟩
    go_wp2_with fail
    refine (fMul_any _ _ _ hb0 ha0).mono ?_
    rintro e w' ⟨rfl, rfl⟩
    rw [A2.out]
    go_wp2_with fail
    refine (fSub_any _ _ _ ha0 hb0).mono ?_
    rintro e w' ⟨rfl, rfl⟩
    go_wp2_with fail
    refine (fAdd_any _ _ _ (ofF_nonneg _) hb0).mono ?_
    rintro e w' ⟨rfl, rfl⟩
    rw [toF_ofF, A3.out]
    go_wp2_with fail
    refine (fNorm_any _ _ ha0).mono ?_
    rintro e w' ⟨rfl, rfl⟩
    go_wp2_with fail
    refine (fMul_any _ _ _ ha0 (by omega)).mono ?_
    rintro e w' ⟨rfl, rfl⟩
    rw [A4.out]
    go_wp2_with fail
    refine (fNorm_any _ _ ha0).mono ?_
    rintro e w' ⟨rfl, rfl⟩
    go_wp2_with fail
    refine (fMul_any _ _ _ hb0 hc0).mono ?_
    rintro e w' ⟨rfl, rfl⟩
    go_wp2_with fail
    refine (fMul_any _ _ _ ha0 (ofF_nonneg _)).mono ?_
    rintro e w' ⟨rfl, rfl⟩
    rw [toF_ofF]
    go_wp2_with fail
    refine (fMul_any _ _ _ ha0 hb0).mono ?_
    rintro e w' ⟨rfl, rfl⟩
    go_wp2_with fail
    refine (fMul_any _ _ _ (ofF_nonneg _) hc0).mono ?_
    rintro e w' ⟨rfl, rfl⟩
    rw [toF_ofF, A5.out]
    go_wp2_with fail
    refine (fAdd_any _ _ _ hb0 hc0).mono ?_
    rintro e w' ⟨rfl, rfl⟩
    go_wp2_with fail
    refine (fMul_any _ _ _ ha0 (ofF_nonneg _)).mono ?_
    rintro e w' ⟨rfl, rfl⟩
    rw [toF_ofF]
    go_wp2_with fail
    refine (fMul_any _ _ _ ha0 hb0).mono ?_
    rintro e w' ⟨rfl, rfl⟩
    go_wp2_with fail
    refine (fMul_any _ _ _ ha0 hc0).mono ?_
    rintro e w' ⟨rfl, rfl⟩
    go_wp2_with fail
    refine (fAdd_any _ _ _ (ofF_nonneg _) (ofF_nonneg _)).mono ?_
    rintro e w' ⟨rfl, rfl⟩
    rw [toF_ofF, toF_ofF, A6.out]
    go_wp2_with fail
    refine (fPow_any _ _ _ ha0 ⟨by omega, by omega⟩).mono ?_
    rintro e w' ⟨rfl, rfl⟩
    rw [fpow_P]
    go_wp2_with fail
    refine (fNorm_any _ _ ha0).mono ?_
    rintro e w' ⟨rfl, rfl⟩
    go_wp2_with fail
    refine (fInv_any _ _ ha0).mono ?_
    rintro e w' ⟨rfl, rfl⟩
    rcases HZ.out with ⟨hz, h0⟩ | ⟨hz, h1⟩
    · rw [hz]
      clear hz
      go_wp2_with fail
      refine (fNorm_any _ _ ha0).mono ?_
      rintro e w' ⟨rfl, rfl⟩
      rw [h0]
      go_wp2_with fail
      go_ret
      exact ⟨rfl, Below.refl _ _⟩
    · rw [hz]
      clear hz
      go_wp2_with fail
      refine (fMul_any _ _ _ ha0 (ofF_nonneg _)).mono ?_
      rintro e w' ⟨rfl, rfl⟩
      rw [toF_ofF, h1]
      go_wp2_with fail
      go_ret
      exact ⟨rfl, Below.refl _ _⟩
  by_cases h : toF a = 0
  · exact walk w (.inl ⟨by rw [h]; rfl, by rw [h]; rfl⟩)
  · exact walk w (.inr ⟨by unfold zErr; rw [if_neg h], by rw [mul_inv h]; rfl⟩)
end Go.Proofs.Ytnojmphggdndmaa
