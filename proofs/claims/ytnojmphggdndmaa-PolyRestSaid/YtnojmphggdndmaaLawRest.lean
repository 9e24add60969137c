/- The law PolyRest, walked. -/
import Derived.Test.YtnojmphggdndmaaKeepW
namespace Go.Proofs.Ytnojmphggdndmaa
open Go.RowKit Croft
theorem u64_lit (n : Nat) (h : n < 18446744073709551616) : U64 n := ⟨by omega, by omega⟩
theorem first_div {Q R : List F} (h : DivOut (pnorm (toFs [2147483646, 0, 1])) (pnorm (toFs [1, 1])) Q R) : Q = toFs [2147483646, 1] ∧ R = [] :=
  div_unique (by decide +kernel) (by decide +kernel) h.nq h.nr (by decide +kernel) rfl h.short (by decide +kernel) (by rw [h.eq]; decide +kernel)
theorem ofFs_one : ofFs (toFs [2147483646, 1]) = [2147483646, 1] := by decide +kernel
theorem one_one_ne : pnorm (toFs [1, 1]) ≠ [] := by decide +kernel
theorem lin_ne (x : F) : pnorm [-x, 1] = [-x, 1] := by
  apply normal_of_co
  right
  exact one_ne
theorem F_zs (x : F) : (0 : F) - x = -x := by grind
theorem toFs_lin (x : Int) : toFs [ofF (toF 0 - toF x), 1] = [-toF x, 1] := by
  simp only [toFs, List.map, toF_ofF, toF_one, toF_zero]
  congr 1

set_option maxRecDepth 100000 in
set_option maxHeartbeats 2000000 in
theorem polyRest_any (va vb : Value) (xs ys : List Int) (x : Int) (w : World) (h1 : IsNums w va xs) (h2 : IsNums w vb ys) (hx : U64 x) :
    Calls Try.prog 12 #[va, vb, .int .u64 x] w fun e w' => e = .returned (.bool true) ∧ Below w.heap.size w w' := by
  have KA := Lib.hid h1
  have KB := Lib.hid h2
  have BEL := Lib.hid (Below.refl w.heap.size w)
  have hx0 := hx.1
  clear h1 h2
  go_enter Try.func12, Try.ntmps12
  go_wp2_with fail
  have L10 := lit_nums (w) [2147483646, 0, 1] (by intro z hz; simp only [List.mem_cons, List.not_mem_nil, or_false] at hz; rcases hz with rfl | rfl | rfl <;> first | exact ⟨by omega, by omega⟩ | exact U64.of_ofF _) (by simp)
  simp only [u64s, List.map_cons, List.map_nil, List.length_cons, List.length_nil] at L10
  have hb := (Below.refl (w).heap.size (w)).alloc (Nat.le_refl _) (.cells #[Value.int .u64 2147483646, Value.int .u64 0, Value.int .u64 1] 25)
  replace KA := Lib.hid (KA.out.below hb)
  replace KB := Lib.hid (KB.out.below hb)
  replace BEL := Lib.hid (below_trans BEL.out hb BEL.out.size)
  clear hb
  have L1 := Lib.hid L10
  clear L10
  have L20 := lit_nums ((w).alloc (.cells #[Value.int .u64 2147483646, Value.int .u64 0, Value.int .u64 1] 25)) [1, 1] (by intro z hz; simp only [List.mem_cons, List.not_mem_nil, or_false] at hz; rcases hz with rfl | rfl <;> first | exact ⟨by omega, by omega⟩ | exact U64.of_ofF _) (by simp)
  simp only [u64s, List.map_cons, List.map_nil, List.length_cons, List.length_nil] at L20
  rw [show ((w).alloc (.cells #[Value.int .u64 2147483646, Value.int .u64 0, Value.int .u64 1] 25)).heap.size = w.heap.size + 1 from by simp] at L20
  have hb := (Below.refl ((w).alloc (.cells #[Value.int .u64 2147483646, Value.int .u64 0, Value.int .u64 1] 25)).heap.size ((w).alloc (.cells #[Value.int .u64 2147483646, Value.int .u64 0, Value.int .u64 1] 25))).alloc (Nat.le_refl _) (.cells #[Value.int .u64 1, Value.int .u64 1] 25)
  replace KA := Lib.hid (KA.out.below hb)
  replace KB := Lib.hid (KB.out.below hb)
  replace L1 := Lib.hid (L1.out.below hb)
  replace BEL := Lib.hid (below_trans BEL.out hb BEL.out.size)
  clear hb
  have L2 := Lib.hid L20
  clear L20
  generalize hW : ((w).alloc (.cells #[Value.int .u64 2147483646, Value.int .u64 0, Value.int .u64 1] 25)).alloc (.cells #[Value.int .u64 1, Value.int .u64 1] 25) = W1 at *
  clear hW
  refine (pDiv_small _ _ _ _ _ L1.out L2.out (by simp) (by simp)).mono ?_
  rintro e W2 hh
  obtain ⟨vq, vr, Q, R, rfl, hoq, hor, hout, hb⟩ := hh.2 one_one_ne
  obtain ⟨hQ, hR⟩ := first_div hout
  subst hQ hR
  clear hh hout
  have K1 := Lib.hid (by have h := hoq.is; rw [ofFs_one] at h; exact h)
  obtain ⟨A', c', hv, _, _⟩ := own_form hor.1
  subst hv
  clear hoq hor
  simp only [ofFs_length, List.length_nil]
  try dsimp only
  replace KA := Lib.hid (KA.out.below hb)
  replace KB := Lib.hid (KB.out.below hb)
  replace L1 := Lib.hid (L1.out.below hb)
  replace L2 := Lib.hid (L2.out.below hb)
  replace BEL := Lib.hid (below_trans BEL.out hb BEL.out.size)
  clear hb
  go_wp2_with fail
  have L30 := lit_nums (W2) [2147483646, 1] (by intro z hz; simp only [List.mem_cons, List.not_mem_nil, or_false] at hz; rcases hz with rfl | rfl <;> first | exact ⟨by omega, by omega⟩ | exact U64.of_ofF _) (by simp)
  simp only [u64s, List.map_cons, List.map_nil, List.length_cons, List.length_nil] at L30
  have hb := (Below.refl (W2).heap.size (W2)).alloc (Nat.le_refl _) (.cells #[Value.int .u64 2147483646, Value.int .u64 1] 25)
  replace KA := Lib.hid (KA.out.below hb)
  replace KB := Lib.hid (KB.out.below hb)
  replace L1 := Lib.hid (L1.out.below hb)
  replace L2 := Lib.hid (L2.out.below hb)
  replace K1 := Lib.hid (K1.out.below hb)
  replace BEL := Lib.hid (below_trans BEL.out hb BEL.out.size)
  clear hb
  have L3 := Lib.hid L30
  clear L30
  generalize hW : (W2).alloc (.cells #[Value.int .u64 2147483646, Value.int .u64 1] 25) = W3 at *
  clear hW
  refine (equal_any _ _ _ _ _ K1.out L3.out).mono ?_
  rintro e w' ⟨rfl, nd, rfl⟩
  rw [decide_eq_true rfl]
  try dsimp only
  have hb := below_drewN (Below.refl W3.heap.size W3) nd
  replace KA := Lib.hid (KA.out.below hb)
  replace KB := Lib.hid (KB.out.below hb)
  replace L1 := Lib.hid (L1.out.below hb)
  replace L2 := Lib.hid (L2.out.below hb)
  replace K1 := Lib.hid (K1.out.below hb)
  replace L3 := Lib.hid (L3.out.below hb)
  replace BEL := Lib.hid (below_trans BEL.out hb BEL.out.size)
  clear hb
  generalize hW : W3.drewN nd = W4 at *
  clear hW
  go_wp2_with fail
  refine (kShort_any _ _ _ _ KA.out (by omega)).mono ?_
  rintro e w' ⟨vSA, rfl, hs, rfl⟩
  have SA := Lib.hid hs
  clear hs
  try dsimp only
  go_wp2_with fail
  refine (kShort_any _ _ _ _ KB.out (by omega)).mono ?_
  rintro e w' ⟨vSB, rfl, hs, rfl⟩
  have SB := Lib.hid hs
  clear hs
  try dsimp only
  go_wp2_with fail
  obtain ⟨zs, hzs⟩ : ∃ zs, zs = xs.take (18 : Int).toNat := ⟨_, rfl⟩
  obtain ⟨zt, hzt⟩ : ∃ zt, zt = ys.take (18 : Int).toNat := ⟨_, rfl⟩
  rw [← hzs] at SA
  rw [← hzt] at SB
  have hz1 : zs.length ≤ 18 := by rw [hzs, List.length_take]; exact Nat.min_le_left _ _
  have hz2 : zt.length ≤ 18 := by rw [hzt, List.length_take]; exact Nat.min_le_left _ _
  clear hzs hzt KA KB L1 L2 L3 K1
  refine (fSub_any _ _ _ (by omega) hx0).mono ?_
  rintro e w' ⟨rfl, rfl⟩
  try dsimp only
  go_wp2_with fail
  have L40 := lit_nums (W4) [ofF (toF 0 - toF x), 1] (by intro z hz; simp only [List.mem_cons, List.not_mem_nil, or_false] at hz; rcases hz with rfl | rfl <;> first | exact ⟨by omega, by omega⟩ | exact U64.of_ofF _) (by simp)
  simp only [u64s, List.map_cons, List.map_nil, List.length_cons, List.length_nil] at L40
  have hb := (Below.refl (W4).heap.size (W4)).alloc (Nat.le_refl _) (.cells #[Value.int .u64 (ofF (toF 0 - toF x)), Value.int .u64 1] 25)
  replace SA := Lib.hid (SA.out.below hb)
  replace SB := Lib.hid (SB.out.below hb)
  replace BEL := Lib.hid (below_trans BEL.out hb BEL.out.size)
  clear hb
  have L4 := Lib.hid L40
  clear L40
  generalize hW : (W4).alloc (.cells #[Value.int .u64 (ofF (toF 0 - toF x)), Value.int .u64 1] 25) = W5 at *
  clear hW
  refine (pDiv_small _ _ _ _ _ SA.out L4.out (by omega) (by simp)).mono ?_
  rintro e W9 hh
  rw [toFs_lin, lin_ne] at hh
  obtain ⟨vq, vr, Q, R, rfl, hoq, hor, hout, hb⟩ := hh.2 (by simp)
  have hR := div_rest hout
  rw [pnorm_eval] at hR
  clear hh hout
  try dsimp only
  replace SA := Lib.hid (SA.out.below hb)
  replace SB := Lib.hid (SB.out.below hb)
  replace L4 := Lib.hid (L4.out.below hb)
  replace BEL := Lib.hid (below_trans BEL.out hb BEL.out.size)
  clear hoq
  have KR := Lib.hid hor
  have HR := Lib.hid hR
  clear hb hor hR
  obtain ⟨y, hy⟩ : ∃ y, peval (toFs zs) (toF x) = y := ⟨_, rfl⟩
  obtain ⟨z, hz⟩ : ∃ z, peval (toFs zt) (toF x) = z := ⟨_, rfl⟩
  obtain ⟨L, hL⟩ : ∃ L, pmulS (pnorm (toFs zs)) (pnorm (toFs zt)) = L := ⟨_, rfl⟩
  have hLl : L.length ≤ 40 := by
    rw [← hL, pmulS_length]
    have h1 := pnorm_length (toFs zs); have h2 := pnorm_length (toFs zt)
    rw [toFs_length] at h1 h2
    split <;> omega
  have EL := Lib.hid (show ofF (peval L (toF x)) = ofF (y * z) by rw [← hL, peval_mulS, pnorm_eval, pnorm_eval, hy, hz])
  have E1 := Lib.hid (show mulRes L = ofFs L by unfold mulRes; rw [if_neg (by omega)])
  have E2 := Lib.hid (show mulErr L = 0 by unfold mulErr; rw [if_neg (by omega)])
  have HY := Lib.hid hy
  have HZ := Lib.hid hz
  have HL := Lib.hid hL
  rw [hy] at HR
  clear hy hz hL
  by_cases hy0 : y = 0
  · skip
    have hR0 := HR.out
    rw [hy0, show pnorm [(0 : F)] = [] from by decide +kernel] at hR0
    have hv0 : ofF y = 0 := by rw [hy0]; rfl
    rw [hR0] at KR
    obtain ⟨A5, c5, hv, _, _⟩ := own_form KR.out.1
    subst hv
    clear hR0 HR hy0
    simp only [ofFs_length, List.length_nil]
    go_wp2_with fail
    refine (pEval_ok _ _ _ _ SA.out hx0 (by omega)).mono ?_
    rintro e w' ⟨rfl, nd, rfl⟩
    rw [HY.out, hv0]
    try dsimp only
    have hb := below_drewN (Below.refl W9.heap.size W9) nd
    replace SA := Lib.hid (SA.out.below hb)
    replace SB := Lib.hid (SB.out.below hb)
    replace L4 := Lib.hid (L4.out.below hb)
    replace BEL := Lib.hid (below_trans BEL.out hb BEL.out.size)
    clear hb
    generalize hW : W9.drewN nd = W10 at *
    clear hW
    go_wp2_with fail
    refine (pEval_ok _ _ _ _ SB.out hx0 (by omega)).mono ?_
    rintro e w' ⟨rfl, nd, rfl⟩
    rw [HZ.out]
    try dsimp only
    have hb := below_drewN (Below.refl W10.heap.size W10) nd
    replace SA := Lib.hid (SA.out.below hb)
    replace SB := Lib.hid (SB.out.below hb)
    replace L4 := Lib.hid (L4.out.below hb)
    replace BEL := Lib.hid (below_trans BEL.out hb BEL.out.size)
    clear hb
    generalize hW : W10.drewN nd = W11 at *
    clear hW
    go_wp2_with fail
    refine (pMul_small _ _ _ _ _ SA.out SB.out (by omega) (by omega)).mono ?_
    rintro e W12 ⟨vPM, rfl, ho, hb⟩
    rw [HL.out, E1.out] at ho
    rw [HL.out, E2.out]
    try dsimp only
    replace SA := Lib.hid (SA.out.below hb)
    replace SB := Lib.hid (SB.out.below hb)
    replace L4 := Lib.hid (L4.out.below hb)
    replace BEL := Lib.hid (below_trans BEL.out hb BEL.out.size)
    have PM := Lib.hid (ho.is)
    clear ho hb
    go_wp2_with fail
    refine (pEval_ok _ _ _ _ PM.out hx0 (by rw [ofFs_length]; exact hLl)).mono ?_
    rintro e w' ⟨rfl, nd, rfl⟩
    rw [toFs_ofFs, EL.out]
    try dsimp only
    have hb := below_drewN (Below.refl W12.heap.size W12) nd
    replace SA := Lib.hid (SA.out.below hb)
    replace SB := Lib.hid (SB.out.below hb)
    replace L4 := Lib.hid (L4.out.below hb)
    replace PM := Lib.hid (PM.out.below hb)
    replace BEL := Lib.hid (below_trans BEL.out hb BEL.out.size)
    clear hb
    generalize hW : W12.drewN nd = W13 at *
    clear hW
    go_wp2_with fail
    refine (fMul_any _ _ _ (by omega) (ofF_nonneg _)).mono ?_
    rintro e w' ⟨rfl, rfl⟩
    rw [toF_ofF, show toF 0 = y from by rw [← hv0, toF_ofF]]
    try dsimp only
    go_wp2_with fail
    go_ret
    exact ⟨rfl, BEL.out⟩
  · skip
    have hR0 := HR.out
    rw [show pnorm [y] = [y] from normal_of_co (.inr hy0)] at hR0
    rw [hR0] at KR
    obtain ⟨g5, c5, hv, hg1, hg2, hg3, hg4⟩ := KR.out.form (by simp [ofFs])
    subst hv
    clear hR0 HR hy0
    simp only [ofFs_length, List.length_cons, List.length_nil]
    go_wp2_with fail
    refine (pEval_ok _ _ _ _ SA.out hx0 (by omega)).mono ?_
    rintro e w' ⟨rfl, nd, rfl⟩
    rw [HY.out]
    try dsimp only
    have hb := below_drewN (Below.refl W9.heap.size W9) nd
    replace SA := Lib.hid (SA.out.below hb)
    replace SB := Lib.hid (SB.out.below hb)
    replace L4 := Lib.hid (L4.out.below hb)
    replace KR := Lib.hid (KR.out.below hb)
    replace BEL := Lib.hid (below_trans BEL.out hb BEL.out.size)
    clear hb
    generalize hW : W9.drewN nd = W10 at *
    clear hW
    have hcell := KR.out.cell (j := 0) (z := ofF y) (by simp [ofFs])
    go_wp2_with fail
    clear hcell
    refine (pEval_ok _ _ _ _ SB.out hx0 (by omega)).mono ?_
    rintro e w' ⟨rfl, nd, rfl⟩
    rw [HZ.out]
    try dsimp only
    have hb := below_drewN (Below.refl W10.heap.size W10) nd
    replace SA := Lib.hid (SA.out.below hb)
    replace SB := Lib.hid (SB.out.below hb)
    replace L4 := Lib.hid (L4.out.below hb)
    replace KR := Lib.hid (KR.out.below hb)
    replace BEL := Lib.hid (below_trans BEL.out hb BEL.out.size)
    clear hb
    generalize hW : W10.drewN nd = W11 at *
    clear hW
    go_wp2_with fail
    refine (pMul_small _ _ _ _ _ SA.out SB.out (by omega) (by omega)).mono ?_
    rintro e W12 ⟨vPM, rfl, ho, hb⟩
    rw [HL.out, E1.out] at ho
    rw [HL.out, E2.out]
    try dsimp only
    replace SA := Lib.hid (SA.out.below hb)
    replace SB := Lib.hid (SB.out.below hb)
    replace L4 := Lib.hid (L4.out.below hb)
    replace KR := Lib.hid (KR.out.below hb)
    replace BEL := Lib.hid (below_trans BEL.out hb BEL.out.size)
    have PM := Lib.hid (ho.is)
    clear ho hb
    go_wp2_with fail
    refine (pEval_ok _ _ _ _ PM.out hx0 (by rw [ofFs_length]; exact hLl)).mono ?_
    rintro e w' ⟨rfl, nd, rfl⟩
    rw [toFs_ofFs, EL.out]
    try dsimp only
    have hb := below_drewN (Below.refl W12.heap.size W12) nd
    replace SA := Lib.hid (SA.out.below hb)
    replace SB := Lib.hid (SB.out.below hb)
    replace L4 := Lib.hid (L4.out.below hb)
    replace KR := Lib.hid (KR.out.below hb)
    replace PM := Lib.hid (PM.out.below hb)
    replace BEL := Lib.hid (below_trans BEL.out hb BEL.out.size)
    clear hb
    generalize hW : W12.drewN nd = W13 at *
    clear hW
    go_wp2_with fail
    refine (fMul_any _ _ _ (ofF_nonneg _) (ofF_nonneg _)).mono ?_
    rintro e w' ⟨rfl, rfl⟩
    rw [toF_ofF, toF_ofF]
    try dsimp only
    go_wp2_with fail
    go_ret
    exact ⟨rfl, BEL.out⟩
end Go.Proofs.Ytnojmphggdndmaa
