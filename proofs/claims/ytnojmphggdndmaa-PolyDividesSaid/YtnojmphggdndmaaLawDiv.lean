/- The law PolyDivides, walked. -/
import Derived.Test.YtnojmphggdndmaaPolyD
namespace Go.Proofs.Ytnojmphggdndmaa
open Go.RowKit Croft

set_option maxRecDepth 100000 in
set_option maxHeartbeats 1000000 in
theorem polyDiv_a (va vb : Value) (xs ys : List Int) (w : World) (h1 : IsNums w va xs) (h2 : IsNums w vb ys) (hla : 40 < xs.length) :
    Calls Try.prog 7 #[va, vb] w fun e w' => e = .returned (.bool true) ∧ Below w.heap.size w w' := by
  have KA := Lib.hid h1
  have KB := Lib.hid h2
  have BEL := Lib.hid (Below.refl w.heap.size w)
  have hlx := pnorm_length (toFs xs)
  have hly := pnorm_length (toFs ys)
  rw [toFs_length] at hlx hly
  obtain ⟨A1, c1, rfl, hc1, hm1, hl1, hu1, hr1⟩ := h1
  obtain ⟨A2, c2, rfl, hc2, hm2, hl2, hu2, hr2⟩ := h2
  clear hu1 hu2 hr1 hr2 hm1 hm2
  have hA : (40 : Int) < (xs.length : Int) := by omega
  have hdA : decide ((40 : Int) < (xs.length : Int)) = true := by simpa using hA
  go_enter Try.func7, Try.ntmps7
  go_wp2_with fail
  refine (pDiv_big _ _ _ _ _ KA.out KB.out (.inl hla)).mono ?_
  rintro e W1 ⟨rfl, hb⟩
  have BEL2 := Lib.hid hb
  clear hb
  dsimp only
  go_wp2_with fail
  go_ret
  exact ⟨rfl, BEL2.out⟩
set_option maxRecDepth 100000 in
set_option maxHeartbeats 1000000 in
theorem polyDiv_b (va vb : Value) (xs ys : List Int) (w : World) (h1 : IsNums w va xs) (h2 : IsNums w vb ys) (hla : xs.length ≤ 40) (hlb : 40 < ys.length) :
    Calls Try.prog 7 #[va, vb] w fun e w' => e = .returned (.bool true) ∧ Below w.heap.size w w' := by
  have KA := Lib.hid h1
  have KB := Lib.hid h2
  have BEL := Lib.hid (Below.refl w.heap.size w)
  have hlx := pnorm_length (toFs xs)
  have hly := pnorm_length (toFs ys)
  rw [toFs_length] at hlx hly
  obtain ⟨A1, c1, rfl, hc1, hm1, hl1, hu1, hr1⟩ := h1
  obtain ⟨A2, c2, rfl, hc2, hm2, hl2, hu2, hr2⟩ := h2
  clear hu1 hu2 hr1 hr2 hm1 hm2
  have hA : ¬ (40 : Int) < (xs.length : Int) := by omega
  have hdA : decide ((40 : Int) < (xs.length : Int)) = false := by simpa using hA
  have hB : (40 : Int) < (ys.length : Int) := by omega
  have hdB : decide ((40 : Int) < (ys.length : Int)) = true := by simpa using hB
  go_enter Try.func7, Try.ntmps7
  go_wp2_with fail
  refine (pDiv_big _ _ _ _ _ KA.out KB.out (.inr hlb)).mono ?_
  rintro e W1 ⟨rfl, hb⟩
  have BEL2 := Lib.hid hb
  clear hb
  dsimp only
  go_wp2_with fail
  go_ret
  exact ⟨rfl, BEL2.out⟩
set_option maxRecDepth 100000 in
set_option maxHeartbeats 1000000 in
theorem polyDiv_c (va vb : Value) (xs ys : List Int) (w : World) (h1 : IsNums w va xs) (h2 : IsNums w vb ys) (hla : xs.length ≤ 40) (hlb : ys.length ≤ 40) (hz : pnorm (toFs ys) = []) :
    Calls Try.prog 7 #[va, vb] w fun e w' => e = .returned (.bool true) ∧ Below w.heap.size w w' := by
  have KA := Lib.hid h1
  have KB := Lib.hid h2
  have BEL := Lib.hid (Below.refl w.heap.size w)
  have hlx := pnorm_length (toFs xs)
  have hly := pnorm_length (toFs ys)
  rw [toFs_length] at hlx hly
  obtain ⟨A1, c1, rfl, hc1, hm1, hl1, hu1, hr1⟩ := h1
  obtain ⟨A2, c2, rfl, hc2, hm2, hl2, hu2, hr2⟩ := h2
  clear hu1 hu2 hr1 hr2 hm1 hm2
  have hA : ¬ (40 : Int) < (xs.length : Int) := by omega
  have hdA : decide ((40 : Int) < (xs.length : Int)) = false := by simpa using hA
  have hB : ¬ (40 : Int) < (ys.length : Int) := by omega
  have hdB : decide ((40 : Int) < (ys.length : Int)) = false := by simpa using hB
  have HZ := Lib.hid hz
  clear hz hly
  go_enter Try.func7, Try.ntmps7
  go_wp2_with fail
  refine (pDiv_small _ _ _ _ _ KA.out KB.out hla hlb).mono ?_
  rintro e W1 hh
  obtain ⟨rfl, hb⟩ := hh.1 HZ.out
  clear hh
  dsimp only
  replace KA := Lib.hid (KA.out.below hb)
  replace KB := Lib.hid (KB.out.below hb)
  replace BEL := Lib.hid (below_trans BEL.out hb BEL.out.size)
  clear hb
  go_wp2_with fail
  refine (rNormal_any _ _ _ KB.out).mono ?_
  rintro e W1 ⟨vNB, rfl, ho, hb⟩
  rw [HZ.out] at ho
  obtain ⟨A, c, hv, _, _⟩ := own_form ho.1
  subst hv
  try dsimp only
  replace KA := Lib.hid (KA.out.below hb)
  replace KB := Lib.hid (KB.out.below hb)
  replace BEL := Lib.hid (below_trans BEL.out hb BEL.out.size)
  clear ho hb
  simp only [ofFs_length, List.length_nil]
  go_wp2_with fail
  go_ret
  exact ⟨rfl, BEL.out⟩
set_option maxRecDepth 100000 in
set_option maxHeartbeats 1000000 in
theorem polyDiv_d (va vb : Value) (xs ys : List Int) (w : World) (h1 : IsNums w va xs) (h2 : IsNums w vb ys) (hla : xs.length ≤ 40) (hlb : ys.length ≤ 40) (hz : pnorm (toFs ys) ≠ []) :
    Calls Try.prog 7 #[va, vb] w fun e w' => e = .returned (.bool true) ∧ Below w.heap.size w w' := by
  have KA := Lib.hid h1
  have KB := Lib.hid h2
  have BEL := Lib.hid (Below.refl w.heap.size w)
  have hlx := pnorm_length (toFs xs)
  have hly := pnorm_length (toFs ys)
  rw [toFs_length] at hlx hly
  obtain ⟨A1, c1, rfl, hc1, hm1, hl1, hu1, hr1⟩ := h1
  obtain ⟨A2, c2, rfl, hc2, hm2, hl2, hu2, hr2⟩ := h2
  clear hu1 hu2 hr1 hr2 hm1 hm2
  have hA : ¬ (40 : Int) < (xs.length : Int) := by omega
  have hdA : decide ((40 : Int) < (xs.length : Int)) = false := by simpa using hA
  have hB : ¬ (40 : Int) < (ys.length : Int) := by omega
  have hdB : decide ((40 : Int) < (ys.length : Int)) = false := by simpa using hB
  obtain ⟨A, hA'⟩ : ∃ A, pnorm (toFs xs) = A := ⟨_, rfl⟩
  obtain ⟨B, hB'⟩ : ∃ B, pnorm (toFs ys) = B := ⟨_, rfl⟩
  rw [hA'] at hlx
  rw [hB'] at hly hz
  have EA := Lib.hid hA'
  have EB := Lib.hid hB'
  have NB := Lib.hid (show pnorm B = B by rw [← hB', pnorm_norm])
  have HZ := Lib.hid hz
  have hB0 : ((B.length : Int) == 0) = false := by
    rw [beq_eq_false_iff_ne]; intro h; exact hz (List.eq_nil_of_length_eq_zero (by omega))
  clear hz hA' hB'
  go_enter Try.func7, Try.ntmps7
  go_wp2_with fail
  refine (pDiv_small _ _ _ _ _ KA.out KB.out hla hlb).mono ?_
  rintro e W1 hh
  rw [EB.out, EA.out] at hh
  obtain ⟨vq, vr, Q, R, rfl, hoq, hor, hout, hb⟩ := hh.2 HZ.out
  clear hh
  have D := Lib.hid hout
  have hrl := hout.short
  have hql := hout.lq
  have KQ := Lib.hid hoq.is
  have KR := Lib.hid hor.is
  have KR0 := Lib.hid hor
  clear hout hoq hor
  dsimp only
  replace KA := Lib.hid (KA.out.below hb)
  replace KB := Lib.hid (KB.out.below hb)
  replace BEL := Lib.hid (below_trans BEL.out hb BEL.out.size)
  clear hb
  obtain ⟨A', c', hv, _, _⟩ := own_form KR0.out.1
  subst hv
  clear KR0
  rw [ofFs_length] at KR ⊢
  go_wp2_with fail
  refine (rNormal_any _ _ _ KB.out).mono ?_
  rintro e W1 ⟨vNN, rfl, ho, hb⟩
  rw [EB.out] at ho
  obtain ⟨A3, c3, hv, _, _⟩ := own_form ho.1
  subst hv
  try dsimp only
  replace KA := Lib.hid (KA.out.below hb)
  replace KB := Lib.hid (KB.out.below hb)
  replace KQ := Lib.hid (KQ.out.below hb)
  replace KR := Lib.hid (KR.out.below hb)
  replace BEL := Lib.hid (below_trans BEL.out hb BEL.out.size)
  have KN := Lib.hid (ho.is)
  clear ho hb
  rw [ofFs_length] at KN ⊢
  have hrl2 : (R.length : Int) < (B.length : Int) := by omega
  go_wp2_with fail
  refine (rNormal_any _ _ _ KQ.out).mono ?_
  rintro e W2 ⟨vNQ, rfl, ho, hb⟩
  rw [toFs_ofFs, D.out.nq] at ho
  try dsimp only
  replace KA := Lib.hid (KA.out.below hb)
  replace KB := Lib.hid (KB.out.below hb)
  replace KQ := Lib.hid (KQ.out.below hb)
  replace KR := Lib.hid (KR.out.below hb)
  replace KN := Lib.hid (KN.out.below hb)
  replace BEL := Lib.hid (below_trans BEL.out hb BEL.out.size)
  have NQ := Lib.hid (ho.is)
  clear ho hb
  go_wp2_with fail
  refine (equal_any _ _ _ _ _ KQ.out NQ.out).mono ?_
  rintro e w' ⟨rfl, nd, rfl⟩
  rw [decide_eq_true rfl]
  try dsimp only
  have hb := below_drewN (Below.refl W2.heap.size W2) nd
  replace KA := Lib.hid (KA.out.below hb)
  replace KB := Lib.hid (KB.out.below hb)
  replace KQ := Lib.hid (KQ.out.below hb)
  replace KR := Lib.hid (KR.out.below hb)
  replace KN := Lib.hid (KN.out.below hb)
  replace NQ := Lib.hid (NQ.out.below hb)
  replace BEL := Lib.hid (below_trans BEL.out hb BEL.out.size)
  clear hb
  generalize hW : W2.drewN nd = W3 at *
  clear hW
  go_wp2_with fail
  refine (rNormal_any _ _ _ KR.out).mono ?_
  rintro e W4 ⟨vNR, rfl, ho, hb⟩
  rw [toFs_ofFs, D.out.nr] at ho
  try dsimp only
  replace KA := Lib.hid (KA.out.below hb)
  replace KB := Lib.hid (KB.out.below hb)
  replace KQ := Lib.hid (KQ.out.below hb)
  replace KR := Lib.hid (KR.out.below hb)
  replace KN := Lib.hid (KN.out.below hb)
  replace NQ := Lib.hid (NQ.out.below hb)
  replace BEL := Lib.hid (below_trans BEL.out hb BEL.out.size)
  have NR := Lib.hid (ho.is)
  clear ho hb
  go_wp2_with fail
  refine (equal_any _ _ _ _ _ KR.out NR.out).mono ?_
  rintro e w' ⟨rfl, nd, rfl⟩
  rw [decide_eq_true rfl]
  try dsimp only
  have hb := below_drewN (Below.refl W4.heap.size W4) nd
  replace KA := Lib.hid (KA.out.below hb)
  replace KB := Lib.hid (KB.out.below hb)
  replace KQ := Lib.hid (KQ.out.below hb)
  replace KR := Lib.hid (KR.out.below hb)
  replace KN := Lib.hid (KN.out.below hb)
  replace NQ := Lib.hid (NQ.out.below hb)
  replace NR := Lib.hid (NR.out.below hb)
  replace BEL := Lib.hid (below_trans BEL.out hb BEL.out.size)
  clear hb
  generalize hW : W4.drewN nd = W5 at *
  clear hW
  go_wp2_with fail
  refine (rProduct_any _ _ _ _ _ KQ.out KN.out (by rw [ofFs_length]; omega) (by rw [ofFs_length]; omega)).mono ?_
  rintro e W6 ⟨vPQ, rfl, ho, hb⟩
  rw [toFs_ofFs, toFs_ofFs, D.out.nq, NB.out] at ho
  try dsimp only
  replace KA := Lib.hid (KA.out.below hb)
  replace KB := Lib.hid (KB.out.below hb)
  replace KQ := Lib.hid (KQ.out.below hb)
  replace KR := Lib.hid (KR.out.below hb)
  replace KN := Lib.hid (KN.out.below hb)
  replace NQ := Lib.hid (NQ.out.below hb)
  replace NR := Lib.hid (NR.out.below hb)
  replace BEL := Lib.hid (below_trans BEL.out hb BEL.out.size)
  have PQ := Lib.hid (ho.is)
  clear ho hb
  go_wp2_with fail
  refine (rSum_any _ _ _ _ _ PQ.out KR.out).mono ?_
  rintro e W7 ⟨vSM, rfl, ho, hb⟩
  rw [toFs_ofFs, toFs_ofFs, D.out.eq] at ho
  try dsimp only
  replace KA := Lib.hid (KA.out.below hb)
  replace KB := Lib.hid (KB.out.below hb)
  replace KQ := Lib.hid (KQ.out.below hb)
  replace KR := Lib.hid (KR.out.below hb)
  replace KN := Lib.hid (KN.out.below hb)
  replace NQ := Lib.hid (NQ.out.below hb)
  replace NR := Lib.hid (NR.out.below hb)
  replace PQ := Lib.hid (PQ.out.below hb)
  replace BEL := Lib.hid (below_trans BEL.out hb BEL.out.size)
  have SM := Lib.hid (ho.is)
  clear ho hb
  go_wp2_with fail
  refine (rNormal_any _ _ _ KA.out).mono ?_
  rintro e W8 ⟨vNA, rfl, ho, hb⟩
  rw [EA.out] at ho
  try dsimp only
  replace KA := Lib.hid (KA.out.below hb)
  replace KB := Lib.hid (KB.out.below hb)
  replace KQ := Lib.hid (KQ.out.below hb)
  replace KR := Lib.hid (KR.out.below hb)
  replace KN := Lib.hid (KN.out.below hb)
  replace NQ := Lib.hid (NQ.out.below hb)
  replace NR := Lib.hid (NR.out.below hb)
  replace PQ := Lib.hid (PQ.out.below hb)
  replace SM := Lib.hid (SM.out.below hb)
  replace BEL := Lib.hid (below_trans BEL.out hb BEL.out.size)
  have NA := Lib.hid (ho.is)
  clear ho hb
  go_wp2_with fail
  refine (equal_any _ _ _ _ _ SM.out NA.out).mono ?_
  rintro e w' ⟨rfl, nd, rfl⟩
  rw [decide_eq_true rfl]
  try dsimp only
  have hb := below_drewN (Below.refl W8.heap.size W8) nd
  replace KA := Lib.hid (KA.out.below hb)
  replace KB := Lib.hid (KB.out.below hb)
  replace KQ := Lib.hid (KQ.out.below hb)
  replace KR := Lib.hid (KR.out.below hb)
  replace KN := Lib.hid (KN.out.below hb)
  replace NQ := Lib.hid (NQ.out.below hb)
  replace NR := Lib.hid (NR.out.below hb)
  replace PQ := Lib.hid (PQ.out.below hb)
  replace SM := Lib.hid (SM.out.below hb)
  replace NA := Lib.hid (NA.out.below hb)
  replace BEL := Lib.hid (below_trans BEL.out hb BEL.out.size)
  clear hb
  generalize hW : W8.drewN nd = W9 at *
  clear hW
  go_wp2_with fail
  go_ret
  exact ⟨rfl, BEL.out⟩
theorem polyDivides_any (va vb : Value) (xs ys : List Int) (w : World) (h1 : IsNums w va xs) (h2 : IsNums w vb ys) :
    Calls Try.prog 7 #[va, vb] w fun e w' => e = .returned (.bool true) ∧ Below w.heap.size w w' := by
  by_cases ha : 40 < xs.length
  · exact polyDiv_a va vb xs ys w h1 h2 ha
  by_cases hb : 40 < ys.length
  · exact polyDiv_b va vb xs ys w h1 h2 (by omega) hb
  by_cases hz : pnorm (toFs ys) = []
  · exact polyDiv_c va vb xs ys w h1 h2 (by omega) (by omega) hz
  · exact polyDiv_d va vb xs ys w h1 h2 (by omega) (by omega) hz
end Go.Proofs.Ytnojmphggdndmaa
