/- The law GateTimes, walked. -/
import Derived.Test.YtliegjpnjfmklaaShamK
import Derived.Test.YtliegjpnjfmklaaKeepW
import Derived.Test.YtliegjpnjfmklaaMulW
namespace Go.Proofs.Ytliegjpnjfmklaa
open Go.RowKit Croft

theorem one_times : ofFs (mulOut 1 0 (toFs [3]) (toFs [4]) (toFs [])) = [12] := by
  have hw : co (wts 1) 0 = 1 := by
    rw [wts_co (by omega)]
    have h : others (ptsN 1) (pt 0) = [] := by simp [others, ptsN]
    unfold wtF
    rw [h]
    simp only [List.map_nil, lprod, inv_one, F_mo]
  show [ofF (fsum 1 fun i => co (wts 1) i * co [peval [toF 3 * toF 4] (pt 0)] i)] = [12]
  rw [fsum, fsum, hw, co_cons_zero]
  decide +kernel
set_option maxRecDepth 100000 in
set_option maxHeartbeats 4000000 in
theorem gateTimes_any (x y : Int) (vd vf vr : Value) (ds fs rs : List Int) (t n : Int) (w : World) (hx : U64 x) (hy : U64 y) (h1 : IsNums w vd ds) (h2 : IsNums w vf fs) (h3 : IsNums w vr rs) :
    Calls Try.prog 12 #[.int .u64 x, .int .u64 y, vd, vf, vr, .int .i64 t, .int .i64 n] w fun e w' => e = .returned (.bool true) ∧ Below w.heap.size w w' := by
  have KD := Lib.hid h1
  have KF := Lib.hid h2
  have KR := Lib.hid h3
  have BEL := Lib.hid (Below.refl w.heap.size w)
  go_enter Try.func12, Try.ntmps12
  go_wp2_with fail
  have L30 := lit_nums (w) [3] (by intro z hz; simp only [List.mem_cons, List.not_mem_nil, or_false] at hz; subst hz; first | exact ⟨by omega, by omega⟩ | exact U64.of_ofF _) (by simp)
  simp only [u64s, List.map_cons, List.map_nil, List.length_cons, List.length_nil] at L30
  have hb := (Below.refl (w).heap.size (w)).alloc (Nat.le_refl _) (.cells #[Value.int .u64 3] 40)
  replace KD := Lib.hid (KD.out.below hb)
  replace KF := Lib.hid (KF.out.below hb)
  replace KR := Lib.hid (KR.out.below hb)
  replace BEL := Lib.hid (below_trans BEL.out hb BEL.out.size)
  clear hb
  have L3 := Lib.hid L30
  clear L30
  have L40 := lit_nums ((w).alloc (.cells #[Value.int .u64 3] 40)) [4] (by intro z hz; simp only [List.mem_cons, List.not_mem_nil, or_false] at hz; subst hz; first | exact ⟨by omega, by omega⟩ | exact U64.of_ofF _) (by simp)
  simp only [u64s, List.map_cons, List.map_nil, List.length_cons, List.length_nil] at L40
  rw [show ((w).alloc (.cells #[Value.int .u64 3] 40)).heap.size = w.heap.size + 1 from by simp] at L40
  have hb := (Below.refl ((w).alloc (.cells #[Value.int .u64 3] 40)).heap.size ((w).alloc (.cells #[Value.int .u64 3] 40))).alloc (Nat.le_refl _) (.cells #[Value.int .u64 4] 40)
  replace KD := Lib.hid (KD.out.below hb)
  replace KF := Lib.hid (KF.out.below hb)
  replace KR := Lib.hid (KR.out.below hb)
  replace L3 := Lib.hid (L3.out.below hb)
  replace BEL := Lib.hid (below_trans BEL.out hb BEL.out.size)
  clear hb
  have L4 := Lib.hid L40
  clear L40
  generalize hW : ((w).alloc (.cells #[Value.int .u64 3] 40)).alloc (.cells #[Value.int .u64 4] 40) = W1 at *
  clear hW
  refine (gMul_ok 1 0 _ _ _ [3] [4] [] _ L3.out L4.out (IsNums.nil _) rfl rfl rfl (by omega) (by omega) (by omega)).mono ?_
  rintro e W2 ⟨vm, vg, vs, rfl, ho, _, _, hb⟩
  rw [one_times] at ho
  try dsimp only
  replace KD := Lib.hid (KD.out.below hb)
  replace KF := Lib.hid (KF.out.below hb)
  replace KR := Lib.hid (KR.out.below hb)
  replace BEL := Lib.hid (below_trans BEL.out hb BEL.out.size)
  have KM := Lib.hid ho.is
  clear ho hb L3 L4
  go_wp2_with fail
  have L120 := lit_nums (W2) [12] (by intro z hz; simp only [List.mem_cons, List.not_mem_nil, or_false] at hz; subst hz; first | exact ⟨by omega, by omega⟩ | exact U64.of_ofF _) (by simp)
  simp only [u64s, List.map_cons, List.map_nil, List.length_cons, List.length_nil] at L120
  have hb := (Below.refl (W2).heap.size (W2)).alloc (Nat.le_refl _) (.cells #[Value.int .u64 12] 40)
  replace KD := Lib.hid (KD.out.below hb)
  replace KF := Lib.hid (KF.out.below hb)
  replace KR := Lib.hid (KR.out.below hb)
  replace KM := Lib.hid (KM.out.below hb)
  replace BEL := Lib.hid (below_trans BEL.out hb BEL.out.size)
  clear hb
  have L12 := Lib.hid L120
  clear L120
  generalize hW : (W2).alloc (.cells #[Value.int .u64 12] 40) = W3 at *
  clear hW
  refine (equal_any _ _ _ _ _ KM.out L12.out).mono ?_
  rintro e w' ⟨rfl, nd, rfl⟩
  rw [decide_eq_true rfl]
  try dsimp only
  clear KM L12
  have hb := below_drewN (Below.refl W3.heap.size W3) nd
  replace KD := Lib.hid (KD.out.below hb)
  replace KF := Lib.hid (KF.out.below hb)
  replace KR := Lib.hid (KR.out.below hb)
  replace BEL := Lib.hid (below_trans BEL.out hb BEL.out.size)
  clear hb
  generalize hW : W3.drewN nd = W4 at *
  clear hW
  go_wp2_with fail
  refine (kCrew_any t n _).mono ?_
  rintro e w' ⟨⟨T, N, hT, hN1, hN2, rfl⟩, rfl⟩
  try dsimp only
  go_wp2_with fail
  refine (kFilled_any _ _ (T) _ KD.out (by omega)).mono ?_
  rintro e W5 ⟨vFD, rfl, ho, hb⟩
  try dsimp only
  replace KD := Lib.hid (KD.out.below hb)
  replace KF := Lib.hid (KF.out.below hb)
  replace KR := Lib.hid (KR.out.below hb)
  replace BEL := Lib.hid (below_trans BEL.out hb BEL.out.size)
  have hdl := fillL_length ds (T)
  obtain ⟨D, hD⟩ : ∃ D, D = fillL ds (T) := ⟨_, rfl⟩
  rw [← hD] at hdl ho
  have FD := Lib.hid ho.is
  have HDL := Lib.hid hdl
  clear ho hb hdl hD
  go_wp2_with fail
  refine (sDeal_ok x _ D N _ hx FD.out (by rw [HDL.out]; exact hT) (by rw [HDL.out]; omega) hN2).mono ?_
  rintro e W6 ⟨vKA, rfl, ho, hb⟩
  try dsimp only
  replace KD := Lib.hid (KD.out.below hb)
  replace KF := Lib.hid (KF.out.below hb)
  replace KR := Lib.hid (KR.out.below hb)
  replace FD := Lib.hid (FD.out.below hb)
  replace BEL := Lib.hid (below_trans BEL.out hb BEL.out.size)
  obtain ⟨A, hA⟩ : ∃ A, A = deal N (toFs (x :: D)) := ⟨_, rfl⟩
  rw [← hA] at ho
  have KA := Lib.hid ho.is
  have SA := Lib.hid (show Shared N T A (toF x) by rw [hA]; exact Shared.dealt (toF x) (by rw [List.length_map, HDL.out]; exact Nat.le_refl _))
  have HAL := Lib.hid (show (ofFs A).length = N by rw [hA, ofFs_length, deal_length])
  clear ho hb hA
  go_wp2_with fail
  refine (kFilled_any _ _ (T) _ KF.out (by omega)).mono ?_
  rintro e W7 ⟨vFE, rfl, ho, hb⟩
  try dsimp only
  replace KD := Lib.hid (KD.out.below hb)
  replace KF := Lib.hid (KF.out.below hb)
  replace KR := Lib.hid (KR.out.below hb)
  replace FD := Lib.hid (FD.out.below hb)
  replace KA := Lib.hid (KA.out.below hb)
  replace BEL := Lib.hid (below_trans BEL.out hb BEL.out.size)
  have hdl := fillL_length fs (T)
  obtain ⟨E, hD⟩ : ∃ D, D = fillL fs (T) := ⟨_, rfl⟩
  rw [← hD] at hdl ho
  have FE := Lib.hid ho.is
  have HEL := Lib.hid hdl
  clear ho hb hdl hD
  go_wp2_with fail
  refine (sDeal_ok y _ E N _ hy FE.out (by rw [HEL.out]; exact hT) (by rw [HEL.out]; omega) hN2).mono ?_
  rintro e W8 ⟨vKB, rfl, ho, hb⟩
  try dsimp only
  replace KD := Lib.hid (KD.out.below hb)
  replace KF := Lib.hid (KF.out.below hb)
  replace KR := Lib.hid (KR.out.below hb)
  replace FD := Lib.hid (FD.out.below hb)
  replace KA := Lib.hid (KA.out.below hb)
  replace FE := Lib.hid (FE.out.below hb)
  replace BEL := Lib.hid (below_trans BEL.out hb BEL.out.size)
  obtain ⟨B, hA⟩ : ∃ A, A = deal N (toFs (y :: E)) := ⟨_, rfl⟩
  rw [← hA] at ho
  have KB := Lib.hid ho.is
  have SB := Lib.hid (show Shared N T B (toF y) by rw [hA]; exact Shared.dealt (toF y) (by rw [List.length_map, HEL.out]; exact Nat.le_refl _))
  have HBL := Lib.hid (show (ofFs B).length = N by rw [hA, ofFs_length, deal_length])
  clear ho hb hA
  have hNT : N * T ≤ 36 := Nat.mul_le_mul hN2 hT
  have hnT0 : 0 ≤ (N : Int) * (T : Int) ∧ (N : Int) * (T : Int) ≤ 36 := by rw [show (N : Int) * (T : Int) = ((N * T : Nat) : Int) by simp]; omega
  go_wp2_with fail
  rw [show (N : Int) * (T : Int) = ((N * T : Nat) : Int) by simp]
  refine (kFilled_any _ _ (N * T) _ KR.out (by omega)).mono ?_
  rintro e W9 ⟨vFR, rfl, ho, hb⟩
  try dsimp only
  replace KD := Lib.hid (KD.out.below hb)
  replace KF := Lib.hid (KF.out.below hb)
  replace KR := Lib.hid (KR.out.below hb)
  replace FD := Lib.hid (FD.out.below hb)
  replace KA := Lib.hid (KA.out.below hb)
  replace FE := Lib.hid (FE.out.below hb)
  replace KB := Lib.hid (KB.out.below hb)
  replace BEL := Lib.hid (below_trans BEL.out hb BEL.out.size)
  have hdl := fillL_length rs (N * T)
  obtain ⟨R, hD⟩ : ∃ D, D = fillL rs (N * T) := ⟨_, rfl⟩
  rw [← hD] at hdl ho
  have FR := Lib.hid ho.is
  have HRL := Lib.hid hdl
  clear ho hb hdl hD
  go_wp2_with fail
  refine (gMul_ok N T _ _ _ _ _ R _ KA.out KB.out FR.out HAL.out HBL.out HRL.out hT hN1 hN2).mono ?_
  rintro e W10 ⟨vm, vg, vs, rfl, ho, hgd, _, hb⟩
  rw [toFs_ofFs, toFs_ofFs] at ho hgd
  try dsimp only
  replace KD := Lib.hid (KD.out.below hb)
  replace KF := Lib.hid (KF.out.below hb)
  replace KR := Lib.hid (KR.out.below hb)
  replace FD := Lib.hid (FD.out.below hb)
  replace KA := Lib.hid (KA.out.below hb)
  replace FE := Lib.hid (FE.out.below hb)
  replace KB := Lib.hid (KB.out.below hb)
  replace FR := Lib.hid (FR.out.below hb)
  replace BEL := Lib.hid (below_trans BEL.out hb BEL.out.size)
  obtain ⟨M, hM⟩ : ∃ M, M = mulOut N T A B (toFs R) := ⟨_, rfl⟩
  rw [← hM] at ho
  obtain ⟨Ag, cg, hv, _, _⟩ := own_form hgd.outer
  rw [List.length_map, show (gotM N T A B (toFs R)).length = N by simp [gotM]] at hv
  subst hv
  have KM := Lib.hid ho.is
  have SM := Lib.hid (show Shared N T M (toF x * toF y) by rw [hM]; exact SA.out.mul SB.out hN1 (by omega) _)
  have HML := Lib.hid (show (ofFs M).length = N by rw [hM, ofFs_length]; simp [mulOut, gotM])
  clear ho hb hgd hM SA SB KA KB FR FD FE
  go_wp2_with fail
  refine (kShares_any _ _ _ KM.out (by rw [HML.out]; omega)).mono ?_
  rintro e W11 ⟨vKS, rfl, ho, hb⟩
  try dsimp only
  replace KM := Lib.hid (KM.out.below hb)
  replace BEL := Lib.hid (below_trans BEL.out hb BEL.out.size)
  have KS := Lib.hid ho.is
  clear ho hb
  go_wp2_with fail
  obtain ⟨Q, hQ, hQl, hQ0⟩ := open_shared SM.out (show T + 1 ≤ N by omega)
  have HX := Lib.hid (show openX T Q = ofF (toF x * toF y) by unfold openX; rw [if_neg (by omega), hQ0])
  have HE := Lib.hid (show openE T Q = 0 from if_neg (by omega))
  have HQ := Lib.hid (show Interp (ptsF (shL (ofFs M))) Q by rw [shL_pts, HML.out, toFs_ofFs]; exact hQ)
  have HC := Lib.hid (shL_ok (zs := ofFs M) hT (by rw [HML.out]; omega) (by rw [HML.out]; omega))
  clear hQ hQl hQ0
  refine (sOpen_ok T _ _ Q _ KS.out HC.out HQ.out).mono ?_
  rintro e W12 ⟨rfl, hb⟩
  rw [HX.out, HE.out]
  clear HX HE HQ HC
  try dsimp only
  replace KM := Lib.hid (KM.out.below hb)
  replace KS := Lib.hid (KS.out.below hb)
  replace BEL := Lib.hid (below_trans BEL.out hb BEL.out.size)
  clear hb
  go_wp2_with fail
  refine (fMul_any _ _ _ hx.1 hy.1).mono ?_
  rintro e w' ⟨rfl, rfl⟩
  try dsimp only
  go_wp2_with fail
  go_ret
  exact ⟨rfl, BEL.out⟩
end Go.Proofs.Ytliegjpnjfmklaa
