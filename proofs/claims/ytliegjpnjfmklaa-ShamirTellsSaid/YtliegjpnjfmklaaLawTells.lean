/- The law ShamirTells, walked. -/
import Derived.Test.YtliegjpnjfmklaaShamK
import Derived.Test.YtliegjpnjfmklaaKeepW
namespace Go.Proofs.Ytliegjpnjfmklaa
open Go.RowKit Croft

set_option maxRecDepth 100000 in
set_option maxHeartbeats 2000000 in
theorem shamirTells_any (secret : Int) (vd : Value) (ds : List Int) (t n i by_ : Int) (w : World) (hs : U64 secret) (h1 : IsNums w vd ds) (hby : U64 by_) :
    Calls Try.prog 6 #[.int .u64 secret, vd, .int .i64 t, .int .i64 n, .int .i64 i, .int .u64 by_] w fun e w' => e = .returned (.bool true) ∧ Below w.heap.size w w' := by
  have KD := Lib.hid h1
  have BEL := Lib.hid (Below.refl w.heap.size w)
  have hby0 := hby.1
  go_enter Try.func6, Try.ntmps6
  go_wp2_with fail
  refine (kDealt_any _).mono ?_
  rintro e W1 ⟨rfl, hb⟩
  try dsimp only
  replace KD := Lib.hid (KD.out.below hb)
  replace BEL := Lib.hid (below_trans BEL.out hb BEL.out.size)
  clear hb
  go_wp2_with fail
  refine (kCrew_any t n _).mono ?_
  rintro e w' ⟨⟨T, N, hT, hN1, hN2, rfl⟩, rfl⟩
  try dsimp only
  go_wp2_with fail
  refine (kFilled_any _ _ T _ KD.out (by omega)).mono ?_
  rintro e W2 ⟨vf, rfl, ho, hb⟩
  try dsimp only
  replace KD := Lib.hid (KD.out.below hb)
  replace BEL := Lib.hid (below_trans BEL.out hb BEL.out.size)
  have hdl := fillL_length ds T
  generalize fillL ds T = D at *
  have KF := Lib.hid ho.is
  have HDL := Lib.hid hdl
  clear ho hb hdl KD
  go_wp2_with fail
  refine (sDeal_ok secret _ D N _ hs KF.out (by rw [HDL.out]; exact hT) (by rw [HDL.out]; omega) hN2).mono ?_
  rintro e W3 ⟨va, rfl, ho, hb⟩
  try dsimp only
  replace KF := Lib.hid (KF.out.below hb)
  replace BEL := Lib.hid (below_trans BEL.out hb BEL.out.size)
  have KA := Lib.hid ho.is
  clear ho hb KF
  by_cases hsm : (N : Int) < T + 2
  · skip
    go_wp2_with fail
    go_ret
    exact ⟨rfl, BEL.out⟩
  · have hd1 : decide ((N : Int) < T + 2) = false := by simpa using hsm
    go_wp2_with fail
    refine (fNorm_any _ _ hby0).mono ?_
    rintro e w' ⟨rfl, rfl⟩
    try dsimp only
    by_cases hz : toF by_ = 0
    · skip
      have hz0 : (ofF (toF by_) == 0) = true := by rw [hz]; rfl
      clear hz
      go_wp2_with fail
      go_ret
      exact ⟨rfl, BEL.out⟩
    · have hz0 : (ofF (toF by_) == 0) = false := by rw [beq_eq_false_iff_ne]; intro e; exact hz (ofF_eq_zero.1 e)
      have HZ := Lib.hid hz
      obtain ⟨p, hp⟩ : ∃ p, p = toFs (secret :: D) := ⟨_, rfl⟩
      have HP := Lib.hid (show p.length ≤ T + 1 by rw [hp, toFs_length, List.length_cons, HDL.out]; omega)
      rw [← hp] at KA
      clear hp hz
      obtain ⟨A, hA⟩ : ∃ A, A = ofFs (deal N p) := ⟨_, rfl⟩
      have hAL : A.length = N := by rw [hA, ofFs_length, deal_length]
      have HA := Lib.hid hA
      rw [← hA] at KA
      clear hA
      have HAL := Lib.hid hAL
      have hs3 := BEL.out.size
      clear hAL
      go_wp2_with fail
      refine (kShares_any _ _ _ KA.out (by rw [HAL.out]; omega)).mono ?_
      rintro e W4 ⟨vl, rfl, ho, hb⟩
      try dsimp only
      replace KA := Lib.hid (KA.out.below hb)
      replace BEL := Lib.hid (below_trans BEL.out hb BEL.out.size)
      have KL := Lib.hid ho
      obtain ⟨g, c, hv, hg⟩ := own_slice ho.1 (by rw [shL_length, HAL.out]; omega)
      rw [shL_length, HAL.out] at hv
      subst hv
      clear ho hb KA
      go_wp2_with fail
      refine (rRest_any i N _ (by omega) (by omega)).mono ?_
      rintro e w' ⟨⟨k, hk, rfl⟩, rfl⟩
      try dsimp only
      have hy : A[k]? = some (ofF (peval p (pt k))) := by rw [HA.out]; unfold ofFs; rw [List.getElem?_map, get_co (by rw [deal_length]; exact hk), deal_co p hk]; rfl
      have hcell := KL.out.cellY (shL_get hy)
      have hfrz := KL.out.frozen (k * 2 + 1)
      have HY := Lib.hid hy
      clear hy
      go_wp2_with fail
      refine (fAdd_any _ _ _ (ofF_nonneg _) hby0).mono ?_
      rintro e w' ⟨rfl, rfl⟩
      rw [toF_ofF]
      try dsimp only
      have K2 := KL.out.setY (shL_get HY.out) (U64.of_ofF (peval p (pt k) + toF by_))
      rw [shL_set HY.out] at K2
      have BEL2 := BEL.out.setCell (p := ⟨g, k * 2 + 1, none⟩) (show w.heap.size ≤ g by have := BEL.out.size; omega) (.int .u64 (ofF (peval p (pt k) + toF by_)))
      have KL2 := Lib.hid K2
      have B2 := Lib.hid BEL2
      clear K2 BEL2
      go_wp2_with fail
      obtain ⟨Q, hQ⟩ := interp_ex (ps := dpts N (toFs (A.set k (ofF (peval p (pt k) + toF by_))))) (by rw [dpts_fst]; exact ptsN_nodup (by omega))
      have hQ2 : T + 1 < Q.length := tell_wrong HP.out (show T + 2 ≤ N by omega) (by omega) hk HZ.out (by
        rw [show toFs (A.set k (ofF (peval p (pt k) + toF by_))) = (deal N p).set k (peval p (pt k) + toF by_) from by
          rw [HA.out]; unfold toFs; rw [List.map_set, toF_ofF]; congr 1; exact toFs_ofFs _] at hQ
        exact hQ)
      have hlen : (A.set k (ofF (peval p (pt k) + toF by_))).length = N := by rw [List.length_set, HAL.out]
      have HX := Lib.hid (show openE T Q = 6 from if_pos (by omega))
      have HQ := Lib.hid (show Interp (ptsF (shL (A.set k (ofF (peval p (pt k) + toF by_))))) Q by rw [shL_pts, hlen]; exact hQ)
      have HC := Lib.hid (shL_ok (zs := A.set k (ofF (peval p (pt k) + toF by_))) hT (by rw [hlen]; omega) (by rw [hlen]; omega))
      clear hQ hQ2 hlen
      refine (sOpen_ok T _ _ Q _ KL2.out.is HC.out HQ.out).mono ?_
      rintro e W6 ⟨rfl, hb⟩
      rw [HX.out]
      replace B2 := Lib.hid (below_trans B2.out hb B2.out.size)
      clear hb
      try dsimp only
      go_wp2_with fail
      go_ret
      exact ⟨rfl, B2.out⟩
end Go.Proofs.Ytliegjpnjfmklaa
