/- The law ListsOwn, walked. -/
import Derived.Test.YtknjcdlknnfhaaaKeyF
import Derived.Test.YtknjcdlknnfhaaaDrawsT
namespace Go.Proofs.Ytknjcdlknnfhaaa
open Go.RowKit Croft

set_option maxRecDepth 100000 in
set_option maxHeartbeats 4000000 in
theorem listsOwn_any (vd vf vc vi : Value) (ds fs : List Int) (gs : List Gt) (os ins : List Int) (t n : Int) (w : World) (h1 : IsNums w vd ds) (h2 : IsNums w vf fs) (h3 : IsCirc w vc gs os) (h4 : IsNums w vi ins) :
    Calls Try.prog 4 #[vd, vf, .int .i64 t, .int .i64 n, vc, vi] w fun e w' => e = .returned (.bool true) ∧ Below w.heap.size w w' := by
  have KD := Lib.hid h1
  have KF := Lib.hid h2
  have KC := Lib.hid h3
  have KI := Lib.hid h4
  suffices hgoal : ∀ Post : Ending → World → Prop, (∀ w', Below w.heap.size w w' → Post (.returned (.bool true)) w') → Calls Try.prog 4 #[vd, vf, .int .i64 t, .int .i64 n, vc, vi] w Post from hgoal _ fun w' h => ⟨rfl, h⟩
  intro Post hpo
  have HP := Lib.hid hpo
  obtain ⟨vg, vo, rfl, hg, ho⟩ := h3
  obtain ⟨A1, c1, rfl, hc1', hm1, hl1, hu1, hr1⟩ := hg
  obtain ⟨A2, c2, rfl, hc2', hm2, hl2, hu2, hr2⟩ := ho
  have hb0 := (Below.refl w.heap.size w).alloc (Nat.le_refl _) (.cells #[.slice A1 gs.length c1, .slice A2 os.length c2] 25)
  have BT := Lib.hid hb0
  have BX := Lib.hid (Box.new w 25 [.slice A1 gs.length c1, .slice A2 os.length c2])
  clear h1 h2 h4 hu1 hr1 hm1 hu2 hr2 hm2 hpo hb0
  go_enter Try.func4, Try.ntmps4
  try dsimp only
  go_wp2_with fail
  refine (kDealt_any _).mono ?_
  rintro e W1 ⟨rfl, hb⟩
  replace BX := Lib.hid (BX.out.below hb)
  replace BT := Lib.hid (below_trans BT.out hb BT.out.size)
  clear hb
  try dsimp only
  go_wp2_with fail
  refine (kWorked_any _).mono ?_
  rintro e W2 ⟨rfl, hb⟩
  replace BX := Lib.hid (BX.out.below hb)
  replace BT := Lib.hid (below_trans BT.out hb BT.out.size)
  clear hb
  try dsimp only
  go_wp2_with fail
  refine (kCrew_any t n _).mono ?_
  rintro e w' ⟨⟨T, N, hT, hN1, hN2, rfl⟩, rfl⟩
  obtain ⟨m0, hm0⟩ : ∃ m0 : Nat, N * (T + 1) = m0 := ⟨_, rfl⟩
  obtain ⟨m1, hm1⟩ : ∃ m1 : Nat, N * T = m1 := ⟨_, rfl⟩
  have hmul0 : (N : Int) * ((T : Int) + 1) = (m0 : Int) := by rw [← hm0]; simp
  have hmul1 : (N : Int) * (T : Int) = (m1 : Int) := by rw [← hm1]; simp
  have hm0b : m0 ≤ 45 := by rw [← hm0]; exact Nat.le_trans (Nat.mul_le_mul hN2 (show T + 1 ≤ 5 by omega)) (by omega)
  have hm1b : m1 ≤ 36 := by rw [← hm1]; exact Nat.le_trans (Nat.mul_le_mul hN2 hT) (by omega)
  have hwr1 : IntKind.i64.wrap (m1 : Int) = (m1 : Int) := IntWalk.i64_in _ (by omega)
  have hwr0 : IntKind.i64.wrap (m0 : Int) = (m0 : Int) := IntWalk.i64_in _ (by omega)
  have HM0 := Lib.hid hm0
  have HM1 := Lib.hid hm1
  clear hm0 hm1
  try dsimp only
  go_wp2_with fail
  refine (kFilled_any _ ds T _ (KD.out.below BT.out) (by omega)).mono ?_
  rintro e W3 ⟨vx, rfl, hox, hb⟩
  replace BX := Lib.hid (BX.out.below hb)
  replace BT := Lib.hid (below_trans BT.out hb BT.out.size)
  obtain ⟨xs, hxs⟩ : ∃ xs, xs = fillL ds T := ⟨_, rfl⟩
  have HXL := Lib.hid (show xs.length = T by rw [hxs, fillL_length])
  rw [← hxs] at hox
  have KX := Lib.hid hox
  clear hxs hox hb
  try dsimp only
  go_wp2_with fail
  refine (sDeal_ok 5 _ xs N _ ⟨by omega, by omega⟩ KX.out.is (by rw [HXL.out]; exact hT) (by rw [HXL.out]; omega) hN2).mono ?_
  rintro e W4 ⟨va, rfl, hoa, hb⟩
  replace BX := Lib.hid (BX.out.below hb)
  replace KX := Lib.hid (KX.out.below hb)
  replace BT := Lib.hid (below_trans BT.out hb BT.out.size)
  obtain ⟨aa, has⟩ : ∃ aa, aa = ofFs (deal N (toFs (5 :: xs))) := ⟨_, rfl⟩
  have HAL := Lib.hid (show aa.length = N by rw [has, ofFs_length, deal_length])
  rw [← has] at hoa
  have KA := Lib.hid hoa
  clear has hoa hb
  try dsimp only
  go_wp2_with fail
  refine (cl_own _ aa _ _ KA.out).mono ?_
  rintro e W5 ⟨vWA, rfl, hoc, hb⟩
  replace BX := Lib.hid (BX.out.below hb)
  replace KX := Lib.hid (KX.out.below hb)
  replace KA := Lib.hid (KA.out.below hb)
  replace BT := Lib.hid (below_trans BT.out hb BT.out.size)
  have KWA := Lib.hid hoc
  clear hoc hb
  try dsimp only
  go_wp2_with fail
  refine (cl_own _ xs _ _ KX.out).mono ?_
  rintro e W6 ⟨vWX, rfl, hoc, hb⟩
  replace BX := Lib.hid (BX.out.below hb)
  replace KX := Lib.hid (KX.out.below hb)
  replace KA := Lib.hid (KA.out.below hb)
  replace KWA := Lib.hid (KWA.out.below hb)
  replace BT := Lib.hid (below_trans BT.out hb BT.out.size)
  have KWX := Lib.hid hoc
  clear hoc hb
  try dsimp only
  go_wp2_with fail
  refine (kFilled_any _ fs m1 _ (KF.out.below BT.out) (by omega)).mono ?_
  rintro e W7 ⟨vy, rfl, hoy, hb⟩
  replace BX := Lib.hid (BX.out.below hb)
  replace KX := Lib.hid (KX.out.below hb)
  replace KA := Lib.hid (KA.out.below hb)
  replace KWA := Lib.hid (KWA.out.below hb)
  replace KWX := Lib.hid (KWX.out.below hb)
  replace BT := Lib.hid (below_trans BT.out hb BT.out.size)
  obtain ⟨ys, hys⟩ : ∃ ys, ys = fillL fs m1 := ⟨_, rfl⟩
  have HYL := Lib.hid (show ys.length = N * T by rw [hys, fillL_length, HM1.out])
  rw [← hys] at hoy
  have KY := Lib.hid hoy
  clear hys hoy hb
  try dsimp only
  go_wp2_with fail
  refine (cl_own _ ys _ _ KY.out).mono ?_
  rintro e W8 ⟨vWY, rfl, hoc, hb⟩
  replace BX := Lib.hid (BX.out.below hb)
  replace KX := Lib.hid (KX.out.below hb)
  replace KA := Lib.hid (KA.out.below hb)
  replace KWA := Lib.hid (KWA.out.below hb)
  replace KWX := Lib.hid (KWX.out.below hb)
  replace KY := Lib.hid (KY.out.below hb)
  replace BT := Lib.hid (below_trans BT.out hb BT.out.size)
  have KWY := Lib.hid hoc
  clear hoc hb
  have HWB := Lib.hid (show True from trivial)
  try dsimp only
  go_wp2_with fail
  refine (gMul_ok N T _ _ _ aa aa ys _ KA.out.is KA.out.is KY.out.is HAL.out HAL.out HYL.out hT hN1 hN2).mono ?_
  rintro e W9 ⟨vl, vgt, vgs, rfl, hol, hgr, hap, hb⟩
  obtain ⟨rw0, hrw⟩ : ∃ rw0, rw0 = (gotM N T (toFs aa) (toFs aa) (toFs ys)).map ofFs := ⟨_, rfl⟩
  have HGN := Lib.hid (show rw0.length = N by rw [hrw]; simp [gotM])
  rw [← hrw] at hgr
  have HGV := Lib.hid (show vgs.length = N by rw [hgr.vlen, HGN.out])
  have HAPT := Lib.hid hgr.apart
  have RL00 := Lib.hid (RowsLeft.start hgr)
  have KL := Lib.hid hol
  have HAP := Lib.hid hap
  have HB := Lib.hid hb
  obtain ⟨gg, cg, hvg, _, _⟩ := own_slice hgr.outer (by rw [HGN.out]; omega)
  rw [HGN.out] at hvg
  subst hvg
  clear hrw hgr hol hap hb HWB
  try dsimp only
  go_wp2_with fail
  refine (spoil_any vl _ _ _ KL.out).mono ?_
  rintro e W10 ⟨rfl, hgr, hbl⟩
  have HGR := Lib.hid hgr
  have HBL := Lib.hid (HB.out.trans hbl)
  clear hgr hbl
  have RL0 := Lib.hid (RL00.out.other KL.out HGR.out (fun i x c hx hc hv => HAP.out i x c hx hc hv))
  have BC0 := Lib.hid HBL.out
  clear RL00 KL HGR HBL HAP HB
  try dsimp only
  go_wp2_with fail
  go_loopw [100] (fun i wr => ∃ k : Nat, k ≤ N ∧ i = .int .i64 k ∧ RowsLeft wr W8.heap.size (.slice (some ⟨gg, 0, none⟩) N cg) vgs rw0 k ∧ Below W8.heap.size W8 wr) (fun i _ => N - (intOf i).toNat)
  case atStart => exact ⟨0, Nat.zero_le _, rfl, RL0.out, BC0.out⟩
  case round =>
    obtain ⟨k, hk, rfl, hrl, hbel⟩ := hrel
    clear RL0 BC0
    have RL := Lib.hid hrl
    have BC := Lib.hid hbel
    clear hrl hbel
    by_cases hlt : k < N
    · obtain ⟨xg, hxg⟩ : ∃ xg, vgs[k]? = some xg := ⟨_, List.getElem?_eq_getElem (by rw [HGV.out]; exact hlt)⟩
      obtain ⟨rg, hrg⟩ : ∃ rg, rw0[k]? = some rg := ⟨_, List.getElem?_eq_getElem (by rw [HGN.out]; exact hlt)⟩
      have hcg := RL.out.cell HGN.out hxg (by omega)
      have HXG := Lib.hid hxg
      have HRG := Lib.hid hrg
      have KR := Lib.hid (RL.out.2 k xg rg (Nat.le_refl _) hxg hrg)
      clear hxg hrg
      go_wp2_with fail
      refine (spoil_any xg _ _ _ KR.out).mono ?_
      rintro e wn ⟨rfl, hgr, hbl⟩
      have RL2 := Lib.hid (RL.out.next HXG.out HRG.out HAPT.out hgr)
      have BC2 := Lib.hid (BC.out.trans hbl)
      clear hgr hbl hcg
      try dsimp only
      go_wp2_with fail
      exact ⟨⟨k + 1, by omega, by go_num, RL2.out, BC2.out⟩, by simp [intOf] <;> omega⟩
    · obtain rfl : k = N := by omega
      replace BX := Lib.hid (BX.out.below BC.out)
      replace KX := Lib.hid (KX.out.below BC.out)
      replace KA := Lib.hid (KA.out.below BC.out)
      replace KWA := Lib.hid (KWA.out.below BC.out)
      replace KWX := Lib.hid (KWX.out.below BC.out)
      replace KY := Lib.hid (KY.out.below BC.out)
      replace KWY := Lib.hid (KWY.out.below BC.out)
      replace BT := Lib.hid (below_trans BT.out BC.out BT.out.size)
      clear BC RL
      have hN0 : 0 < k := by omega
      try dsimp only
      go_wp2_with fail
      refine (gAdd_any _ _ aa aa _ KA.out.is KA.out.is).mono ?_
      rintro e W11 ⟨vu, rfl, hou, hb⟩
      have KU := Lib.hid hou
      have HB := Lib.hid hb
      clear hou hb
      try dsimp only
      go_wp2_with fail
      refine (spoil_any vu _ _ _ KU.out).mono ?_
      rintro e W12 ⟨rfl, hgr, hbl⟩
      have HGR := Lib.hid hgr
      have HBL := Lib.hid (HB.out.trans hbl)
      clear hgr hbl
      clear KU HB HGR
      replace BX := Lib.hid (BX.out.below HBL.out)
      replace KX := Lib.hid (KX.out.below HBL.out)
      replace KA := Lib.hid (KA.out.below HBL.out)
      replace KWA := Lib.hid (KWA.out.below HBL.out)
      replace KWX := Lib.hid (KWX.out.below HBL.out)
      replace KY := Lib.hid (KY.out.below HBL.out)
      replace KWY := Lib.hid (KWY.out.below HBL.out)
      replace BT := Lib.hid (below_trans BT.out HBL.out BT.out.size)
      clear HBL
      try dsimp only
      go_wp2_with fail
      refine (hShift_ok _ _ [] xs 1 2 _ (OwnInts.nil _ 0).is KX.out.is (by decide) (by rw [HXL.out]; exact hT) (by simp) (by omega) (by omega)).mono ?_
      rintro e W13 ⟨vu, rfl, hou, hb⟩
      have KU := Lib.hid hou
      have HB := Lib.hid hb
      clear hou hb
      try dsimp only
      go_wp2_with fail
      refine (spoil_any vu _ _ _ KU.out).mono ?_
      rintro e W14 ⟨rfl, hgr, hbl⟩
      have HGR := Lib.hid hgr
      have HBL := Lib.hid (HB.out.trans hbl)
      clear hgr hbl
      clear KU HB HGR
      replace BX := Lib.hid (BX.out.below HBL.out)
      replace KX := Lib.hid (KX.out.below HBL.out)
      replace KA := Lib.hid (KA.out.below HBL.out)
      replace KWA := Lib.hid (KWA.out.below HBL.out)
      replace KWX := Lib.hid (KWX.out.below HBL.out)
      replace KY := Lib.hid (KY.out.below HBL.out)
      replace KWY := Lib.hid (KWY.out.below HBL.out)
      replace BT := Lib.hid (below_trans BT.out HBL.out BT.out.size)
      clear HBL
      try dsimp only
      go_wp2_with fail
      refine (pNorm_ok _ aa _ KA.out.is (by rw [HAL.out]; omega)).mono ?_
      rintro e W15 ⟨vu, rfl, hou, hb⟩
      have KU := Lib.hid hou
      have HB := Lib.hid hb
      clear hou hb
      try dsimp only
      go_wp2_with fail
      refine (spoil_any vu _ _ _ KU.out).mono ?_
      rintro e W16 ⟨rfl, hgr, hbl⟩
      have HGR := Lib.hid hgr
      have HBL := Lib.hid (HB.out.trans hbl)
      clear hgr hbl
      clear KU HB HGR
      replace BX := Lib.hid (BX.out.below HBL.out)
      replace KX := Lib.hid (KX.out.below HBL.out)
      replace KA := Lib.hid (KA.out.below HBL.out)
      replace KWA := Lib.hid (KWA.out.below HBL.out)
      replace KWX := Lib.hid (KWX.out.below HBL.out)
      replace KY := Lib.hid (KY.out.below HBL.out)
      replace KWY := Lib.hid (KWY.out.below HBL.out)
      replace BT := Lib.hid (below_trans BT.out HBL.out BT.out.size)
      clear HBL
      try dsimp only
      go_wp2_with fail
      refine (equal_any _ _ _ _ _ KA.out.is KWA.out.is).mono ?_
      rintro e w' ⟨rfl, nq, rfl⟩
      rw [decide_eq_true rfl]
      have HBQ := Lib.hid (below_drewN (Below.refl (World.heap W16).size W16) nq)
      replace BX := Lib.hid (BX.out.below HBQ.out)
      replace KX := Lib.hid (KX.out.below HBQ.out)
      replace KA := Lib.hid (KA.out.below HBQ.out)
      replace KWA := Lib.hid (KWA.out.below HBQ.out)
      replace KWX := Lib.hid (KWX.out.below HBQ.out)
      replace KY := Lib.hid (KY.out.below HBQ.out)
      replace KWY := Lib.hid (KWY.out.below HBQ.out)
      replace BT := Lib.hid (below_trans BT.out HBQ.out BT.out.size)
      clear HBQ
      obtain ⟨wq, hwq⟩ : ∃ wq, wq = W16.drewN nq := ⟨_, rfl⟩
      rw [← hwq] at BX KX KA KWA KWX KY KWY BT ⊢
      clear hwq
      obtain ⟨W17, hV⟩ : ∃ V, V = wq := ⟨_, rfl⟩
      subst hV
      try dsimp only
      go_wp2_with fail
      refine (equal_any _ _ _ _ _ KX.out.is KWX.out.is).mono ?_
      rintro e w' ⟨rfl, nq, rfl⟩
      rw [decide_eq_true rfl]
      have HBQ := Lib.hid (below_drewN (Below.refl (World.heap W17).size W17) nq)
      replace BX := Lib.hid (BX.out.below HBQ.out)
      replace KX := Lib.hid (KX.out.below HBQ.out)
      replace KA := Lib.hid (KA.out.below HBQ.out)
      replace KWA := Lib.hid (KWA.out.below HBQ.out)
      replace KWX := Lib.hid (KWX.out.below HBQ.out)
      replace KY := Lib.hid (KY.out.below HBQ.out)
      replace KWY := Lib.hid (KWY.out.below HBQ.out)
      replace BT := Lib.hid (below_trans BT.out HBQ.out BT.out.size)
      clear HBQ
      obtain ⟨wq, hwq⟩ : ∃ wq, wq = W17.drewN nq := ⟨_, rfl⟩
      rw [← hwq] at BX KX KA KWA KWX KY KWY BT ⊢
      clear hwq
      obtain ⟨W18, hV⟩ : ∃ V, V = wq := ⟨_, rfl⟩
      subst hV
      try dsimp only
      go_wp2_with fail
      refine (equal_any _ _ _ _ _ KY.out.is KWY.out.is).mono ?_
      rintro e w' ⟨rfl, nq, rfl⟩
      rw [decide_eq_true rfl]
      have HBQ := Lib.hid (below_drewN (Below.refl (World.heap W18).size W18) nq)
      replace BX := Lib.hid (BX.out.below HBQ.out)
      replace KX := Lib.hid (KX.out.below HBQ.out)
      replace KA := Lib.hid (KA.out.below HBQ.out)
      replace KWA := Lib.hid (KWA.out.below HBQ.out)
      replace KWX := Lib.hid (KWX.out.below HBQ.out)
      replace KY := Lib.hid (KY.out.below HBQ.out)
      replace KWY := Lib.hid (KWY.out.below HBQ.out)
      replace BT := Lib.hid (below_trans BT.out HBQ.out BT.out.size)
      clear HBQ
      obtain ⟨wq, hwq⟩ : ∃ wq, wq = W18.drewN nq := ⟨_, rfl⟩
      rw [← hwq] at BX KX KA KWA KWX KY KWY BT ⊢
      clear hwq
      obtain ⟨W19, hV⟩ : ∃ V, V = wq := ⟨_, rfl⟩
      subst hV
      clear KX KA KWA KWX KY KWY
      have hwl := BX.out.lt
      try dsimp only
      go_wp2_with fail
      refine (kNew_ok k T _ hT (by omega) hN2 hN1).mono ?_
      rintro e W20 ⟨kb, mb, V0, rfl, hk0, hb⟩
      replace BX := Lib.hid (BX.out.below hb)
      replace BT := Lib.hid (below_trans BT.out hb BT.out.size)
      have KK := Lib.hid hk0
      have hkb := hk0.lt
      have hmb := hk0.store.lt
      have hbs := hb.size
      have hkl := hk0.le
      have hml := hk0.store.le
      have hne := hk0.store.le
      clear hk0 hb hne
      try dsimp only
      go_wp2_with fail
      refine (kFilled_any _ ds m0 _ (KD.out.below BT.out) (by omega)).mono ?_
      rintro e W21 ⟨vz, rfl, hoz, hb⟩
      replace BX := Lib.hid (BX.out.below hb)
      replace KK := Lib.hid (KK.out.below hb)
      replace BT := Lib.hid (below_trans BT.out hb BT.out.size)
      obtain ⟨zs, hzs⟩ : ∃ zs, zs = fillL ds m0 := ⟨_, rfl⟩
      have HZL := Lib.hid (show zs.length = k * (T + 1) by rw [hzs, fillL_length, HM0.out])
      rw [← hzs] at hoz
      have KZ := Lib.hid hoz
      have HZK := Lib.hid (show vz.ownBlock ≠ some kb ∧ vz.ownBlock ≠ some mb from ⟨fun e => by have := hoz.over _ e; omega, fun e => by have := hoz.over _ e; omega⟩)
      clear hzs hoz hb
      try dsimp only
      go_wp2_with fail
      refine (kGen_new _ zs _ KK.out KZ.out.is HZL.out hT hN2 (by omega) (by omega)).mono ?_
      intro e W22 hgen
      rw [if_neg (by decide)] at hgen
      obtain ⟨rfl, ⟨V1, hk1, hfr⟩, hnear⟩ := hgen
      have HNR := Lib.hid hnear
      have HFR := Lib.hid hfr
      have KK1 := Lib.hid hk1
      have HZLT := Lib.hid (show ∀ c, vz.ownBlock = some c → c < W21.heap.size from fun c hc => (KZ.out.1.lt c hc).2)
      have KZ1 := Lib.hid (KZ.out.nearK hnear HZK.out.1 HZK.out.2)
      have BXN := Lib.hid (show Box W22 w.heap.size 25 [.slice A1 gs.length c1, .slice A2 os.length c2] from (hnear.block w.heap.size BX.out.lt (by have := BX.out.lt; omega) (by have := BX.out.lt; omega)).trans BX.out)
      have BTN := Lib.hid (BT.out.trans (hnear.low (base := w.heap.size) (by omega) (by omega) BT.out.size))
      clear hk1 hfr hnear BX BT KK KZ HNR
      obtain ⟨x1, hx1⟩ : ∃ x1, x1 = fsum k fun i => peval (genP T zs i) 0 := ⟨_, rfl⟩
      have HSH := Lib.hid (show Shared k T (toFs (ofFs (sumD k (genP T zs) k))) x1 by
        rw [toFs_ofFs, hx1]
        exact sumD_shared (n := k) (t := T) (f := genP T zs) k (fun i _ => by unfold genP; rw [toFs_length]; simp; omega))
      have HS1 := Lib.hid (show upd (fun _ => none) ((0 + 1 : Nat) : Int) (some (ofFs (sumD k (genP T zs) k))) 1 = some (ofFs (sumD k (genP T zs) k)) from if_pos rfl)
      obtain ⟨l1, hl1'⟩ : ∃ l1, l1 = ofFs (sumD k (genP T zs) k) := ⟨_, rfl⟩
      rw [← hl1'] at HSH HS1 KK1
      have BT := Lib.hid BTN.out
      have BX := Lib.hid BXN.out
      have KK := Lib.hid KK1.out
      have KZ := Lib.hid KZ1.out
      have h11 : I64 1 := by unfold I64; omega
      clear BTN BXN KK1 KZ1 hx1 hl1'
      try dsimp only
      go_wp2_with fail
      refine (kOpen_ok 1 l1 x1 _ KK.out h11 HS1.out HSH.out hT (by omega) hN2).mono ?_
      rintro e W23 ⟨rfl, hb⟩
      replace BX := Lib.hid (BX.out.below hb)
      replace KK := Lib.hid (KK.out.below hb)
      replace KZ := Lib.hid (KZ.out.below hb)
      replace BT := Lib.hid (below_trans BT.out hb BT.out.size)
      clear hb
      try dsimp only
      go_wp2_with fail
      refine (spoil_any vz _ _ _ KZ.out).mono ?_
      rintro e W24 ⟨rfl, hgr, hbl⟩
      have KKS := Lib.hid (KK.out.spoilt hgr HZK.out.1 HZK.out.2 (fun z zs' hz c hc hv => by
        have hz1 : z = ((0 + 1 : Nat) : Int) := by
          unfold upd at hz
          by_cases e1 : z = ((0 + 1 : Nat) : Int)
          · exact e1
          · rw [if_neg e1] at hz; cases hz
        rw [hz1] at hc
        have q1 := HFR.out c hc
        have q2 := HZLT.out c hv
        omega))
      have BXS := Lib.hid (BX.out.grown hgr (fun e => by have := KZ.out.over _ e; omega))
      have BTS := Lib.hid (BT.out.trans (hbl.mono (by omega)))
      clear hgr hbl BX KK BT KZ
      have BX := Lib.hid BXS.out
      have KK := Lib.hid KKS.out
      have BT := Lib.hid BTS.out
      clear BXS KKS BTS
      try dsimp only
      go_wp2_with fail
      refine (kShares_ok 1 l1 _ KK.out h11 HS1.out (by omega)).mono ?_
      rintro e W25 ⟨vu, rfl, hou, hb⟩
      have KU := Lib.hid hou
      have HB := Lib.hid hb
      clear hou hb
      try dsimp only
      go_wp2_with fail
      refine (spoil_any vu _ _ _ KU.out).mono ?_
      rintro e W26 ⟨rfl, hgr, hbl⟩
      have HGR := Lib.hid hgr
      have HBL := Lib.hid (HB.out.trans hbl)
      clear hgr hbl
      clear KU HB HGR
      replace BX := Lib.hid (BX.out.below HBL.out)
      replace KK := Lib.hid (KK.out.below HBL.out)
      replace BT := Lib.hid (below_trans BT.out HBL.out BT.out.size)
      clear HBL
      try dsimp only
      go_wp2_with fail
      refine (kOpen_ok 1 l1 x1 _ KK.out h11 HS1.out HSH.out hT (by omega) hN2).mono ?_
      rintro e W27 ⟨rfl, hb⟩
      replace BX := Lib.hid (BX.out.below hb)
      replace KK := Lib.hid (KK.out.below hb)
      replace BT := Lib.hid (below_trans BT.out hb BT.out.size)
      clear hb KK
      have hbx1 : (ofF x1 != ofF x1) = false := by simp
      have hc0 := BX.out.cell (i := 0) rfl
      have hc1 := BX.out.cell (i := 1) rfl
      try dsimp only
      go_wp2_with fail
      refine (eNeed_any _ gs os k T _ (KC.out.below BT.out)).mono ?_
      rintro e W28 ⟨rfl, hb⟩
      replace BX := Lib.hid (BX.out.below hb)
      replace BT := Lib.hid (below_trans BT.out hb BT.out.size)
      clear hb hc0 hc1 hbx1
      have hc0 := BX.out.cell (i := 0) rfl
      have hc1 := BX.out.cell (i := 1) rfl
      try dsimp only
      go_wp2_with fail
      refine (cInputs_any _ gs os _ (KC.out.below BT.out)).mono ?_
      rintro e W29 ⟨vw, rfl, how, hb⟩
      obtain ⟨Aw, cw', hv, _, _⟩ := own_form how.1
      subst hv
      replace BX := Lib.hid (BX.out.below hb)
      replace BT := Lib.hid (below_trans BT.out hb BT.out.size)
      clear hb how hc0 hc1
      have hc0 := BX.out.cell (i := 0) rfl
      have hc1 := BX.out.cell (i := 1) rfl
      obtain ⟨E, hE⟩ : ∃ E, E = crewE gs os k T := ⟨_, rfl⟩
      have HE := Lib.hid hE
      rw [← hE]
      by_cases h0 : E = 0
      · have hcz : crewE gs os k T = 0 := by rw [← hE]; exact h0
        have HCZ := Lib.hid hcz
        have hok := (crewE_zero.1 hcz).1
        have hg30 := hok.g2
        have HIW := Lib.hid (show inputsL gs os = whoseL gs from if_pos (circE_zero.2 hok))
        have HND := Lib.hid (show eNeedN gs os k T = (dat k T gs gs.length : Int) by unfold eNeedN; rw [if_pos hcz, Int.toNat_natCast, Int.toNat_natCast])
        have hdl : dat k T gs gs.length ≤ 36 * 30 := by have := dat_small (gs := gs) hN2 hT gs.length; omega
        obtain ⟨M, hM⟩ : ∃ M, M = dat k T gs gs.length := ⟨_, rfl⟩
        have HM := Lib.hid hM
        obtain ⟨L, hL⟩ : ∃ L, L = (inputsL gs os).length := ⟨_, rfl⟩
        have HLW := Lib.hid (show L = (whoseL gs).length by rw [hL, HIW.out])
        have hL30 : L ≤ 30 := by rw [HLW.out]; exact Nat.le_trans (whoseL_le gs) hg30
        rw [HND.out, ← hM, ← hL]
        rw [← hM] at hdl
        subst h0
        clear hE hcz hok hM hL
        try dsimp only
        go_wp2_with fail
        refine (kFilled_any _ ins L _ (KI.out.below BT.out) (by omega)).mono ?_
        rintro e W30 ⟨vI, rfl, hoI, hb⟩
        replace BX := Lib.hid (BX.out.below hb)
        replace BT := Lib.hid (below_trans BT.out hb BT.out.size)
        obtain ⟨lI, hlI⟩ : ∃ l, l = fillL ins L := ⟨_, rfl⟩
        have HLI := Lib.hid (show lI.length = L by rw [hlI, fillL_length])
        rw [← hlI] at hoI
        have KI := Lib.hid hoI
        clear hlI hoI hb
        try dsimp only
        go_wp2_with fail
        refine (kFilled_any _ fs M _ (KF.out.below BT.out) (by omega)).mono ?_
        rintro e W31 ⟨vJ, rfl, hoJ, hb⟩
        replace BX := Lib.hid (BX.out.below hb)
        replace KI := Lib.hid (KI.out.below hb)
        replace BT := Lib.hid (below_trans BT.out hb BT.out.size)
        obtain ⟨lJ, hlJ⟩ : ∃ l, l = fillL fs M := ⟨_, rfl⟩
        have HLJ := Lib.hid (show lJ.length = M by rw [hlJ, fillL_length])
        rw [← hlJ] at hoJ
        have KJ := Lib.hid hoJ
        clear hlJ hoJ hb
        try dsimp only
        go_wp2_with fail
        refine (cl_own _ lI _ _ KI.out).mono ?_
        rintro e W32 ⟨vWI, rfl, hoc, hb⟩
        replace BX := Lib.hid (BX.out.below hb)
        replace KI := Lib.hid (KI.out.below hb)
        replace KJ := Lib.hid (KJ.out.below hb)
        replace BT := Lib.hid (below_trans BT.out hb BT.out.size)
        have KWI := Lib.hid hoc
        clear hoc hb
        try dsimp only
        go_wp2_with fail
        refine (cl_own _ lJ _ _ KJ.out).mono ?_
        rintro e W33 ⟨vWJ, rfl, hoc, hb⟩
        replace BX := Lib.hid (BX.out.below hb)
        replace KI := Lib.hid (KI.out.below hb)
        replace KJ := Lib.hid (KJ.out.below hb)
        replace KWI := Lib.hid (KWI.out.below hb)
        replace BT := Lib.hid (below_trans BT.out hb BT.out.size)
        have KWJ := Lib.hid hoc
        clear hoc hb
        clear hc0 hc1
        have hc0 := BX.out.cell (i := 0) rfl
        have hc1 := BX.out.cell (i := 1) rfl
        try dsimp only
        go_wp2_with fail
        refine (eRun_ok _ _ _ gs os lI lJ k T _ (KC.out.below BT.out) KI.out.is KJ.out.is HCZ.out (by rw [HLI.out, HLW.out]) (by rw [HLJ.out, HM.out])).mono ?_
        rintro e W34 ⟨vou, gq, vqs, rfl, hol, hgr, hap, hb⟩
        obtain ⟨rw1, hrw⟩ : ∃ rw1, rw1 = (rowsN k fun j => ofFs (eo k T gs os (toFs lI) (toFs lJ) os.length j)) := ⟨_, rfl⟩
        rw [← hrw] at hgr
        have HGN := Lib.hid (show rw1.length = k by rw [hrw, rowsN_length])
        have HGV := Lib.hid (show vqs.length = k by rw [hgr.vlen, HGN.out])
        have HAPT := Lib.hid hgr.apart
        have RL00 := Lib.hid (RowsLeft.start hgr)
        have KL := Lib.hid hol
        have HAP := Lib.hid hap
        have HB := Lib.hid hb
        clear hrw hgr hol hap hb hc0 hc1
        try dsimp only
        go_wp2_with fail
        refine (spoil_any vou _ _ _ KL.out).mono ?_
        rintro e W35 ⟨rfl, hgr, hbl⟩
        have HGR := Lib.hid hgr
        have HBL := Lib.hid (HB.out.trans hbl)
        clear hgr hbl
        have RL0 := Lib.hid (RL00.out.other KL.out HGR.out (fun i x c hx hc hv => HAP.out i x hx c hv hc))
        have BC0 := Lib.hid HBL.out
        clear RL00 KL HGR HBL HAP HB
        try dsimp only
        go_wp2_with fail
        go_loopw [229] (fun i wr => ∃ q : Nat, q ≤ k ∧ i = .int .i64 q ∧ RowsLeft wr W33.heap.size (.slice (some ⟨gq, 0, none⟩) k k) vqs rw1 q ∧ Below W33.heap.size W33 wr) (fun i _ => k - (intOf i).toNat)
        case atStart => exact ⟨0, Nat.zero_le _, rfl, RL0.out, BC0.out⟩
        case round =>
          obtain ⟨q, hk, rfl, hrl, hbel⟩ := hrel
          clear RL0 BC0
          have RL := Lib.hid hrl
          have BC := Lib.hid hbel
          clear hrl hbel
          by_cases hlt : q < k
          · obtain ⟨xg, hxg⟩ : ∃ xg, vqs[q]? = some xg := ⟨_, List.getElem?_eq_getElem (by rw [HGV.out]; exact hlt)⟩
            obtain ⟨rg, hrg⟩ : ∃ rg, rw1[q]? = some rg := ⟨_, List.getElem?_eq_getElem (by rw [HGN.out]; exact hlt)⟩
            have hcg := RL.out.cell HGN.out hxg (by omega)
            have HXG := Lib.hid hxg
            have HRG := Lib.hid hrg
            have KR := Lib.hid (RL.out.2 q xg rg (Nat.le_refl _) hxg hrg)
            clear hxg hrg
            go_wp2_with fail
            refine (spoil_any xg _ _ _ KR.out).mono ?_
            rintro e wn ⟨rfl, hgr, hbl⟩
            have RL2 := Lib.hid (RL.out.next HXG.out HRG.out HAPT.out hgr)
            have BC2 := Lib.hid (BC.out.trans hbl)
            clear hgr hbl hcg
            try dsimp only
            go_wp2_with fail
            exact ⟨⟨q + 1, by omega, by go_num, RL2.out, BC2.out⟩, by simp [intOf] <;> omega⟩
          · obtain rfl : q = k := by omega
            replace BX := Lib.hid (BX.out.below BC.out)
            replace KI := Lib.hid (KI.out.below BC.out)
            replace KJ := Lib.hid (KJ.out.below BC.out)
            replace KWI := Lib.hid (KWI.out.below BC.out)
            replace KWJ := Lib.hid (KWJ.out.below BC.out)
            replace BT := Lib.hid (below_trans BT.out BC.out BT.out.size)
            clear BC RL
            try dsimp only
            go_wp2_with fail
            refine (equal_any _ _ _ _ _ KI.out.is KWI.out.is).mono ?_
            rintro e w' ⟨rfl, nq, rfl⟩
            rw [decide_eq_true rfl]
            have HBQ := Lib.hid (below_drewN (Below.refl (World.heap wr).size wr) nq)
            replace BX := Lib.hid (BX.out.below HBQ.out)
            replace KI := Lib.hid (KI.out.below HBQ.out)
            replace KJ := Lib.hid (KJ.out.below HBQ.out)
            replace KWI := Lib.hid (KWI.out.below HBQ.out)
            replace KWJ := Lib.hid (KWJ.out.below HBQ.out)
            replace BT := Lib.hid (below_trans BT.out HBQ.out BT.out.size)
            clear HBQ
            obtain ⟨wq, hwq⟩ : ∃ wq, wq = wr.drewN nq := ⟨_, rfl⟩
            rw [← hwq] at BX KI KJ KWI KWJ BT ⊢
            clear hwq
            obtain ⟨W36, hV⟩ : ∃ V, V = wq := ⟨_, rfl⟩
            subst hV
            try dsimp only
            go_wp2_with fail
            refine (equal_any _ _ _ _ _ KJ.out.is KWJ.out.is).mono ?_
            rintro e w' ⟨rfl, nq, rfl⟩
            rw [decide_eq_true rfl]
            have HBQ := Lib.hid (below_drewN (Below.refl (World.heap W36).size W36) nq)
            replace BX := Lib.hid (BX.out.below HBQ.out)
            replace KI := Lib.hid (KI.out.below HBQ.out)
            replace KJ := Lib.hid (KJ.out.below HBQ.out)
            replace KWI := Lib.hid (KWI.out.below HBQ.out)
            replace KWJ := Lib.hid (KWJ.out.below HBQ.out)
            replace BT := Lib.hid (below_trans BT.out HBQ.out BT.out.size)
            clear HBQ
            obtain ⟨wq, hwq⟩ : ∃ wq, wq = W36.drewN nq := ⟨_, rfl⟩
            rw [← hwq] at BX KI KJ KWI KWJ BT ⊢
            clear hwq
            obtain ⟨W37, hV⟩ : ∃ V, V = wq := ⟨_, rfl⟩
            subst hV
            try dsimp only
            go_wp2_with fail
            exact HP.out _ BT.out
      · have hbE : (E != 0) = true := by rw [bne_iff_ne]; exact h0
        clear h0 hE hc0 hc1
        try dsimp only
        go_wp2_with fail
        exact HP.out _ BT.out
end Go.Proofs.Ytknjcdlknnfhaaa
