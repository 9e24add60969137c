/- The law TwineMeets, walked. -/
import Derived.Test.YtbgfgkegcchaoaaTwD
namespace Go.Proofs.Ytbgfgkegcchaoaa
open Go.RowKit Go.Maps Croft

set_option maxRecDepth 100000 in
set_option maxHeartbeats 4000000 in
theorem twineMeets_any (secret : Int) (vd vp : Value) (ds ps : List Int) (t n : Int) (w : World) (hs : U64 secret) (h1 : IsNums w vd ds) (h2 : IsInts w vp ps) :
    Calls Try.prog 8 #[.int .u64 secret, vd, .int .i64 t, .int .i64 n, vp] w fun e w' => e = .returned (.bool true) ∧ Below w.heap.size w w' := by
  have KD := Lib.hid h1
  have KP := Lib.hid h2
  have hs0 := hs.1
  have BEL := Lib.hid (Below.refl w.heap.size w)
  clear h1 h2
  go_enter Try.func8, Try.ntmps8
  go_wp2_with fail
  refine (kTwined_any _).mono ?_
  rintro e W1 ⟨rfl, hb⟩
  try dsimp only
  replace KD := Lib.hid (KD.out.below hb)
  replace KP := Lib.hid (KP.out.below hb)
  replace BEL := Lib.hid (below_trans BEL.out hb BEL.out.size)
  clear hb
  go_wp2_with fail
  refine (kCrew_any t n _).mono ?_
  rintro e w' ⟨⟨T, N, hT, hN1, hN2, rfl⟩, rfl⟩
  try dsimp only
  go_wp2_with fail
  refine (pNeed_ok T _ (by omega)).mono ?_
  rintro e w' ⟨rfl, rfl⟩
  obtain ⟨M, hM⟩ : ∃ M : Nat, needN T = M := ⟨(needN T).toNat, by
    have : 0 ≤ needN T := by unfold needN; split <;> (try split) <;> (try split) <;> (try split) <;> omega
    omega⟩
  have hM14 : M ≤ 14 := by
    have : needN T ≤ 14 := by unfold needN; split <;> (try split) <;> (try split) <;> (try split) <;> omega
    omega
  have HM := Lib.hid hM
  rw [hM]
  clear hM
  try dsimp only
  go_wp2_with fail
  refine (kFilled_any _ _ (M) _ KD.out (by omega)).mono ?_
  rintro e W2 ⟨vFD, rfl, ho, hb⟩
  try dsimp only
  replace KP := Lib.hid (KP.out.below hb)
  replace BEL := Lib.hid (below_trans BEL.out hb BEL.out.size)
  have hdl := fillL_length ds (M)
  obtain ⟨D, hD⟩ : ∃ D, D = fillL ds (M) := ⟨_, rfl⟩
  rw [← hD] at hdl ho
  have FD := Lib.hid ho.is
  have HDL := Lib.hid hdl
  clear ho hb hdl hD KD
  go_wp2_with fail
  refine (pDeal2_ok secret T N _ D _ hs FD.out hT (by rw [HDL.out, HM.out]) (by omega) hN2).mono ?_
  rintro e W3 ⟨vl, vs, rfl, ho, hb⟩
  replace KP := Lib.hid (KP.out.below hb)
  replace BEL := Lib.hid (below_trans BEL.out hb BEL.out.size)
  obtain ⟨R, hR⟩ : ∃ R, R = dRows (secret :: D) T N := ⟨_, rfl⟩
  rw [← hR] at ho
  have HON := Lib.hid (show OnTw (secret :: D) T R by rw [hR]; exact dRows_on _ _ _ hN2)
  have HRL := Lib.hid (show R.length = N by rw [hR, dRows_length])
  have HRG := Lib.hid (show ∀ i, i < N → R[i]? = some ((i : Int) + 1, rowL (dMat (secret :: D) T) ((i : Int) + 1)) by rw [hR]; exact fun i hi => dRows_get _ _ _ i hi)
  have KL := Lib.hid ho.is
  obtain ⟨A, cap, hv, _, _⟩ := own_form ho.outer
  rw [HRL.out] at hv
  subst hv
  clear hR ho hb FD
  try dsimp only
  go_wp2_with fail
  refine (pPairs_tw (secret :: D) T _ R _ KL.out hT HON.out (by rw [HRL.out]; omega)).mono ?_
  rintro e W4 ⟨vp', rfl, ho, hb⟩
  obtain ⟨Ap, cp, hv, _, _⟩ := own_form ho.1
  rw [List.length_nil] at hv
  subst hv
  replace KP := Lib.hid (KP.out.below hb)
  replace KL := Lib.hid (KL.out.below hb)
  replace BEL := Lib.hid (below_trans BEL.out hb BEL.out.size)
  clear ho hb
  try dsimp only
  go_wp2_with (refine wpList_make_nums rfl _ _ rfl W4.heap.size _ N rfl rfl rfl (by omega) (Nat.le_refl _) ?_)
  intro W5 ho hb
  replace KP := Lib.hid (KP.out.below hb)
  replace KL := Lib.hid (KL.out.below hb)
  replace BEL := Lib.hid (below_trans BEL.out hb BEL.out.size)
  have KZ := Lib.hid ho.is
  clear ho hb
  go_wp2_with fail
  refine (kShares_any _ _ _ KZ.out (by rw [List.length_replicate]; omega)).mono ?_
  rintro e W6 ⟨vsh, rfl, ho, hb⟩
  replace KP := Lib.hid (KP.out.below hb)
  replace KL := Lib.hid (KL.out.below hb)
  replace BEL := Lib.hid (below_trans BEL.out hb BEL.out.size)
  have KS := Lib.hid ho.is
  clear ho hb KZ
  try dsimp only
  go_wp2_with fail
  obtain ⟨K, hK⟩ : ∃ K, K = T + 1 := ⟨_, rfl⟩
  have hKe : ((T : Int) + 1) = (K : Int) := by omega
  rw [hKe]
  clear hKe
  refine (kPicked_any _ _ _ ps K N _ KS.out KP.out (by rw [shL_length, List.length_replicate]) (by omega) (by omega) hN2).mono ?_
  rintro e W7 ⟨vpk, P, L, rfl, hperm, hlen, ho, hb⟩
  have hK1 : T + 1 ≤ K := by omega
  have hK9 : K ≤ 9 := by omega
  clear hK
  have hPA := picked_ats hperm hN2
  have HPA := Lib.hid hPA.1
  have HPT := Lib.hid (rowsOf_on (D := secret :: D) (t := T) hPA.1 hPA.2 hN2)
  have HPL := Lib.hid hlen
  replace KL := Lib.hid (KL.out.below hb)
  replace BEL := Lib.hid (below_trans BEL.out hb BEL.out.size)
  have KPK := Lib.hid ho.is
  obtain ⟨Al, cl, hv, _, _⟩ := own_form ho.1
  rw [hlen] at hv
  subst hv
  clear ho hb hperm hlen KP KS hPA
  try dsimp only
  go_wp2_with fail
  go_loopw [17, 73] (fun v i wr => ∃ (q : Nat) (Tq : List R3), q ≤ K ∧ i = .int .i64 q ∧ wr.ownsRow W7.heap.size 83 2 v q (rc3 Tq) ∧ dat3 Tq = rowsOf (secret :: D) T (P.take q) ∧ Rows3 W7 Tq ∧ Below W7.heap.size W7 wr) (fun _ i _ => K - (intOf i).toNat)
  case atStart => exact ⟨0, [], Nat.zero_le _, rfl, World.ownsRow_nil _ _ _ _, by simp [dat3, rowsOf], fun p hp => (by simp at hp), Below.refl _ _⟩
  case round =>
    obtain ⟨q, Tq, hq, rfl, hown, hdat, hr3, hbel⟩ := hrel
    have KO := Lib.hid hown
    have HDT := Lib.hid hdat
    have HR3 := Lib.hid hr3
    have BW := Lib.hid hbel
    have hsz := hbel.size
    clear hown hdat hr3 hbel
    by_cases hlt : q < K
    · obtain ⟨A2, c2, hA, _, _, _, hu, hr⟩ := KPK.out.below BW.out
      rw [HPL.out] at hA
      injection hA with hA1 hA2 hA3
      subst hA1 hA3
      clear hA2
      obtain ⟨b1, o1, at_, y, rfl, hb1, hgk, hat, huy, hca, hcb⟩ := share_at hr hu (k := q) (by rw [HPL.out]; exact hlt)
      obtain ⟨i, hiN, hie⟩ := HPA.out _ (List.mem_of_getElem? hgk)
      dsimp only at hie
      subst hie
      have HNX := Lib.hid (rowsOf_next (D := secret :: D) (t := T) hgk)
      clear hr hu hgk hb1
      obtain ⟨A3, c3, vs3, hA, _, _, _, hi3, hr, ha⟩ := KL.out
      rw [HRL.out] at hA
      injection hA with hA1 hA2 hA3
      subst hA1 hA3
      clear hA2
      obtain ⟨b2, o2, z, x, r, rfl, hb2, hvx, hgr, hz64, hxr, hra, hrb⟩ := row_at hr ha hi3 (k := i) (by rw [HRL.out]; exact hiN)
      rw [HRG.out i hiN] at hgr
      obtain ⟨rfl, rfl⟩ := Prod.mk.inj (Option.some.inj hgr)
      have HX := Lib.hid hxr
      obtain ⟨Ax, cx, hvX, _, _, _, _, _⟩ := hxr
      have hone : x.oneCell' = true := by rw [hvX]; rfl
      have hbA := (Below.refl wr.heap.size wr).alloc (Nat.le_refl _) (.cells #[.int .i64 ((i : Int) + 1), .int .u64 y] 94)
      have hra2 := (hbA.cell (p := ⟨b2, o2 + i * 2, none⟩) (by show b2 < _; omega)).trans ((BW.out.cell (p := ⟨b2, o2 + i * 2, none⟩) hb2).trans hra)
      have hrb2 := (hbA.cell (p := ⟨b2, o2 + i * 2 + 1, none⟩) (by show b2 < _; omega)).trans ((BW.out.cell (p := ⟨b2, o2 + i * 2 + 1, none⟩) hb2).trans hrb)
      have hbx := pair_cell0 wr (.int .i64 ((i : Int) + 1)) (.int .u64 y) 94
      have HBA := Lib.hid hbA
      subst hvX
      clear hr ha hi3 hgr hb2 hvx hra hrb hbA
      go_upto_region 13 with fail
      obtain ⟨w2, hw2⟩ : ∃ w2, w2 = wr.alloc (.cells #[.int .i64 ((i : Int) + 1), .int .u64 y] 94) := ⟨_, rfl⟩
      have KO2 := Lib.hid (show w2.ownsRow W7.heap.size 83 2 _ q (rc3 Tq) by rw [hw2]; exact own_kept KO.out HBA.out)
      have B2 := Lib.hid (show Below W7.heap.size W7 w2 by rw [hw2]; exact BW.out.alloc hsz _)
      rw [← hw2] at hra2 hrb2 hbx ⊢
      have hs2 := B2.out.size
      obtain ⟨cb', hcb'⟩ : ∃ c, c = wr.heap.size := ⟨_, rfl⟩
      rw [← hcb'] at hbx ⊢
      clear hw2 hcb' hca hcb HBA KO
      go_wp2_with (at_builtin; go_loud (refine wpList_push_brow rfl _ _ rfl W7.heap.size _ Tq q ((i : Int) + 1, .slice Ax (rowL (dMat (secret :: D) T) ((i : Int) + 1)).length cx, rowL (dMat (secret :: D) T) ((i : Int) + 1)) w2.heap.size 1 rfl (own_kept KO2.out ((Below.refl _ _).alloc (Nat.le_refl _) _)) rfl (pair_cell0 _ _ _ _) (pair_cell1 _ _ _ _) hone (by omega) (by rw [size_alloc]; omega) ?_))
      intro v' w5 hown' hbel'
      have K5 := Lib.hid hown'
      have B5 := Lib.hid ((B2.out.alloc hs2 _).trans hbel')
      have D5 := Lib.hid (show dat3 (Tq ++ [((i : Int) + 1, .slice Ax (rowL (dMat (secret :: D) T) ((i : Int) + 1)).length cx, rowL (dMat (secret :: D) T) ((i : Int) + 1))]) = rowsOf (secret :: D) T (P.take (q + 1)) by
        rw [HNX.out, ← HDT.out]; simp [dat3])
      have R5 := Lib.hid (show Rows3 W7 (Tq ++ [((i : Int) + 1, .slice Ax (rowL (dMat (secret :: D) T) ((i : Int) + 1)).length cx, rowL (dMat (secret :: D) T) ((i : Int) + 1))]) from fun p hp => by
        rcases List.mem_append.1 hp with h | h
        · exact HR3.out p h
        · simp only [List.mem_cons, List.not_mem_nil, or_false] at h
          subst h
          exact HX.out)
      clear hown' hbel' hra2 hrb2 hbx
      go_wp2_with fail
      exact ⟨⟨q + 1, _, by omega, by go_num, K5.out, D5.out, R5.out, B5.out⟩, by simp [intOf] <;> omega⟩
    · obtain rfl : K = q := by omega
      have HPE := Lib.hid (show P.take K = P from List.take_of_length_le (by rw [HPL.out]; exact Nat.le_refl _))
      rw [HPE.out] at HDT
      have hlr : (rowsOf (secret :: D) T P).length = K := by unfold rowsOf; rw [List.length_map, HPL.out]
      have KB := Lib.hid (bor_is (by rw [hlr]; exact KO.out) (HR3.out.below BW.out) HDT.out (fun s hs => by have := HPT.out.ats s hs; unfold I64; omega) (by rw [hlr]; omega))
      have HLR := Lib.hid hlr
      clear hlr
      go_wp2_with fail
      refine (pJoin_tw (secret :: D) T _ _ _ KB.out hT HPT.out (by rw [HLR.out]; omega)).mono ?_
      rintro e W8 ⟨rfl, hb⟩
      have KL8 := Lib.hid ((KL.out.below BW.out).below hb)
      have B8 := Lib.hid (below_trans (below_trans BEL.out BW.out BEL.out.size) hb (by have := BEL.out.size; omega))
      clear hb KO BW
      rw [show (secret :: D).getD 0 0 = secret from rfl]
      try dsimp only
      go_wp2_with fail
      refine (pJoin_tw (secret :: D) T _ R _ KL8.out hT HON.out (by rw [HRL.out]; omega)).mono ?_
      rintro e W9 ⟨rfl, hb⟩
      have B9 := Lib.hid (below_trans B8.out hb B8.out.size)
      clear hb
      rw [show (secret :: D).getD 0 0 = secret from rfl]
      try dsimp only
      go_wp2_with fail
      refine (fNorm_any _ _ hs0).mono ?_
      rintro e w' ⟨rfl, rfl⟩
      try dsimp only
      go_wp2_with fail
      go_ret
      exact ⟨rfl, B9.out⟩
end Go.Proofs.Ytbgfgkegcchaoaa
