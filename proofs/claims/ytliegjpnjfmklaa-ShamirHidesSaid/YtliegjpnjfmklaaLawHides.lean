/- The law ShamirHides, walked. -/
import Derived.Test.YtliegjpnjfmklaaHideS
import Derived.Test.YtliegjpnjfmklaaSomeW
import Derived.Test.YtliegjpnjfmklaaKeepW
namespace Go.Proofs.Ytliegjpnjfmklaa
open Go.RowKit Croft

theorem lit_ints' (w : World) (zs : List Int) (h : ∀ z ∈ zs, I64 z) (hl : zs.length ≤ 1000) : IsInts (w.alloc (.cells (i64s zs).toArray 3)) (.slice (some ⟨w.heap.size, 0, none⟩) zs.length zs.length) zs :=
  ⟨_, _, rfl, Nat.le_refl _, by unfold maxLen; omega, by omega, h, .inr ⟨w.heap.size, 0, rfl, by simp, fun j hj => by
    rw [Nat.zero_add, cell_of_row _ _ j _ _ (0, 0) (heap_alloc_new w _)]
    simp⟩⟩
theorem two_party : partyB [2] = true := by decide
theorem inv_two : inv (toF 2) = toF 1073741824 := (inv_unique (by decide +kernel)).symm
theorem first_shift : ofFs (shiftL (blindP [2]) (toFs [1]) (toF 9 - toF 5)) = [2147483646] := by
  have hb : blindP [2] = pmulS [1] [1, - toF 1073741824] := by
    show pmulS [1] (blF 2) = _
    unfold blF
    rw [inv_two]
  rw [hb]
  decide +kernel
set_option maxRecDepth 100000 in
set_option maxHeartbeats 4000000 in
theorem shamirHides_any (x y : Int) (vd vp : Value) (ds ps : List Int) (t n : Int) (w : World) (hx : U64 x) (hy : U64 y) (h1 : IsNums w vd ds) (h2 : IsInts w vp ps) :
    Calls Try.prog 11 #[.int .u64 x, .int .u64 y, vd, .int .i64 t, .int .i64 n, vp] w fun e w' => e = .returned (.bool true) ∧ Below w.heap.size w w' := by
  have KD := Lib.hid h1
  have KP := Lib.hid h2
  have BEL := Lib.hid (Below.refl w.heap.size w)
  go_enter Try.func11, Try.ntmps11
  go_wp2_with fail
  have K20 := lit_ints' w [2] (by simp [I64]) (by simp)
  simp only [i64s, List.map_cons, List.map_nil, List.length_cons, List.length_nil] at K20
  have K2 := Lib.hid K20
  clear K20
  have hs1 : (w.alloc (.cells #[Value.int .i64 2] 3)).heap.size = w.heap.size + 1 := size_alloc _ _
  have hb := (Below.refl w.heap.size w).alloc (Nat.le_refl _) (.cells #[Value.int .i64 2] 3)
  replace KD := Lib.hid (KD.out.below hb)
  replace KP := Lib.hid (KP.out.below hb)
  replace BEL := Lib.hid (below_trans BEL.out hb BEL.out.size)
  clear hb
  generalize hW : w.alloc (.cells #[Value.int .i64 2] 3) = W1 at *
  clear hW
  have L10 := lit_nums (W1) [1] (by intro z hz; simp only [List.mem_cons, List.not_mem_nil, or_false] at hz; subst hz; first | exact ⟨by omega, by omega⟩ | exact U64.of_ofF _) (by simp)
  simp only [u64s, List.map_cons, List.map_nil, List.length_cons, List.length_nil] at L10
  have hb := (Below.refl (W1).heap.size (W1)).alloc (Nat.le_refl _) (.cells #[Value.int .u64 1] 40)
  replace KD := Lib.hid (KD.out.below hb)
  replace KP := Lib.hid (KP.out.below hb)
  replace K2 := Lib.hid (K2.out.below hb)
  replace BEL := Lib.hid (below_trans BEL.out hb BEL.out.size)
  clear hb
  have L1 := Lib.hid L10
  clear L10
  generalize hW : (W1).alloc (.cells #[Value.int .u64 1] 40) = W2 at *
  clear hW
  rw [hs1] at L1
  refine (hShift_ok _ _ [2] [1] 5 9 _ K2.out L1.out two_party (by simp) (by simp) (by omega) (by omega)).mono ?_
  rintro e W3 ⟨vm, rfl, ho, hb⟩
  rw [first_shift] at ho
  try dsimp only
  replace KD := Lib.hid (KD.out.below hb)
  replace KP := Lib.hid (KP.out.below hb)
  replace BEL := Lib.hid (below_trans BEL.out hb BEL.out.size)
  have KM := Lib.hid ho.is
  clear ho hb K2 L1 hs1
  go_wp2_with fail
  have L40 := lit_nums (W3) [2147483646] (by intro z hz; simp only [List.mem_cons, List.not_mem_nil, or_false] at hz; subst hz; first | exact ⟨by omega, by omega⟩ | exact U64.of_ofF _) (by simp)
  simp only [u64s, List.map_cons, List.map_nil, List.length_cons, List.length_nil] at L40
  have hb := (Below.refl (W3).heap.size (W3)).alloc (Nat.le_refl _) (.cells #[Value.int .u64 2147483646] 40)
  replace KD := Lib.hid (KD.out.below hb)
  replace KP := Lib.hid (KP.out.below hb)
  replace KM := Lib.hid (KM.out.below hb)
  replace BEL := Lib.hid (below_trans BEL.out hb BEL.out.size)
  clear hb
  have L4 := Lib.hid L40
  clear L40
  generalize hW : (W3).alloc (.cells #[Value.int .u64 2147483646] 40) = W4 at *
  clear hW
  refine (equal_any _ _ _ _ _ KM.out L4.out).mono ?_
  rintro e w' ⟨rfl, nd, rfl⟩
  rw [decide_eq_true rfl]
  try dsimp only
  clear KM L4
  have hb := below_drewN (Below.refl W4.heap.size W4) nd
  replace KD := Lib.hid (KD.out.below hb)
  replace KP := Lib.hid (KP.out.below hb)
  replace BEL := Lib.hid (below_trans BEL.out hb BEL.out.size)
  clear hb
  generalize hW : W4.drewN nd = W5 at *
  clear hW
  go_wp2_with fail
  refine (kCrew_any t n _).mono ?_
  rintro e w' ⟨⟨T, N, hT, hN1, hN2, rfl⟩, rfl⟩
  try dsimp only
  go_wp2_with fail
  refine (kSome_any _ _ T N _ KP.out hT (by omega) hN2).mono ?_
  rintro e W6 ⟨vw, who, rfl, hso, ho, hb⟩
  try dsimp only
  replace KD := Lib.hid (KD.out.below hb)
  replace BEL := Lib.hid (below_trans BEL.out hb BEL.out.size)
  have HSW := Lib.hid hso
  have HPT := Lib.hid (hso.party hN2)
  have KW := Lib.hid ho.is
  clear ho hb hso KP
  go_wp2_with fail
  refine (kFilled_any _ _ (T) _ KD.out (by omega)).mono ?_
  rintro e W7 ⟨vFD, rfl, ho, hb⟩
  try dsimp only
  replace KD := Lib.hid (KD.out.below hb)
  replace KW := Lib.hid (KW.out.below hb)
  replace BEL := Lib.hid (below_trans BEL.out hb BEL.out.size)
  have hdl := fillL_length ds (T)
  obtain ⟨D, hD⟩ : ∃ D, D = fillL ds (T) := ⟨_, rfl⟩
  rw [← hD] at hdl ho
  have FD := Lib.hid ho.is
  have HDL := Lib.hid hdl
  clear ho hb hdl hD
  go_wp2_with fail
  refine (sDeal_ok x _ D N _ hx FD.out (by rw [HDL.out]; exact hT) (by rw [HDL.out]; omega) hN2).mono ?_
  rintro e W8 ⟨va, rfl, ho, hb⟩
  try dsimp only
  clear KD
  replace KW := Lib.hid (KW.out.below hb)
  replace FD := Lib.hid (FD.out.below hb)
  replace BEL := Lib.hid (below_trans BEL.out hb BEL.out.size)
  have KA := Lib.hid ho.is
  clear ho hb
  go_wp2_with fail
  refine (hShift_ok _ _ who D x y _ KW.out FD.out HPT.out (by rw [HDL.out]; exact hT) (by rw [HDL.out]; exact HSW.out.len) hx.1 hy.1).mono ?_
  rintro e W9 ⟨vs, rfl, ho, hb⟩
  obtain ⟨S, hS⟩ : ∃ S, S = shiftL (blindP who) (toFs D) (toF y - toF x) := ⟨_, rfl⟩
  rw [← hS] at ho
  have HSF := Lib.hid hS
  have HSL := Lib.hid (show (ofFs S).length = T by rw [hS, ofFs_length, shiftL_length, toFs_length, HDL.out])
  try dsimp only
  replace KW := Lib.hid (KW.out.below hb)
  replace FD := Lib.hid (FD.out.below hb)
  replace KA := Lib.hid (KA.out.below hb)
  replace BEL := Lib.hid (below_trans BEL.out hb BEL.out.size)
  have KS := Lib.hid ho.is
  clear ho hb hS
  go_wp2_with fail
  refine (sDeal_ok y _ (ofFs S) N _ hy KS.out (by rw [HSL.out]; exact hT) (by rw [HSL.out]; omega) hN2).mono ?_
  rintro e W10 ⟨vb, rfl, ho, hb⟩
  try dsimp only
  replace KW := Lib.hid (KW.out.below hb)
  replace FD := Lib.hid (FD.out.below hb)
  replace KA := Lib.hid (KA.out.below hb)
  replace KS := Lib.hid (KS.out.below hb)
  replace BEL := Lib.hid (below_trans BEL.out hb BEL.out.size)
  have KB := Lib.hid ho.is
  clear ho hb
  go_wp2_with fail
  refine (hShift_ok _ _ who (ofFs S) y x _ KW.out KS.out HPT.out (by rw [HSL.out]; exact hT) (by rw [HSL.out]; exact HSW.out.len) hy.1 hx.1).mono ?_
  rintro e W11 ⟨vk, rfl, ho, hb⟩
  rw [toFs_ofFs, HSF.out, shift_back] at ho
  try dsimp only
  replace KW := Lib.hid (KW.out.below hb)
  replace FD := Lib.hid (FD.out.below hb)
  replace KA := Lib.hid (KA.out.below hb)
  replace KS := Lib.hid (KS.out.below hb)
  replace KB := Lib.hid (KB.out.below hb)
  replace BEL := Lib.hid (below_trans BEL.out hb BEL.out.size)
  have KK := Lib.hid ho.is
  clear ho hb
  have HBL := Lib.hid (show (blindP who).length ≤ (toFs D).length + 1 by
    rw [(blindP_facts who (party_ne HPT.out)).2, toFs_length, HDL.out]
    have := HSW.out.len
    omega)
  have HEQ := Lib.hid (show ∀ k ∈ who, peval (toFs (y :: ofFs S)) (toF k) = peval (toFs (x :: D)) (toF k) from fun k hk => by
    show peval (toF y :: toFs (ofFs S)) (toF k) = peval (toF x :: toFs D) (toF k)
    rw [toFs_ofFs, HSF.out, shift_eval (blindP_co0 who) HBL.out, blindP_at who (party_ne HPT.out) k hk, F_mz, F_az])
  obtain ⟨p, hp⟩ : ∃ p, p = toFs (x :: D) := ⟨_, rfl⟩
  obtain ⟨q, hq⟩ : ∃ q, q = toFs (y :: ofFs S) := ⟨_, rfl⟩
  have SQ := Lib.hid (show Shared N T (deal N q) (toF y) by rw [hq]; exact Shared.dealt (toF y) (by rw [List.length_map, HSL.out]; exact Nat.le_refl _))
  rw [← hp, ← hq] at HEQ
  rw [← hp] at KA
  rw [← hq] at KB
  clear hp hq KS HSF HBL
  have HQL := Lib.hid (show (ofFs (deal N q)).length = N by rw [ofFs_length, deal_length])
  have HPL := Lib.hid (show (ofFs (deal N p)).length = N by rw [ofFs_length, deal_length])
  obtain ⟨Ak, ck, hvk, _, _, _, _, _⟩ := KK.out
  rw [ofFs_length, toFs_length, HDL.out] at hvk
  obtain ⟨Ad, cd, hvd, _, _, _, _, _⟩ := FD.out
  rw [HDL.out] at hvd
  obtain ⟨Aa, ca, hva, _, _, _, _, _⟩ := KA.out
  rw [HPL.out] at hva
  obtain ⟨Ab, cb, hvb, _, _, _, _, _⟩ := KB.out
  rw [HQL.out] at hvb
  obtain ⟨Aw, cw, hvw, _, _, _, _, _⟩ := KW.out
  subst hvk hvd hva hvb hvw
  go_wp2_with fail
  go_loopw [102] (fun i wr => ∃ k n : Nat, k ≤ T ∧ i = .int .i64 k ∧ wr = W11.drewN n) (fun i _ => T - (intOf i).toNat)
  case atStart => exact ⟨0, 0, Nat.zero_le _, rfl, rfl⟩
  case round =>
    obtain ⟨k, n, hk, rfl, hw⟩ := hrel
    have HW := Lib.hid hw
    clear hw
    by_cases hlt : k < T
    · obtain ⟨A, c, hA, _, _, _, hu1, hr1⟩ := KK.out.drewn HW.out
      injection hA with hA1 hA2 hA3
      subst hA1 hA3
      clear hA2
      obtain ⟨b1, o1, z1, rfl, hb1, hg1, h64, hc1⟩ := nums_at hr1 hu1 (k := k) (by rw [ofFs_length, toFs_length, HDL.out]; exact hlt)
      obtain ⟨A, c, hA, _, _, _, hu2, hr2⟩ := FD.out.drewn HW.out
      injection hA with hA1 hA2 hA3
      subst hA1 hA3
      clear hA2
      obtain ⟨b2, o2, z2, rfl, hb2, hg2, h642, hc2⟩ := nums_at hr2 hu2 (k := k) (by rw [HDL.out]; exact hlt)
      have hz2 := h642.1
      have hne : (z1 != ofF (toF z2)) = false := by
        have e : z1 = ofF (toF z2) := by
          have h3 := ofFs_get (toFs_get hg2)
          rw [hg1] at h3
          exact Option.some.inj h3
        rw [e, bne_self_eq_false]
      clear hu1 hr1 hu2 hr2 hg1 hg2 hb1 hb2
      go_wp2_with fail
      go_quiet (exact quietL (fNorm_any _ _ hz2))
      go_wp2_with fail
      exact ⟨⟨k + 1, _, by omega, by go_num, drewn_more HW.out _⟩, by simp [intOf] <;> omega⟩
    · go_wp2_with fail
      go_loopw [118] (fun i wq => ∃ k n : Nat, k ≤ who.length ∧ i = .int .i64 k ∧ wq = W11.drewN n) (fun i _ => who.length - (intOf i).toNat)
      case atStart => exact ⟨0, n, Nat.zero_le _, rfl, HW.out⟩
      case round =>
        obtain ⟨j, m, hj, rfl, hw⟩ := hrel
        have HV := Lib.hid hw
        clear hw
        by_cases hlt2 : j < who.length
        · obtain ⟨A, c, hA, _, _, _, hu1, hr1⟩ := KW.out.drewn HV.out
          injection hA with hA1 hA2 hA3
          subst hA1 hA3
          clear hA2
          obtain ⟨bw, ow, z, rfl, hbw, hgw, hz64, hcw⟩ := ints_at hr1 hu1 hlt2
          have hin := HSW.out.in_ z (List.mem_of_getElem? hgw)
          obtain ⟨s, hs⟩ := Int.eq_ofNat_of_zero_le (show 0 ≤ z - 1 by omega)
          obtain rfl : z = (s : Int) + 1 := by omega
          have hsN : s < N := by omega
          have HQE := Lib.hid (HEQ.out _ (List.mem_of_getElem? hgw))
          obtain ⟨A, c, hA, _, _, _, hu2, hr2⟩ := KA.out.drewn HV.out
          injection hA with hA1 hA2 hA3
          subst hA1 hA3
          clear hA2
          obtain ⟨b1, o1, z1, rfl, hb1, hg1, h641, hc1⟩ := nums_at hr2 hu2 (k := s) (by rw [HPL.out]; exact hsN)
          obtain ⟨A, c, hA, _, _, _, hu3, hr3⟩ := KB.out.drewn HV.out
          injection hA with hA1 hA2 hA3
          subst hA1 hA3
          clear hA2
          obtain ⟨b2, o2, z2, rfl, hb2, hg2, h642, hc2⟩ := nums_at hr3 hu3 (k := s) (by rw [HQL.out]; exact hsN)
          have hne : (z1 != z2) = false := by
            have e1 := ofFs_get (get_co (l := deal N p) (j := s) (by rw [deal_length]; exact hsN))
            have e2 := ofFs_get (get_co (l := deal N q) (j := s) (by rw [deal_length]; exact hsN))
            rw [hg1, deal_co _ hsN] at e1
            rw [hg2, deal_co _ hsN] at e2
            have h3 := HQE.out
            have e3 : peval p (pt s) = peval q (pt s) := h3.symm
            rw [Option.some.inj e1, Option.some.inj e2, e3, bne_self_eq_false]
          have hw1 : IntKind.i64.wrap ((s : Int) + 1 - 1) = (s : Int) := by rw [Int.add_sub_cancel]; exact IntWalk.i64_in _ (by omega)
          have hdz : ((s : Int) + 1 - 1) = (s : Int) := by omega
          clear hu1 hr1 hu2 hr2 hu3 hr3 hgw hg1 hg2 hb1 hb2 hbw hin hs
          go_wp2_with fail
          go_quiet (fail)
          go_wp2_with fail
          exact ⟨⟨j + 1, _, by omega, by go_num, drewn_more HV.out _⟩, by simp [intOf] <;> omega⟩
        · go_wp2_with fail
          have hbn := below_drewN (Below.refl W11.heap.size W11) m
          have KB2 := Lib.hid (KB.out.below hbn)
          have BEL2 := Lib.hid (below_trans BEL.out hbn BEL.out.size)
          rw [HV.out]
          clear hbn KA KK FD KW KB BEL HV HW
          have KB := KB2
          have BEL := BEL2
          clear KB2 BEL2
          generalize W11.drewN m = WZ at *
          obtain ⟨B, hB⟩ : ∃ B, B = deal N q := ⟨_, rfl⟩
          rw [← hB] at KB SQ HQL
          have HBL := HQL
          have SB := SQ
          clear hB SQ HQL
          refine (kShares_any _ _ _ KB.out (by rw [HBL.out]; omega)).mono ?_
          rintro e W12 ⟨vKT, rfl, ho, hb⟩
          try dsimp only
          replace KB := Lib.hid (KB.out.below hb)
          replace BEL := Lib.hid (below_trans BEL.out hb BEL.out.size)
          have KT := Lib.hid ho.is
          clear ho hb
          go_wp2_with fail
          obtain ⟨Q, hQ, hQl, hQ0⟩ := open_shared SB.out (show T + 1 ≤ N by omega)
          have HX := Lib.hid (show openX T Q = ofF (toF y) by unfold openX; rw [if_neg (by omega), hQ0])
          have HE := Lib.hid (show openE T Q = 0 from if_neg (by omega))
          have HQ := Lib.hid (show Interp (ptsF (shL (ofFs B))) Q by rw [shL_pts, HBL.out, toFs_ofFs]; exact hQ)
          have HC := Lib.hid (shL_ok (zs := ofFs B) hT (by rw [HBL.out]; omega) (by rw [HBL.out]; omega))
          clear hQ hQl hQ0
          refine (sOpen_ok T _ _ Q _ KT.out HC.out HQ.out).mono ?_
          rintro e W13 ⟨rfl, hb⟩
          rw [HX.out, HE.out]
          clear HX HE HQ HC
          try dsimp only
          replace KB := Lib.hid (KB.out.below hb)
          replace KT := Lib.hid (KT.out.below hb)
          replace BEL := Lib.hid (below_trans BEL.out hb BEL.out.size)
          clear hb
          go_wp2_with fail
          refine (fNorm_any _ _ hy.1).mono ?_
          rintro e w' ⟨rfl, rfl⟩
          try dsimp only
          go_wp2_with fail
          go_ret
          exact ⟨rfl, BEL.out⟩
end Go.Proofs.Ytliegjpnjfmklaa
