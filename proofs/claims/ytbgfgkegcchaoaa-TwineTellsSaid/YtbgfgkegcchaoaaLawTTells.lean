/- The law TwineTells, walked. -/
import Derived.Test.YtbgfgkegcchaoaaTwT
namespace Go.Proofs.Ytbgfgkegcchaoaa
open Go.RowKit Go.Maps Croft

theorem prc_get {l : List (Int × Int)} {k : Nat} {p : Int × Int} (h : l[k]? = some p) : (prc l)[k * 2]? = some (.int .i64 p.1) ∧ (prc l)[k * 2 + 1]? = some (.int .i64 p.2) := pairs_get (fun p : Int × Int => Value.int .i64 p.1) (fun p => Value.int .i64 p.2) l k p h
set_option maxRecDepth 100000 in
set_option maxHeartbeats 4000000 in
theorem twineTells_any (secret yb : Int) (vd : Value) (ds : List Int) (t n i j : Int) (w : World) (hs : U64 secret) (hy : U64 yb) (h1 : IsNums w vd ds) :
    Calls Try.prog 7 #[.int .u64 secret, vd, .int .i64 t, .int .i64 n, .int .i64 i, .int .i64 j, .int .u64 yb] w fun e w' => e = .returned (.bool true) ∧ Below w.heap.size w w' := by
  have KD := Lib.hid h1
  have hy0 := hy.1
  have BEL := Lib.hid (Below.refl w.heap.size w)
  clear h1
  go_enter Try.func7, Try.ntmps7
  go_wp2_with fail
  refine (kTwined_any _).mono ?_
  rintro e W1 ⟨rfl, hb⟩
  try dsimp only
  replace KD := Lib.hid (KD.out.below hb)
  replace BEL := Lib.hid (below_trans BEL.out hb BEL.out.size)
  clear hb
  go_wp2_with fail
  refine (kCrew_any t n _).mono ?_
  rintro e w' ⟨⟨T, N, hT, hN1, hN2, rfl⟩, rfl⟩
  try dsimp only
  go_wp2_with fail
  refine (pNeed_ok T _ (by omega)).mono ?_
  rintro e w' ⟨rfl, rfl⟩
  obtain ⟨M, hM⟩ : ∃ M : Nat, needN T = M := ⟨(needN T).toNat, by
    have : 0 ≤ needN T := by unfold needN; split <;> (try split) <;> (try split) <;> (try split) <;> omega
    omega⟩
  have hM14 : M ≤ 14 := by
    have : needN T ≤ 14 := by unfold needN; split <;> (try split) <;> (try split) <;> (try split) <;> omega
    omega
  have HM := Lib.hid hM
  rw [hM]
  clear hM
  try dsimp only
  go_wp2_with fail
  refine (kFilled_any _ _ (M) _ KD.out (by omega)).mono ?_
  rintro e W2 ⟨vFD, rfl, ho, hb⟩
  try dsimp only
  replace BEL := Lib.hid (below_trans BEL.out hb BEL.out.size)
  have hdl := fillL_length ds (M)
  obtain ⟨D, hD⟩ : ∃ D, D = fillL ds (M) := ⟨_, rfl⟩
  rw [← hD] at hdl ho
  have FD := Lib.hid ho.is
  have HDL := Lib.hid hdl
  clear ho hb hdl hD KD
  go_wp2_with fail
  refine (pDeal2_ok secret T N _ D _ hs FD.out hT (by rw [HDL.out, HM.out]) (by omega) hN2).mono ?_
  rintro e W3 ⟨vl, vs, rfl, ho, hb⟩
  have hwb := BEL.out.size
  have hsz2 := hb.size
  replace BEL := Lib.hid (below_trans BEL.out hb BEL.out.size)
  obtain ⟨R, hR⟩ : ∃ R, R = dRows (secret :: D) T N := ⟨_, rfl⟩
  rw [← hR] at ho
  have HRD := Lib.hid hR
  have HRL := Lib.hid (show R.length = N by rw [hR, dRows_length])
  have HRG := Lib.hid (show ∀ i, i < N → R[i]? = some ((i : Int) + 1, rowL (dMat (secret :: D) T) ((i : Int) + 1)) by rw [hR]; exact fun i hi => dRows_get _ _ _ i hi)
  obtain ⟨go, co, hv, hgo, hgo2⟩ := own_slice ho.outer (by rw [HRL.out]; omega)
  rw [HRL.out] at hv
  subst hv
  have KO := Lib.hid ho
  clear hR ho hb FD
  try dsimp only
  go_wp2_with fail
  refine (fNorm_any _ _ hy0).mono ?_
  rintro e w' ⟨rfl, rfl⟩
  try dsimp only
  by_cases hz : toF yb = 0
  · have hz0 : ofF (toF yb) = 0 := ofF_eq_zero.2 hz
    rw [hz0]
    clear hz hz0
    go_wp2_with fail
    go_ret
    exact ⟨rfl, BEL.out⟩
  have hz0 : (ofF (toF yb) == 0) = false := ofF_ne' hz
  have HYZ := Lib.hid hz
  clear hz
  by_cases hn : (N : Int) < (T : Int) + 2
  · go_wp2_with fail
    go_ret
    exact ⟨rfl, BEL.out⟩
  go_wp2_with fail
  refine (rRest_any i N _ (by omega) (by omega)).mono ?_
  rintro e w' ⟨⟨k, hk, rfl⟩, rfl⟩
  try dsimp only
  go_wp2_with fail
  try rw [show ((T : Int) + 1) = ((T + 1 : Nat) : Int) by omega]
  refine (rRest_any j (T + 1) _ (by omega) (by omega)).mono ?_
  rintro e w' ⟨⟨c, hc, rfl⟩, rfl⟩
  try dsimp only
  obtain ⟨r, hr⟩ : ∃ r, r = rowL (dMat (secret :: D) T) ((k : Int) + 1) := ⟨_, rfl⟩
  have hrl : r.length = T + 1 := by rw [hr, rowL_length]; simp [dMat, mat_length]
  have hRk := HRG.out k hk
  rw [← hr] at hRk
  have HRR := Lib.hid hr
  have hkv : k < vs.length := by rw [KO.out.vlen, HRL.out]; exact hk
  obtain ⟨x, hx⟩ : ∃ x, vs[k]? = some x := ⟨_, List.getElem?_eq_getElem hkv⟩
  have hrow := KO.out.row k x _ hx hRk
  dsimp only at hrow
  obtain ⟨gx, cx, hv, hgx, hgx2⟩ := own_slice hrow.1 (by omega)
  subst hv
  rw [hrl] at hx hrow
  obtain ⟨z, hzc⟩ : ∃ z, r[c]? = some z := ⟨_, List.getElem?_eq_getElem (by omega)⟩
  have hzu := hrow.2.2 z (List.mem_of_getElem? hzc)
  have hz1 := hzu.1
  have hcell := hrow.cell hzc
  have hfrz := hrow.frozen c
  obtain ⟨q1, q2⟩ := rcs_get (ats := R.map (·.1)) (vs := vs) (k := k) (a := (k : Int) + 1) (v := .slice (some ⟨gx, 0, none⟩) (T + 1) cx) (by rw [List.getElem?_map, hRk]; rfl) hx
  have hO := KO.out.outer
  rw [HRL.out] at hO
  have hc1 : W3.cell? ⟨go, k * 2 + 1, none⟩ = some (.slice (some ⟨gx, 0, none⟩) (T + 1) cx) := by
    rw [hO.cellAt (k * 2 + 1) (by omega), q2]
  have HX := Lib.hid hx
  have HRK := Lib.hid hRk
  have HZC := Lib.hid hzc
  clear hO hr hrow q1 q2 hx hRk hzc hkv hrl
  go_wp2_with fail
  refine wp_region_quiet_tail 17 (by kernel_rfl) (by kernel_rfl) ?_
  simp only [List.take_succ_cons, List.take_zero, List.drop_succ_cons, List.drop_zero]
  repeat (go_big_quiet_step ((exact quietL (fAdd_any _ _ _ hz1 hy0))))
  refine wpQuiet_nil ?_
  intro nq
  have HB5 := Lib.hid ((KO.out.drewN nq).setN HX.out HRK.out c (U64.of_ofF (toF z + toF yb)))
  have BX := Lib.hid ((below_drewN BEL.out nq).setCell (p := ⟨gx, c, none⟩) (show w.heap.size ≤ gx by omega) (.int .u64 (ofF (toF z + toF yb))))
  have hfrz2 : (W3.drewN nq).frozen? ⟨gx, c, none⟩ = false := hfrz
  go_upto_region 13 with fail
  obtain ⟨W5, hW5⟩ : ∃ W5, W5 = (W3.drewN nq).setCell ⟨gx, c, none⟩ (.int .u64 (ofF (toF z + toF yb))) := ⟨_, rfl⟩
  rw [← hW5] at HB5 BX ⊢
  obtain ⟨R2, hR2⟩ : ∃ R2, R2 = R.set k ((k : Int) + 1, r.set c (ofF (toF z + toF yb))) := ⟨_, rfl⟩
  have HBN := Lib.hid (show BntL (secret :: D) T ((k : Int) + 1) (toF yb) c R2 by
    rw [hR2, HRD.out, HRR.out]
    exact bent_rows hN2 hk HYZ.out (by rw [← HRR.out]; exact HZC.out))
  have HRL2 := Lib.hid (show R2.length = N by rw [hR2, List.length_set, HRL.out])
  have HRK2 := Lib.hid (show ∃ r2, R2[k]? = some ((k : Int) + 1, r2) from ⟨_, by rw [hR2, List.getElem?_set_self (List.getElem?_eq_some_iff.1 HRK.out).1]⟩)
  rw [← hR2] at HB5
  have HEX := Lib.hid (show ∃ q ∈ R2, q.1 = (k : Int) + 1 from by
    obtain ⟨r2, h⟩ := HRK2.out
    exact ⟨_, List.mem_of_getElem? h, rfl⟩)
  have KL := Lib.hid HB5.out.is
  have BEL5 := Lib.hid BX.out
  have hcar : W5.cell? ⟨go, k * 2, none⟩ = some (.int .i64 ((k : Int) + 1)) := by
    obtain ⟨r2, h⟩ := HRK2.out
    have hO := HB5.out.outer
    rw [HRL2.out] at hO
    have hkv : k < vs.length := by rw [HB5.out.vlen, HRL2.out]; exact hk
    obtain ⟨q1, _⟩ := rcs_get (ats := R2.map (·.1)) (vs := vs) (k := k) (a := (k : Int) + 1) (by rw [List.getElem?_map, h]; rfl) (List.getElem?_eq_getElem hkv)
    rw [hO.cellAt (k * 2) (by omega), q1]
  have HCA := Lib.hid hcar
  have hgo5 : go < W5.heap.size := by
    obtain ⟨r2, h⟩ := HRK2.out
    exact (HB5.out.outer.lt go rfl).2
  clear hcar hcell hfrz hfrz2 hc1 hW5 hR2 KO HX HRK HZC HRD HRG HB5 BX BEL HRR
  go_wp2_with fail
  refine (pPairs_ok _ R2 _ (by rw [HRL2.out] at *; exact KL.out) (if_pos (HBN.out.rows hT)) (by rw [HRL2.out]; omega)).mono ?_
  rintro e W6 ⟨l', vp, hpm, _, rfl, hop, hb⟩
  have HBP := Lib.hid (HBN.out.perm hpm)
  have hmany := HBP.out.many _ (by obtain ⟨q, hq, he⟩ := HEX.out; exact ⟨q, hpm.mem_iff.2 hq, he⟩)
  rw [hpm.length_eq, HRL2.out] at hmany
  have B6 := Lib.hid (below_trans BEL5.out hb BEL5.out.size)
  have KL6 := Lib.hid (KL.out.below hb)
  have HC6 := Lib.hid ((hb.cell (p := ⟨go, k * 2, none⟩) hgo5).trans HCA.out)
  have hs6 := hb.size
  have KP6 := Lib.hid hop
  obtain ⟨PL, hPL⟩ : ∃ PL, PL = prL l' := ⟨_, rfl⟩
  rw [← hPL] at KP6 hmany
  have HPR := Lib.hid (show ∀ x ∈ PL, x.1 = (k : Int) + 1 ∨ x.2 = (k : Int) + 1 by rw [hPL]; exact fun x hx => HBP.out.pairs hx)
  obtain ⟨gp, cp, hv, hgp, hgp2⟩ := own_slice KP6.out.1 (by omega)
  subst hv
  clear hop hb hPL hpm KL HCA BEL5
  try dsimp only
  go_wp2_with fail
  refine (pJoin_ok T _ R2 _ KL6.out (by omega) (if_pos (HBN.out.rows hT)) HBN.out.lens (by rw [HRL2.out]; omega)).mono ?_
  rintro e W7 ⟨l2, Q, hpm2, _, _, _, hne⟩
  have hm2 := (HBN.out.perm hpm2).many _ (by obtain ⟨q, hq, he⟩ := HEX.out; exact ⟨q, hpm2.mem_iff.2 hq, he⟩)
  rw [hpm2.length_eq, HRL2.out] at hm2
  obtain ⟨rfl, hb⟩ := hne (fun e => by rw [e] at hm2; simp at hm2; omega)
  have B7 := Lib.hid (below_trans B6.out hb B6.out.size)
  have KP7 := Lib.hid (KP6.out.below hb)
  have HC7 := Lib.hid ((hb.cell (p := ⟨go, k * 2, none⟩) (by show go < _; omega)).trans HC6.out)
  have hs7 := hb.size
  clear hb hne hm2 hpm2 KP6 KL6 B6 HC6
  obtain ⟨pn, hpn⟩ : ∃ pn, pn = PL.length := ⟨_, rfl⟩
  rw [← hpn] at hmany ⊢
  have HPN := Lib.hid hpn
  have hpnb : pn ≤ 8796093022208 := by rw [hpn]; exact KP7.out.2.1
  have hdl : decide ((pn : Int) < (N : Int) - 1 - (T : Int)) = false := by simp; omega
  clear hpn hz0 hn hgo hgo2 hgx hgx2 hz1 hzu
  try dsimp only
  go_wp2_with fail
  go_loopw [112] (fun i wr => ∃ q : Nat, q ≤ pn ∧ i = .int .i64 q ∧ Below W7.heap.size W7 wr) (fun i _ => pn - (intOf i).toNat)
  case atStart => exact ⟨0, Nat.zero_le _, rfl, Below.refl _ _⟩
  case round =>
    obtain ⟨q, hq, rfl, hbel⟩ := hrel
    have BW := Lib.hid hbel
    have hsz := hbel.size
    clear hbel
    by_cases hlt : q < pn
    · obtain ⟨⟨x0, x1⟩, hx⟩ : ∃ x, PL[q]? = some x := ⟨_, List.getElem?_eq_getElem (by rw [← HPN.out]; exact hlt)⟩
      have hO := KP7.out.1
      rw [← HPN.out] at hO
      have h64 := KP7.out.2.2 _ (List.mem_of_getElem? hx)
      have hpr := HPR.out _ (List.mem_of_getElem? hx)
      dsimp only at h64 hpr
      obtain ⟨p1, p2⟩ := prc_get hx
      have hgp7 : gp < W7.heap.size := by omega
      have ca : wr.cell? ⟨gp, q * 2, none⟩ = some (.int .i64 x0) := (BW.out.cell (p := ⟨gp, q * 2, none⟩) hgp7).trans (by rw [hO.cellAt (q * 2) (by omega), p1])
      have cb : wr.cell? ⟨gp, q * 2 + 1, none⟩ = some (.int .i64 x1) := (BW.out.cell (p := ⟨gp, q * 2 + 1, none⟩) hgp7).trans (by rw [hO.cellAt (q * 2 + 1) (by omega), p2])
      have BX := Lib.hid (Box.new wr 88 [.int .i64 x0, .int .i64 x1])
      have HB2 := Lib.hid ((Below.refl wr.heap.size wr).alloc (Nat.le_refl _) (.cells #[.int .i64 x0, .int .i64 x1] 88))
      have hgow : go < W7.heap.size := by omega
      clear hO p1 p2 hx
      go_upto_region 20 with fail
      obtain ⟨w2, hw2⟩ : ∃ w2, w2 = wr.alloc (.cells #[.int .i64 x0, .int .i64 x1] 88) := ⟨_, rfl⟩
      replace BX := Lib.hid (show Box w2 wr.heap.size 88 [.int .i64 x0, .int .i64 x1] by rw [hw2]; exact BX.out)
      have B2 := Lib.hid (show Below W7.heap.size W7 w2 by rw [hw2]; exact BW.out.alloc hsz _)
      rw [← hw2]
      obtain ⟨cb', hcb'⟩ : ∃ c, c = wr.heap.size := ⟨_, rfl⟩
      rw [← hcb'] at BX ⊢
      clear hw2 hcb' ca cb HB2
      have g0 := BX.out.cell (i := 0) rfl
      have g1 := BX.out.cell (i := 1) rfl
      have g2 := (B2.out.cell (p := ⟨go, k * 2, none⟩) hgow).trans HC7.out
      by_cases hx0 : x0 = (k : Int) + 1
      · as_aux_lemma =>
          have hd : (x0 != (k : Int) + 1) = false := by rw [hx0]; simp
          clear hpr hx0
          go_quiet (fail)
          go_wp2_with fail
          exact ⟨⟨q + 1, by omega, by go_num, below_drewN B2.out nq⟩, by simp [intOf] <;> omega⟩
      · as_aux_lemma =>
          have hx1 : x1 = (k : Int) + 1 := hpr.resolve_left hx0
          have hd : (x0 != (k : Int) + 1) = true := by rw [bne_iff_ne]; exact hx0
          have hd1 : (x1 != (k : Int) + 1) = false := by rw [hx1]; simp
          clear hpr hx0 hx1
          go_quiet (fail)
          go_wp2_with fail
          exact ⟨⟨q + 1, by omega, by go_num, below_drewN B2.out nq⟩, by simp [intOf] <;> omega⟩
    · obtain rfl : q = pn := by omega
      have B8 := Lib.hid (below_trans B7.out BW.out B7.out.size)
      go_wp2_with fail
      go_ret
      exact ⟨rfl, B8.out⟩
end Go.Proofs.Ytbgfgkegcchaoaa
