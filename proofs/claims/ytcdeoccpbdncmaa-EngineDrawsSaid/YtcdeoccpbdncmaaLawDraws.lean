/- Whatever is drawn, the outputs are the same; each party sees as many numbers. -/
import Derived.Test.YtcdeoccpbdncmaaDrawsT
import Derived.Test.YtcdeoccpbdncmaaFill
namespace Go.Proofs.Ytcdeoccpbdncmaa
open Go.RowKit Croft

theorem eo_len {n t : Nat} {gs : List Gt} {os : List Int} {I D : List F} {j : Nat} (h : CircOk gs os) (hn : 2 * t + 1 ≤ n) (hn9 : n ≤ 9) (hj : j < n) : (ofFs (eo n t gs os I D os.length j)).length = slen n gs gs.length + n * os.length := by
  rw [ofFs_length]; exact eo_length h hn (by omega) hj _ (Nat.le_refl _)
set_option maxRecDepth 100000 in
set_option maxHeartbeats 1000000 in
theorem engineDraws_any (vc vi vd vf : Value) (gs : List Gt) (os ins ds fs : List Int) (n t : Int) (w : World) (h : IsCirc w vc gs os) (hi : IsNums w vi ins) (hd : IsNums w vd ds) (hf : IsNums w vf fs) :
    Calls Try.prog 9 #[vc, .int .i64 n, .int .i64 t, vi, vd, vf] w fun e w' => e = .returned (.bool true) ∧ Below w.heap.size w w' := by
  have KC := Lib.hid h
  have KI := Lib.hid hi
  have KD := Lib.hid hd
  have KF := Lib.hid hf
  obtain ⟨vg, vo, rfl, hg, ho⟩ := h
  obtain ⟨A1, c1, rfl, hc1', hm1, hl1, hu1, hr1⟩ := hg
  obtain ⟨A2, c2, rfl, hc2', hm2, hl2, hu2, hr2⟩ := ho
  have BB := Lib.hid ((Below.refl w.heap.size w).alloc (Nat.le_refl _) (.cells #[.slice A1 gs.length c1, .slice A2 os.length c2] 25))
  have BX := Lib.hid (Box.new w 25 [.slice A1 gs.length c1, .slice A2 os.length c2])
  clear hu1 hr1 hm1 hu2 hr2 hm2 hi hd hf
  suffices hgoal : ∀ Post : Ending → World → Prop, (∀ w', Below w.heap.size w w' → Post (.returned (.bool true)) w') → Calls Try.prog 9 #[.agg #[.slice A1 gs.length c1, .slice A2 os.length c2], .int .i64 n, .int .i64 t, vi, vd, vf] w Post from hgoal _ fun w' h => ⟨rfl, h⟩
  intro Post hp
  have HP := Lib.hid hp
  clear hp
  go_enter Try.func9, Try.ntmps9
  go_wp2_with fail
  refine (kWorked_any _).mono ?_
  rintro e W1 ⟨rfl, hb1⟩
  have B1 := Lib.hid (below_trans BB.out hb1 BB.out.size)
  have BX1 := Lib.hid (BX.out.below hb1)
  have hc0 := BX1.out.cell (i := 0) rfl
  have hc1 := BX1.out.cell (i := 1) rfl
  clear hb1
  try dsimp only
  go_wp2_with fail
  refine (eNeed_any _ gs os n t _ (KC.out.below B1.out)).mono ?_
  rintro e W2 ⟨rfl, hb2⟩
  have B2 := Lib.hid (below_trans B1.out hb2 B1.out.size)
  have BX2 := Lib.hid (BX1.out.below hb2)
  clear hb2 hc0 hc1 B1 BX1
  by_cases h0 : crewE gs os n t = 0
  · obtain ⟨hok, hcrew, hov⟩ := crewE_zero.1 h0
    obtain ⟨m, hm⟩ : ∃ m : Nat, n = (m : Int) := ⟨n.toNat, by unfold crewP at hcrew; omega⟩
    obtain ⟨T, hT⟩ : ∃ T : Nat, t = (T : Int) := ⟨t.toNat, by unfold crewP at hcrew; omega⟩
    subst hm hT
    have HN : needN gs os m T = (dat m T gs gs.length : Int) := by unfold needN; rw [if_pos h0, Int.toNat_natCast, Int.toNat_natCast]
    rw [h0, HN]
    have H0 := Lib.hid h0
    have OK := Lib.hid hok
    have HC := Lib.hid (circE_zero.2 hok)
    have hdl : dat m T gs gs.length ≤ 4000 := by
      have := dat_small (n := m) (t := T) (gs := gs) (by unfold crewP at hcrew; omega) (by unfold crewP at hcrew; omega) gs.length
      have := hok.g2
      omega
    have hwl : (whoseL gs).length ≤ 30 := by have := whoseL_le gs; have := hok.g2; omega
    have HI := Lib.hid (show inputsL gs os = whoseL gs from if_pos HC.out)
    obtain ⟨K, hK⟩ : ∃ K, K = dat m T gs gs.length := ⟨_, rfl⟩
    rw [← hK] at hdl ⊢
    have HK := Lib.hid hK
    have hc0 := BX2.out.cell (i := 0) rfl
    have hc1 := BX2.out.cell (i := 1) rfl
    have hm1 : 1 ≤ m := by unfold crewP at hcrew; omega
    have hm9 : m ≤ 9 := by unfold crewP at hcrew; omega
    have hm2 : 2 * T + 1 ≤ m := by unfold crewP at hcrew; omega
    have ho1 : 1 ≤ os.length := hok.o1
    have HLEN := Lib.hid (fun (D : List F) (j : Nat) (hj : j < m) => eo_len (I := toFs (fillL ins (whoseL gs).length)) (D := D) hok hm2 hm9 hj)
    clear hok hcrew hov h0 hK HN
    try dsimp only
    go_wp2_with fail
    refine (cInputs_any _ gs os _ (KC.out.below B2.out)).mono ?_
    rintro e W3 ⟨v, rfl, ho1, hb3⟩
    rw [HI.out] at ho1
    rw [HC.out]
    obtain ⟨Aw, cw', hv, _, _⟩ := own_form ho1.1
    subst hv
    have B3 := Lib.hid (below_trans B2.out hb3 B2.out.size)
    have BX3 := Lib.hid (BX2.out.below hb3)
    clear hb3 ho1 hc0 hc1
    try dsimp only
    go_wp2_with fail
    refine (kFilled_any _ ins (whoseL gs).length _ (KI.out.below B3.out) (by omega)).mono ?_
    rintro e W4 ⟨vx, rfl, ho4, hb4⟩
    have B4 := Lib.hid (below_trans B3.out hb4 B3.out.size)
    have BX4 := Lib.hid (BX3.out.below hb4)
    have KX := Lib.hid ho4.is
    clear hb4 ho4
    have hc0 := BX4.out.cell (i := 0) rfl
    have hc1 := BX4.out.cell (i := 1) rfl
    have F1 := Lib.hid (kFilled_any _ ds K _ ((KD.out.below B4.out).drewN 1) hdl)
    have HRUN1 := Lib.hid (show ∀ vd' W5, IsNums W5 vd' (fillL ds K) → Below W4.heap.size W4 W5 → Calls Try.prog 18 #[.agg #[.slice A1 gs.length c1, .slice A2 os.length c2], .int .i64 m, .int .i64 T, vx, vd'] W5 fun e w' => RunRes W5 e w' m (ofFs (couts gs os (toFs (fillL ins (whoseL gs).length)))) (rowsN m fun j => ofFs (eo m T gs os (toFs (fillL ins (whoseL gs).length)) (toFs (fillL ds K)) os.length j)) from fun vd' W5 h5 hb5 =>
      eRun_ok _ vx vd' gs os _ _ m T W5 ((KC.out.below B4.out).below hb5) (KX.out.below hb5) h5 H0.out (fillL_length _ _) (by rw [fillL_length, HK.out]))
    have hltq1 := BX4.out.lt
    try dsimp only
    go_wp2_with fail
    go_region_held3 (fun w' => w'.cell? ⟨w.heap.size, 0, none⟩ = some (.slice A1 gs.length c1) ∧ w'.cell? ⟨w.heap.size, 1, none⟩ = some (.slice A2 os.length c2)) (go_keep) (first | (go_at_call 46; refine F1.out.mono ?_; rintro e W5 ⟨vd', rfl, ho5, hb5⟩; have BXW5 := Lib.hid ((BX4.out.drewN 1).below hb5); have DW5 := Lib.hid ((below_drewN (Below.refl W4.heap.size W4) 1).trans hb5); have C1 := Lib.hid (HRUN1.out vd' W5 ho5.is ((below_drewN (Below.refl _ _) 1).trans hb5)); have BW5 := Lib.hid (below_trans (below_drewN B4.out 1) hb5 B4.out.size); have q0 := BXW5.out.cell (i := 0) rfl; have q1 := BXW5.out.cell (i := 1) rfl; clear ho5 hb5) | (go_at_call 18; refine C1.out.mono ?_; rintro e W6 ⟨vo1, g1, vss1, rfl, ho6, hg6, _, hb6⟩; have BXW6 := Lib.hid (BXW5.out.below hb6); have DW6 := Lib.hid (below_trans DW5.out hb6 DW5.out.size); have BW6 := Lib.hid (below_trans BW5.out hb6 BW5.out.size); have KO1 := Lib.hid ho6.is; have KG1 := Lib.hid hg6; have q2 := BXW6.out.cell (i := 0) rfl; have q3 := BXW6.out.cell (i := 1) rfl; clear ho6 hg6 hb6))
    clear hc0 hc1 q0 q1 hltq1
    have hc0 := q2
    have hc1 := q3
    clear q2 q3
    have KX6 := Lib.hid (KX.out.below DW6.out)
    have F2 := Lib.hid (kFilled_any _ fs K _ ((KF.out.below BW6.out).drewN 1) hdl)
    have HRUN2 := Lib.hid (show ∀ vd' W5, IsNums W5 vd' (fillL fs K) → Below W6.heap.size W6 W5 → Calls Try.prog 18 #[.agg #[.slice A1 gs.length c1, .slice A2 os.length c2], .int .i64 m, .int .i64 T, vx, vd'] W5 fun e w' => RunRes W5 e w' m (ofFs (couts gs os (toFs (fillL ins (whoseL gs).length)))) (rowsN m fun j => ofFs (eo m T gs os (toFs (fillL ins (whoseL gs).length)) (toFs (fillL fs K)) os.length j)) from fun vd' W5 h5 hb5 =>
      eRun_ok _ vx vd' gs os _ _ m T W5 ((KC.out.below BW6.out).below hb5) (KX6.out.below hb5) h5 H0.out (fillL_length _ _) (by rw [fillL_length, HK.out]))
    have hltq2 := BXW6.out.lt
    try dsimp only
    go_wp2_with fail
    go_region_held3 (fun w' => w'.cell? ⟨w.heap.size, 0, none⟩ = some (.slice A1 gs.length c1) ∧ w'.cell? ⟨w.heap.size, 1, none⟩ = some (.slice A2 os.length c2)) (go_keep) (first | (go_at_call 46; refine F2.out.mono ?_; rintro e W7 ⟨vd', rfl, ho5, hb5⟩; have BXW7 := Lib.hid ((BXW6.out.drewN 1).below hb5); have DW7 := Lib.hid ((below_drewN (Below.refl W6.heap.size W6) 1).trans hb5); have C2 := Lib.hid (HRUN2.out vd' W7 ho5.is ((below_drewN (Below.refl _ _) 1).trans hb5)); have BW7 := Lib.hid (below_trans (below_drewN BW6.out 1) hb5 BW6.out.size); have q0 := BXW7.out.cell (i := 0) rfl; have q1 := BXW7.out.cell (i := 1) rfl; clear ho5 hb5) | (go_at_call 18; refine C2.out.mono ?_; rintro e W8 ⟨vo2, g2, vss2, rfl, ho6, hg6, _, hb6⟩; have BXW8 := Lib.hid (BXW7.out.below hb6); have DW8 := Lib.hid (below_trans DW7.out hb6 DW7.out.size); have BW8 := Lib.hid (below_trans BW7.out hb6 BW7.out.size); have KO2 := Lib.hid ho6.is; have KG2 := Lib.hid hg6; have q2 := BXW8.out.cell (i := 0) rfl; have q3 := BXW8.out.cell (i := 1) rfl; clear ho6 hg6 hb6))
    clear hc0 hc1 q0 q1 hltq2
    have KX8 := Lib.hid (KX6.out.below DW8.out)
    go_wp2_with fail
    refine (cRun_ok _ vx gs os _ _ (KC.out.below BW8.out) KX8.out HC.out (fillL_length _ _)).mono ?_
    rintro e W9 ⟨v9, rfl, ho9, hb9⟩
    have B9 := Lib.hid (below_trans BW8.out hb9 BW8.out.size)
    have D9 := Lib.hid (below_trans DW8.out hb9 DW8.out.size)
    have K9 := Lib.hid ho9.is
    have KP9 := Lib.hid (KO1.out.below D9.out)
    have KQ9 := Lib.hid (KO2.out.below hb9)
    have KU9 := Lib.hid (KG1.out.below D9.out)
    have KV9 := Lib.hid (KG2.out.below hb9)
    clear hb9 ho9 q2 q3
    try dsimp only
    go_wp2_with fail
    refine (equal_any _ _ _ _ _ KP9.out KQ9.out).mono ?_
    rintro e W10 ⟨rfl, nd, hW10⟩
    rw [decide_eq_true rfl]
    have B10 := Lib.hid (show Below W9.heap.size W9 W10 by rw [hW10]; exact below_drewN (Below.refl _ _) _)
    clear hW10
    try dsimp only
    go_wp2_with fail
    refine (equal_any _ _ _ _ _ (KP9.out.below B10.out) (K9.out.below B10.out)).mono ?_
    rintro e W11 ⟨rfl, nd, hW11⟩
    rw [decide_eq_true rfl]
    have B11 := Lib.hid (show Below W9.heap.size W9 W11 by rw [hW11]; exact below_drewN B10.out _)
    have KU := Lib.hid (KU9.out.below B11.out)
    have KV := Lib.hid (KV9.out.below B11.out)
    have BE := Lib.hid (below_trans B9.out B11.out B9.out.size)
    clear hW11 KU9 KV9 KG1 KG2 KO1 KO2 KP9 KQ9 K9 hl1 hl2 hc1' hc2'
    have hbm : ((m : Int) != (m : Int)) = false := by simp
    try dsimp only
    go_wp2_with fail
    obtain ⟨LL, hLL⟩ : ∃ LL, LL = slen m gs gs.length + m * os.length := ⟨_, rfl⟩
    have HLL := Lib.hid (fun D j hj => (HLEN.out D j hj).trans hLL.symm)
    have hLp : 0 < LL := by
      have := Nat.mul_le_mul hm1 ho1
      omega
    clear hLL HLEN
    have ROW1 := Lib.hid (show ∀ j, j < m → ∃ gu cu, W11.cell? ⟨g1, j, none⟩ = some (.slice (some ⟨gu, 0, none⟩) LL cu) ∧ LL ≤ 17592186043904 from fun j hj => by
      obtain ⟨x, hx⟩ : ∃ x, vss1[j]? = some x := ⟨_, List.getElem?_eq_getElem (by rw [KU.out.vlen, rowsN_length]; exact hj)⟩
      have hrow := KU.out.row j x _ hx (rowsN_get _ hj)
      have hl := hrow.2.1
      obtain ⟨gu, cu, hv, _⟩ := own_slice hrow.1 (by rw [HLL.out _ j hj]; exact hLp)
      rw [HLL.out _ j hj] at hv hl
      exact ⟨gu, cu, by rw [← hv]; exact KU.out.cell hx, hl⟩)
    have ROW2 := Lib.hid (show ∀ j, j < m → ∃ gu cu, W11.cell? ⟨g2, j, none⟩ = some (.slice (some ⟨gu, 0, none⟩) LL cu) from fun j hj => by
      obtain ⟨x, hx⟩ : ∃ x, vss2[j]? = some x := ⟨_, List.getElem?_eq_getElem (by rw [KV.out.vlen, rowsN_length]; exact hj)⟩
      have hrow := KV.out.row j x _ hx (rowsN_get _ hj)
      obtain ⟨gu, cu, hv, _⟩ := own_slice hrow.1 (by rw [HLL.out _ j hj]; exact hLp)
      rw [HLL.out _ j hj] at hv
      exact ⟨gu, cu, by rw [← hv]; exact KV.out.cell hx⟩)
    obtain ⟨g0, c0, hz0, hLmax⟩ := ROW1.out 0 (by omega)
    have hbL : ((LL : Int) != (LL : Int)) = false := by simp
    go_loopw [114] (fun i wr => ∃ k nd : Nat, k ≤ m ∧ i = .int .i64 k ∧ wr = W11.drewN nd) (fun i _ => m - (intOf i).toNat)
    case atStart => exact ⟨0, 0, Nat.zero_le _, rfl, rfl⟩
    case round =>
      obtain ⟨k, nd, hk, rfl, rfl⟩ := hrel
      by_cases hlt : k < m
      · obtain ⟨g3, c3, hz3, _⟩ := ROW1.out k hlt
        obtain ⟨g4, c4, hz4⟩ := ROW2.out k hlt
        have hdk : decide ((k : Int) < (m : Int)) = true := by simp; omega
        go_wp2_with fail
        go_quiet ((fail))
        go_wp2_with fail
        exact ⟨⟨k + 1, _, by omega, by go_num, rfl⟩, by simp [intOf] <;> omega⟩
      · obtain rfl : m = k := by omega
        have hdk : decide ((m : Int) < (m : Int)) = false := by simp
        go_wp2_with fail
        exact HP.out _ (below_drewN BE.out _)
  · have hbb : (crewE gs os n t != 0) = true := by rw [bne_iff_ne]; exact h0
    rw [show needN gs os n t = 0 from if_neg h0]
    try dsimp only
    go_wp2_with fail
    exact HP.out _ B2.out
end Go.Proofs.Ytcdeoccpbdncmaa

