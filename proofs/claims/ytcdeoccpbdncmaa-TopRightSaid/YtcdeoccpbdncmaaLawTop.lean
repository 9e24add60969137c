/- What parties reckon together is what the circuit tells. -/
import Derived.Test.YtcdeoccpbdncmaaTopT
import Derived.Test.YtcdeoccpbdncmaaFill
namespace Go.Proofs.Ytcdeoccpbdncmaa
open Go.RowKit Croft

set_option maxRecDepth 100000 in
set_option maxHeartbeats 1000000 in
theorem topRight_any (vc vi vd : Value) (gs : List Gt) (os ins ds : List Int) (n t : Int) (w : World) (h : IsCirc w vc gs os) (hi : IsNums w vi ins) (hd : IsNums w vd ds) :
    Calls Try.prog 3 #[vc, .int .i64 n, .int .i64 t, vi, vd] w fun e w' => e = .returned (.bool true) ∧ Below w.heap.size w w' := by
  have KC := Lib.hid h
  have KI := Lib.hid hi
  have KD := Lib.hid hd
  obtain ⟨vg, vo, rfl, hg, ho⟩ := h
  obtain ⟨A1, c1, rfl, hc1', hm1, hl1, hu1, hr1⟩ := hg
  obtain ⟨A2, c2, rfl, hc2', hm2, hl2, hu2, hr2⟩ := ho
  have BB := Lib.hid ((Below.refl w.heap.size w).alloc (Nat.le_refl _) (.cells #[.slice A1 gs.length c1, .slice A2 os.length c2] 25))
  have BX := Lib.hid (Box.new w 25 [.slice A1 gs.length c1, .slice A2 os.length c2])
  clear hu1 hr1 hm1 hu2 hr2 hm2 hi hd
  suffices hgoal : ∀ Post : Ending → World → Prop, (∀ w', Below w.heap.size w w' → Post (.returned (.bool true)) w') → Calls Try.prog 3 #[.agg #[.slice A1 gs.length c1, .slice A2 os.length c2], .int .i64 n, .int .i64 t, vi, vd] w Post from hgoal _ fun w' h => ⟨rfl, h⟩
  intro Post hp
  have HP := Lib.hid hp
  clear hp
  go_enter Try.func3, Try.ntmps3
  go_wp2_with fail
  refine (tSaid_any _).mono ?_
  rintro e W1 ⟨rfl, hb1⟩
  have B1 := Lib.hid (below_trans BB.out hb1 BB.out.size)
  have BX1 := Lib.hid (BX.out.below hb1)
  have hc0 := BX1.out.cell (i := 0) rfl
  have hc1 := BX1.out.cell (i := 1) rfl
  clear hb1
  try dsimp only
  go_wp2_with fail
  refine (eNeed_any _ gs os n t _ (KC.out.below B1.out)).mono ?_
  rintro e W2 ⟨rfl, hb2⟩
  have B2 := Lib.hid (below_trans B1.out hb2 B1.out.size)
  have BX2 := Lib.hid (BX1.out.below hb2)
  clear hb2 hc0 hc1 B1 BX1
  by_cases h0 : crewE gs os n t = 0
  · obtain ⟨hok, hcrew, hov⟩ := crewE_zero.1 h0
    obtain ⟨m, hm⟩ : ∃ m : Nat, n = (m : Int) := ⟨n.toNat, by unfold crewP at hcrew; omega⟩
    obtain ⟨T, hT⟩ : ∃ T : Nat, t = (T : Int) := ⟨t.toNat, by unfold crewP at hcrew; omega⟩
    subst hm hT
    have HN : needN gs os m T = (dat m T gs gs.length : Int) := by unfold needN; rw [if_pos h0, Int.toNat_natCast, Int.toNat_natCast]
    rw [h0, HN]
    have H0 := Lib.hid h0
    have OK := Lib.hid hok
    have HC := Lib.hid (circE_zero.2 hok)
    have hdl : dat m T gs gs.length ≤ 4000 := by
      have := dat_small (n := m) (t := T) (gs := gs) (by unfold crewP at hcrew; omega) (by unfold crewP at hcrew; omega) gs.length
      have := hok.g2
      omega
    have hwl : (whoseL gs).length ≤ 30 := by have := whoseL_le gs; have := hok.g2; omega
    have HI := Lib.hid (show inputsL gs os = whoseL gs from if_pos HC.out)
    obtain ⟨K, hK⟩ : ∃ K, K = dat m T gs gs.length := ⟨_, rfl⟩
    rw [← hK] at hdl ⊢
    have HK := Lib.hid hK
    have hc0 := BX2.out.cell (i := 0) rfl
    have hc1 := BX2.out.cell (i := 1) rfl
    clear hok hcrew hov h0 hK HN
    try dsimp only
    go_wp2_with fail
    refine (cInputs_any _ gs os _ (KC.out.below B2.out)).mono ?_
    rintro e W3 ⟨v, rfl, ho1, hb3⟩
    rw [HI.out] at ho1
    rw [HC.out]
    obtain ⟨Aw, cw', hv, _, _⟩ := own_form ho1.1
    subst hv
    have B3 := Lib.hid (below_trans B2.out hb3 B2.out.size)
    have BX3 := Lib.hid (BX2.out.below hb3)
    clear hb3 ho1 hc0 hc1
    try dsimp only
    go_wp2_with fail
    refine (tFilled_any _ ins (whoseL gs).length _ (KI.out.below B3.out) (by omega)).mono ?_
    rintro e W4 ⟨vx, rfl, ho4, hb4⟩
    have B4 := Lib.hid (below_trans B3.out hb4 B3.out.size)
    have BX4 := Lib.hid (BX3.out.below hb4)
    have KX := Lib.hid ho4.is
    clear hb4 ho4
    have hc0 := BX4.out.cell (i := 0) rfl
    have hc1 := BX4.out.cell (i := 1) rfl
    have F1 := Lib.hid (tFilled_any _ ds K _ ((KD.out.below B4.out).drewN 1) hdl)
    have HRUN := Lib.hid (show ∀ vd' W5, IsNums W5 vd' (fillL ds K) → Below W4.heap.size W4 W5 → Calls Try.prog 18 #[.agg #[.slice A1 gs.length c1, .slice A2 os.length c2], .int .i64 m, .int .i64 T, vx, vd'] W5 fun e w' => RunRes W5 e w' m (ofFs (couts gs os (toFs (fillL ins (whoseL gs).length)))) (rowsN m fun j => ofFs (eo m T gs os (toFs (fillL ins (whoseL gs).length)) (toFs (fillL ds K)) os.length j)) from fun vd' W5 h5 hb5 =>
      eRun_ok _ vx vd' gs os _ _ m T W5 ((KC.out.below B4.out).below hb5) (KX.out.below hb5) h5 H0.out (fillL_length _ _) (by rw [fillL_length, HK.out]))
    have hlt4 := BX4.out.lt
    try dsimp only
    go_wp2_with fail
    go_region_held3 (fun w' => w'.cell? ⟨w.heap.size, 0, none⟩ = some (.slice A1 gs.length c1) ∧ w'.cell? ⟨w.heap.size, 1, none⟩ = some (.slice A2 os.length c2)) (go_keep) (first | (go_at_call 17; refine F1.out.mono ?_; rintro e W5 ⟨vd', rfl, ho5, hb5⟩; have BX5 := Lib.hid ((BX4.out.drewN 1).below hb5); have D5 := Lib.hid ((below_drewN (Below.refl W4.heap.size W4) 1).trans hb5); have C5 := Lib.hid (HRUN.out vd' W5 ho5.is ((below_drewN (Below.refl _ _) 1).trans hb5)); have B5 := Lib.hid (below_trans (below_drewN B4.out 1) hb5 B4.out.size); have q0 := BX5.out.cell (i := 0) rfl; have q1 := BX5.out.cell (i := 1) rfl; clear ho5 hb5) | (go_at_call 18; refine C5.out.mono ?_; rintro e W6 ⟨vo, g, vss, rfl, ho6, hg6, _, hb6⟩; have BX6 := Lib.hid (BX5.out.below hb6); have D6 := Lib.hid (below_trans D5.out hb6 D5.out.size); have B6 := Lib.hid (below_trans B5.out hb6 B5.out.size); have KO6 := Lib.hid ho6; have q2 := BX6.out.cell (i := 0) rfl; have q3 := BX6.out.cell (i := 1) rfl; have HSZ5 := Lib.hid hb6.size; clear ho6 hg6 hb6))
    clear hc0 hc1 q0 q1
    go_wp2_with fail
    refine (cRun_ok _ vx gs os _ _ (KC.out.below B6.out) (KX.out.below D6.out) HC.out (fillL_length _ _)).mono ?_
    rintro e W7 ⟨v7, rfl, ho7, hb7⟩
    have B7 := Lib.hid (below_trans B6.out hb7 B6.out.size)
    have K7 := Lib.hid ho7.is
    have KO7 := Lib.hid (KO6.out.is.below hb7)
    clear hb7 ho7 q2 q3
    try dsimp only
    go_wp2_with fail
    refine (equal_any _ _ _ _ _ KO7.out K7.out).mono ?_
    rintro e W8 ⟨rfl, nd, hW8⟩
    rw [decide_eq_true rfl]
    have B8 := Lib.hid (show Below w.heap.size w W8 by rw [hW8]; exact below_drewN B7.out _)
    clear hW8
    try dsimp only
    go_wp2_with fail
    exact HP.out _ B8.out
  · have hbb : (crewE gs os n t != 0) = true := by rw [bne_iff_ne]; exact h0
    try dsimp only
    go_wp2_with fail
    exact HP.out _ B2.out
end Go.Proofs.Ytcdeoccpbdncmaa
