/- The law EngineSays, walked. -/
import Derived.Test.YtknjcdlknnfhaaaRefPl
import Derived.Test.YtknjcdlknnfhaaaRunE
import Derived.Test.YtknjcdlknnfhaaaSameW
namespace Go.Proofs.Ytknjcdlknnfhaaa
open Go.RowKit Croft

theorem ws_len {gs : List Gt} {os : List Int} {n t : Int} (h : crewE gs os n t = 0) : (whoseL gs).length ≤ 30 := Nat.le_trans (whoseL_le gs) (crewE_zero.1 h).1.g2
set_option maxRecDepth 100000 in
set_option maxHeartbeats 2000000 in
theorem engineSays_any (v vi vd : Value) (gs : List Gt) (os ins ds : List Int) (n t : Int) (w : World) (h : IsCirc w v gs os) (hi : IsNums w vi ins) (hd : IsNums w vd ds) :
    Calls Try.prog 3 #[v, .int .i64 n, .int .i64 t, vi, vd] w fun e w' => e = .returned (.bool true) ∧ Below w.heap.size w w' := by
  have KC := Lib.hid h
  have KI := Lib.hid hi
  have KD := Lib.hid hd
  obtain ⟨vg, vo, rfl, hg, ho⟩ := h
  obtain ⟨A1, c1, rfl, hc1', hm1, hl1, hu1, hr1⟩ := hg
  obtain ⟨A2, c2, rfl, hc2', hm2, hl2, hu2, hr2⟩ := ho
  obtain ⟨A3, c3, rfl, hc3', hm3, hl3, hu3, hr3⟩ := hi
  obtain ⟨A4, c4, rfl, hc4', hm4, hl4, hu4, hr4⟩ := hd
  have BB := Lib.hid ((Below.refl w.heap.size w).alloc (Nat.le_refl _) (.cells #[.slice A1 gs.length c1, .slice A2 os.length c2] 25))
  have BX := Lib.hid (Box.new w 25 [.slice A1 gs.length c1, .slice A2 os.length c2])
  suffices hgoal : ∀ Post : Ending → World → Prop, (∀ w', Below w.heap.size w w' → Post (.returned (.bool true)) w') → Calls Try.prog 3 #[.agg #[.slice A1 gs.length c1, .slice A2 os.length c2], .int .i64 n, .int .i64 t, .slice A3 ins.length c3, .slice A4 ds.length c4] w Post from hgoal _ fun w' h => ⟨rfl, h⟩
  intro Post hp
  have HP := Lib.hid hp
  clear hp hu1 hr1 hm1 hu2 hr2 hm2 hu3 hr3 hm3 hu4 hr4 hm4
  obtain ⟨E, hE⟩ : ∃ E, E = crewE gs os n t := ⟨_, rfl⟩
  have HE := Lib.hid hE
  clear hE
  by_cases h0 : E = 0
  · have hcz : crewE gs os n t = 0 := by rw [← HE.out]; exact h0
    obtain ⟨hok, ⟨q1, q2, q3, q4, q5⟩, _⟩ := crewE_zero.1 hcz
    obtain ⟨N, rfl⟩ : ∃ N : Nat, n = N := ⟨n.toNat, by omega⟩
    obtain ⟨T, rfl⟩ : ∃ T : Nat, t = T := ⟨t.toNat, by omega⟩
    have hT4 : T ≤ 4 := by omega
    have hN9 : N ≤ 9 := by omega
    have hg30 := hok.g2
    have hwl := ws_len hcz
    have HCZ := Lib.hid hcz
    have HND := Lib.hid (show eNeedN gs os N T = (dat N T gs gs.length : Int) by unfold eNeedN; rw [if_pos hcz, Int.toNat_natCast, Int.toNat_natCast])
    have hdl : dat N T gs gs.length ≤ 36 * 30 := by have := dat_small (gs := gs) hN9 hT4 gs.length; omega
    obtain ⟨M, hM⟩ : ∃ M, M = dat N T gs gs.length := ⟨_, rfl⟩
    have HM := Lib.hid hM
    rw [← hM] at HND hdl
    obtain ⟨L, hL⟩ : ∃ L, L = (whoseL gs).length := ⟨_, rfl⟩
    have HL := Lib.hid hL
    rw [← hL] at hwl
    have HR := Lib.hid (show runE2 gs os N T ins.length ds.length = if ins.length = L then if ds.length = M then 0 else 1 else 5 by
      unfold runE2
      rw [if_pos hcz, ← hL, HND.out]
      by_cases e1 : ins.length = L
      · rw [if_pos e1, if_pos e1]
        by_cases e2 : ds.length = M
        · rw [if_pos e2, if_pos (by omega)]
        · rw [if_neg e2, if_neg (by omega)]
      · rw [if_neg e1, if_neg e1])
    subst h0
    clear hcz hok q1 q2 q3 q4 q5 hM hL
    go_enter Try.func3, Try.ntmps3
    go_wp2_with fail
    refine (rCrew_any _ gs os N T _ (KC.out.below BB.out)).mono ?_
    rintro e W1 ⟨rfl, hb⟩
    rw [HCZ.out]
    have B1 := Lib.hid (below_trans BB.out hb BB.out.size)
    have BX1 := Lib.hid (BX.out.below hb)
    have hc0 := BX1.out.cell (i := 0) rfl
    have hc1 := BX1.out.cell (i := 1) rfl
    clear hb
    try dsimp only
    go_wp2_with fail
    refine (eNeed_any _ gs os N T _ (KC.out.below B1.out)).mono ?_
    rintro e W2 ⟨rfl, hb⟩
    rw [HCZ.out, HND.out]
    have B2 := Lib.hid (below_trans B1.out hb B1.out.size)
    have BX2 := Lib.hid (BX1.out.below hb)
    clear hb hc0 hc1
    have hc0 := BX2.out.cell (i := 0) rfl
    have hc1 := BX2.out.cell (i := 1) rfl
    try dsimp only
    go_wp2_with fail
    refine (rDraws_any _ gs os N T _ (KC.out.below B2.out) hg30 hN9 hT4).mono ?_
    rintro e W3 ⟨rfl, hb⟩
    rw [← HM.out]
    have B3 := Lib.hid (below_trans B2.out hb B2.out.size)
    have BX3 := Lib.hid (BX2.out.below hb)
    clear hb hc0 hc1
    have hc0 := BX3.out.cell (i := 0) rfl
    have hc1 := BX3.out.cell (i := 1) rfl
    have hne0 : ((M : Int) != (M : Int)) = false := by simp
    try dsimp only
    go_wp2_with fail
    refine (rWhose_any _ gs os _ (KC.out.below B3.out)).mono ?_
    rintro e W4 ⟨vw, rfl, ho4, hb⟩
    obtain ⟨Aw, cw', hv, _, _⟩ := own_form ho4.1
    rw [← HL.out] at hv
    subst hv
    have B4 := Lib.hid (below_trans B3.out hb B3.out.size)
    have BX4 := Lib.hid (BX3.out.below hb)
    clear hb ho4 hc0 hc1 hne0
    have hc0 := BX4.out.cell (i := 0) rfl
    have hc1 := BX4.out.cell (i := 1) rfl
    try dsimp only
    by_cases e1 : ins.length = L
    · have hb1 : ((ins.length : Int) != (L : Int)) = false := by rw [bne_eq_false_iff_eq]; omega
      have HE1 := Lib.hid e1
      by_cases e2 : ds.length = M
      · have hb2 : ((ds.length : Int) != (M : Int)) = false := by rw [bne_eq_false_iff_eq]; omega
        have HE2 := Lib.hid e2
        clear e1 e2
        go_wp2_with fail
        refine (rPlayed_ok _ _ _ gs os ins ds N T _ (KC.out.below B4.out) (KI.out.below B4.out) (KD.out.below B4.out) HCZ.out (by rw [HE1.out, HL.out]) (by rw [HE2.out, HM.out])).mono ?_
        rintro e W5 ⟨vo, vs, vss, rfl, ho5, hg5, hb⟩
        have B5 := Lib.hid (below_trans B4.out hb B4.out.size)
        have BX5 := Lib.hid (BX4.out.below hb)
        have KO5 := Lib.hid ho5.is
        have KG5 := Lib.hid hg5.is
        clear hb ho5 hg5 hc0 hc1
        have hc0 := BX5.out.cell (i := 0) rfl
        have hc1 := BX5.out.cell (i := 1) rfl
        try dsimp only
        go_wp2_with fail
        refine (eRun_ok _ _ _ gs os ins ds N T _ (KC.out.below B5.out) (KI.out.below B5.out) (KD.out.below B5.out) HCZ.out (by rw [HE1.out, HL.out]) (by rw [HE2.out, HM.out])).mono ?_
        rintro e W6 ⟨vo6, g6, vss6, rfl, ho6, hg6, _, hb⟩
        have B6 := Lib.hid (below_trans B5.out hb B5.out.size)
        have KO6 := Lib.hid (KO5.out.below hb)
        have KG6 := Lib.hid (KG5.out.below hb)
        have KP6 := Lib.hid ho6.is
        have KQ6 := Lib.hid hg6.is
        clear hb ho6 hg6 hc0 hc1
        try dsimp only
        go_wp2_with fail
        refine (equal_any _ _ _ _ _ KP6.out KO6.out).mono ?_
        rintro e w' ⟨rfl, n1, rfl⟩
        rw [decide_eq_true rfl]
        try dsimp only
        go_wp2_with fail
        refine (same_any _ _ _ _ (KQ6.out.below (below_drewN (Below.refl _ _) n1)) (KG6.out.below (below_drewN (Below.refl _ _) n1))).mono ?_
        rintro e w' ⟨rfl, n2, rfl⟩
        try dsimp only
        go_wp2_with fail
        exact HP.out _ (below_drewN B6.out (n1 + n2))
      · have hb2 : ((ds.length : Int) != (M : Int)) = true := by rw [bne_iff_ne]; omega
        have HR1 := Lib.hid (show runE2 gs os N T ins.length ds.length = 1 by rw [HR.out, if_pos e1, if_neg e2])
        clear e1 e2
        go_wp2_with fail
        refine (eRun_bad _ _ _ gs os ins ds N T _ (KC.out.below B4.out) (KI.out.below B4.out) (KD.out.below B4.out) (by rw [HR1.out]; decide)).mono ?_
        rintro e W6 ⟨rfl, hb⟩
        rw [HR1.out]
        have B6 := Lib.hid (below_trans B4.out hb B4.out.size)
        clear hb hc0 hc1
        try dsimp only
        go_wp2_with fail
        refine (equal_any _ _ [] [] _ (OwnNums.nil _ 0).is (OwnNums.nil _ 0).is).mono ?_
        rintro e w' ⟨rfl, n1, rfl⟩
        rw [decide_eq_true rfl]
        try dsimp only
        go_wp2_with fail
        refine (same_any _ _ [] _ (IsNumss.nil _) (IsNumss.nil _)).mono ?_
        rintro e w' ⟨rfl, n2, rfl⟩
        try dsimp only
        go_wp2_with fail
        exact HP.out _ (below_drewN B6.out (n1 + n2))
    · have hb1 : ((ins.length : Int) != (L : Int)) = true := by rw [bne_iff_ne]; omega
      have HR1 := Lib.hid (show runE2 gs os N T ins.length ds.length = 5 by rw [HR.out, if_neg e1])
      clear e1
      go_wp2_with fail
      refine (eRun_bad _ _ _ gs os ins ds N T _ (KC.out.below B4.out) (KI.out.below B4.out) (KD.out.below B4.out) (by rw [HR1.out]; decide)).mono ?_
      rintro e W6 ⟨rfl, hb⟩
      rw [HR1.out]
      have B6 := Lib.hid (below_trans B4.out hb B4.out.size)
      clear hb hc0 hc1
      try dsimp only
      go_wp2_with fail
      refine (equal_any _ _ [] [] _ (OwnNums.nil _ 0).is (OwnNums.nil _ 0).is).mono ?_
      rintro e w' ⟨rfl, n1, rfl⟩
      rw [decide_eq_true rfl]
      try dsimp only
      go_wp2_with fail
      refine (same_any _ _ [] _ (IsNumss.nil _) (IsNumss.nil _)).mono ?_
      rintro e w' ⟨rfl, n2, rfl⟩
      try dsimp only
      go_wp2_with fail
      exact HP.out _ (below_drewN B6.out (n1 + n2))
  · have hbE : (E == 0) = false := by rw [beq_eq_false_iff_ne]; exact h0
    have HND := Lib.hid (show eNeedN gs os n t = 0 by unfold eNeedN; rw [if_neg (by rw [← HE.out]; exact h0)])
    have HR1 := Lib.hid (show runE2 gs os n t ins.length ds.length = E by unfold runE2; rw [if_neg (by rw [← HE.out]; exact h0)]; exact HE.out.symm)
    have HNE := Lib.hid h0
    have hbb : (E != E) = false := by simp
    clear h0
    go_enter Try.func3, Try.ntmps3
    go_wp2_with fail
    refine (rCrew_any _ gs os n t _ (KC.out.below BB.out)).mono ?_
    rintro e W1 ⟨rfl, hb⟩
    rw [← HE.out]
    have B1 := Lib.hid (below_trans BB.out hb BB.out.size)
    have BX1 := Lib.hid (BX.out.below hb)
    have hc0 := BX1.out.cell (i := 0) rfl
    have hc1 := BX1.out.cell (i := 1) rfl
    clear hb
    try dsimp only
    go_wp2_with fail
    refine (eNeed_any _ gs os n t _ (KC.out.below B1.out)).mono ?_
    rintro e W4 ⟨rfl, hb⟩
    rw [← HE.out, HND.out]
    have B4 := Lib.hid (below_trans B1.out hb B1.out.size)
    have BX4 := Lib.hid (BX1.out.below hb)
    clear hb hc0 hc1
    have hc0 := BX4.out.cell (i := 0) rfl
    have hc1 := BX4.out.cell (i := 1) rfl
    try dsimp only
    go_wp2_with fail
    refine (eRun_bad _ _ _ gs os ins ds n t _ (KC.out.below B4.out) (KI.out.below B4.out) (KD.out.below B4.out) (by rw [HR1.out]; exact HNE.out)).mono ?_
    rintro e W6 ⟨rfl, hb⟩
    rw [HR1.out]
    have B6 := Lib.hid (below_trans B4.out hb B4.out.size)
    clear hb hc0 hc1
    try dsimp only
    go_wp2_with fail
    refine (equal_any _ _ [] [] _ (OwnNums.nil _ 0).is (OwnNums.nil _ 0).is).mono ?_
    rintro e w' ⟨rfl, n1, rfl⟩
    rw [decide_eq_true rfl]
    try dsimp only
    go_wp2_with fail
    refine (same_any _ _ [] _ (IsNumss.nil _) (IsNumss.nil _)).mono ?_
    rintro e w' ⟨rfl, n2, rfl⟩
    try dsimp only
    go_wp2_with fail
    exact HP.out _ (below_drewN B6.out (n1 + n2))
end Go.Proofs.Ytknjcdlknnfhaaa
