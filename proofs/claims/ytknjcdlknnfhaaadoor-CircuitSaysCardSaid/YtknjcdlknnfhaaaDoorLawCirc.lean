/- The law CircuitSays, walked. -/
import Derived.Test.YtknjcdlknnfhaaaDoorPrintW
import Derived.Test.YtknjcdlknnfhaaaDoorRefTx
import Derived.Test.YtknjcdlknnfhaaaDoorRefU
import Derived.Deep.RegionHeld3
namespace Go.Proofs.YtknjcdlknnfhaaaDoor
open Go.RowKit Go.Sort Croft

theorem i64s_getD {zs : List Int} {j : Nat} (hj : j < zs.length) : (i64s zs)[j]? = some (.int .i64 (zs.getD j 0)) := by
  unfold i64s
  simp [List.getD_eq_getElem?_getD, List.getElem?_eq_getElem hj]
theorem eqints_any (v1 v2 : Value) (xs ys : List Int) (w : World) (h1 : IsInts w v1 xs) (h2 : IsInts w v2 ys) :
    Calls Tryd.prog 15 #[v1, v2] w fun e w' => e = .returned (.bool (decide (xs = ys))) ∧ ∃ n, w' = w.drewN n := by
  obtain ⟨A1, c1, rfl, hc1, hm1, hl1, hu1, hr1⟩ := h1
  obtain ⟨A2, c2, rfl, hc2, hm2, hl2, hu2, hr2⟩ := h2
  by_cases hlen : xs.length = ys.length
  · cases xs with
    | nil =>
      have : ys = [] := List.eq_nil_of_length_eq_zero hlen.symm
      subst this
      refine (sh_slices_Equal_int_empty A1 A2 c1 0 c2 w (by omega)).mono fun e w' hh => ?_
      obtain ⟨rfl, rfl⟩ := hh
      exact ⟨by simp, 0, rfl⟩
    | cons x xs =>
      obtain ⟨b1, o1, rfl, hb1, hx⟩ := hr1.at_ (j := 0) (by simp [i64s])
      obtain ⟨b2, o2, rfl, hb2, hy⟩ := hr2.at_ (j := 0) (by simp only [i64s, List.length_map]; rw [← hlen]; simp)
      refine (sh_slices_Equal_int b1 o1 (x :: xs).length c1 b2 o2 ys.length c2 (x :: xs) ys w (Nat.le_refl _) (Nat.le_refl _) (by omega) (by omega) (fun j hj => ?_) (fun j hj => ?_)).mono fun e w' hh => ?_
      · rw [hx j (by simpa [i64s] using hj), i64s_getD hj]
      · rw [hy j (by simpa [i64s] using hj), i64s_getD hj]
      · obtain ⟨rfl, q, rfl⟩ := hh
        refine ⟨?_, q, rfl⟩
        rw [List.take_length, List.take_length]
        by_cases he : x :: xs = ys
        · rw [decide_eq_true he, he]; simp
        · rw [decide_eq_false he, beq_eq_false_iff_ne.2 he]
  · refine (sh_slices_Equal_int_lens A1 A2 xs.length c1 ys.length c2 w hlen).mono fun e w' hh => ?_
    obtain ⟨rfl, rfl⟩ := hh
    rw [decide_eq_false (fun he => hlen (by rw [he]))]
    exact ⟨rfl, 0, rfl⟩
set_option maxRecDepth 100000 in
set_option maxHeartbeats 2000000 in
theorem circuitSays_bad (v vi : Value) (gs : List Gt) (os ins : List Int) (w : World) (h : IsCirc w v gs os) (hi : IsNums w vi ins) (h0 : circE gs os ≠ 0) :
    Calls Tryd.prog 3 #[v, vi] w fun e w' => e = .returned (.bool true) ∧ Below w.heap.size w w' := by
  have KC := Lib.hid h
  have KI := Lib.hid hi
  have HIL := Lib.hid (show inputsL gs os = [] from if_neg h0)
  have HRE := Lib.hid (show runE gs os ins = circE gs os from if_neg h0)
  have HRL := Lib.hid (show runL gs os ins = [] by unfold runL; rw [HRE.out, if_neg h0])
  have HN := Lib.hid h0
  obtain ⟨vg, vo, rfl, hg, ho⟩ := h
  obtain ⟨A1, c1, rfl, hc1', hm1, hl1, hu1, hr1⟩ := hg
  obtain ⟨A2, c2, rfl, hc2', hm2, hl2, hu2, hr2⟩ := ho
  obtain ⟨A3, c3, rfl, hc3', hm3, hl3, hu3, hr3⟩ := hi
  have BB := Lib.hid ((Below.refl w.heap.size w).alloc (Nat.le_refl _) (.cells #[.slice A1 gs.length c1, .slice A2 os.length c2] 25))
  have BX := Lib.hid (Box.new w 25 [.slice A1 gs.length c1, .slice A2 os.length c2])
  suffices hgoal : ∀ Post : Ending → World → Prop, (∀ w', Below w.heap.size w w' → Post (.returned (.bool true)) w') → Calls Tryd.prog 3 #[.agg #[.slice A1 gs.length c1, .slice A2 os.length c2], .slice A3 ins.length c3] w Post from
    hgoal _ fun w' hb => ⟨rfl, hb⟩
  intro Post hp
  have HP := Lib.hid hp
  clear hp hu1 hr1 hm1 hu2 hr2 hm2 hu3 hr3 hm3
  obtain ⟨E, hE⟩ : ∃ E, E = circE gs os := ⟨_, rfl⟩
  have HE := Lib.hid hE
  have hbE : (E == 0) = false := by rw [beq_eq_false_iff_ne, hE]; exact h0
  have hbb : (E == E) = true := by simp
  clear hE h0
  go_enter Tryd.func3, Tryd.ntmps3
  go_wp2_with fail
  refine (rCirc_any _ gs os _ (KC.out.below BB.out)).mono ?_
  rintro e W1 ⟨rfl, hb⟩
  rw [← HE.out]
  have B1 := Lib.hid (below_trans BB.out hb BB.out.size)
  have BX1 := Lib.hid (BX.out.below hb)
  have hc0 := BX1.out.cell (i := 0) rfl
  have hc1 := BX1.out.cell (i := 1) rfl
  clear hb
  try dsimp only
  go_wp2_with fail
  refine (cInputs_any _ gs os _ (KC.out.below B1.out)).mono ?_
  rintro e W2 ⟨v2, rfl, ho2, hb⟩
  rw [← HE.out]
  rw [HIL.out] at ho2
  have B2 := Lib.hid (below_trans B1.out hb B1.out.size)
  have BX2 := Lib.hid (BX1.out.below hb)
  have K2 := Lib.hid ho2.is
  clear hb hc0 hc1 ho2
  have hc0 := BX2.out.cell (i := 0) rfl
  have hc1 := BX2.out.cell (i := 1) rfl
  try dsimp only
  go_wp2_with fail
  refine (cRun_any _ _ gs os ins _ (KC.out.below B2.out) (KI.out.below B2.out)).mono ?_
  rintro e W3 ⟨v3, rfl, ho3, hb⟩
  rw [HRE.out, ← HE.out]
  rw [HRL.out] at ho3
  have B3 := Lib.hid (below_trans B2.out hb B2.out.size)
  have BX3 := Lib.hid (BX2.out.below hb)
  have K23 := Lib.hid (K2.out.below hb)
  have K3 := Lib.hid ho3.is
  clear hb hc0 hc1 ho3
  have hc0 := BX3.out.cell (i := 0) rfl
  have hc1 := BX3.out.cell (i := 1) rfl
  try dsimp only
  go_wp2_with fail
  refine (cPrint_bad _ gs os _ (KC.out.below B3.out) HN.out).mono ?_
  rintro e W4 ⟨rfl, hb⟩
  rw [← HE.out, show bs [] = ⟨#[]⟩ from rfl]
  have B4 := Lib.hid (below_trans B3.out hb B3.out.size)
  have BX4 := Lib.hid (BX3.out.below hb)
  have K24 := Lib.hid (K23.out.below hb)
  have K34 := Lib.hid (K3.out.below hb)
  clear hb hc0 hc1
  have hc0 := BX4.out.cell (i := 0) rfl
  have hc1 := BX4.out.cell (i := 1) rfl
  try dsimp only
  go_wp2_with fail
  refine (cCheck_any _ gs os _ (KC.out.below B4.out)).mono ?_
  rintro e W5 ⟨rfl, hb⟩
  rw [← HE.out]
  have B5 := Lib.hid (below_trans B4.out hb B4.out.size)
  have K25 := Lib.hid (K24.out.below hb)
  have K35 := Lib.hid (K34.out.below hb)
  clear hb hc0 hc1
  try dsimp only
  go_wp2_with fail
  refine (eqints_any _ _ _ _ _ K25.out (OwnInts.nil _ 0).is).mono ?_
  rintro e w' ⟨rfl, n1, rfl⟩
  rw [decide_eq_true rfl]
  try dsimp only
  go_wp2_with fail
  refine (equal_any _ _ _ _ _ (K35.out.drewN n1) (OwnNums.nil _ 0).is).mono ?_
  rintro e w' ⟨rfl, n2, rfl⟩
  rw [decide_eq_true rfl]
  try dsimp only
  go_wp2_with fail
  exact HP.out _ (below_drewN B5.out (n1 + n2))
-- OK PART
set_option maxRecDepth 100000 in
set_option maxHeartbeats 2000000 in
theorem circuitSays_ok (v vi : Value) (gs : List Gt) (os ins : List Int) (w : World) (h : IsCirc w v gs os) (hi : IsNums w vi ins) (h0 : circE gs os = 0) (hl : ins.length = (whoseL gs).length) (htab : Lib.TabIs Tryd.prog w "internal/strconv.uint64pow10" .u64 Lib.pow10Tab) (hvb : Verbs w) :
    Calls Tryd.prog 3 #[v, vi] w fun e w' => e = .returned (.bool true) ∧ Below w.heap.size w w' := by
  have KC := Lib.hid h
  have KI := Lib.hid hi
  have KT := Lib.hid htab
  have KV := Lib.hid hvb
  have H0 := Lib.hid h0
  have HIL := Lib.hid (show inputsL gs os = whoseL gs from if_pos h0)
  have HL := Lib.hid hl
  have HRE := Lib.hid (show runE gs os ins = 0 by unfold runE; rw [if_pos h0, if_pos hl])
  have HRL := Lib.hid (show runL gs os ins = ofFs (couts gs os (toFs ins)) by unfold runL; rw [HRE.out, if_pos rfl])
  obtain ⟨vg, vo, rfl, hg, ho⟩ := h
  obtain ⟨A1, c1, rfl, hc1', hm1, hl1, hu1, hr1⟩ := hg
  obtain ⟨A2, c2, rfl, hc2', hm2, hl2, hu2, hr2⟩ := ho
  obtain ⟨A3, c3, rfl, hc3', hm3, hl3, hu3, hr3⟩ := hi
  have BB := Lib.hid ((Below.refl w.heap.size w).alloc (Nat.le_refl _) (.cells #[.slice A1 gs.length c1, .slice A2 os.length c2] 25))
  have BX := Lib.hid (Box.new w 25 [.slice A1 gs.length c1, .slice A2 os.length c2])
  suffices hgoal : ∀ Post : Ending → World → Prop, (∀ w', Below w.heap.size w w' → Post (.returned (.bool true)) w') → Calls Tryd.prog 3 #[.agg #[.slice A1 gs.length c1, .slice A2 os.length c2], .slice A3 ins.length c3] w Post from
    hgoal _ fun w' hb => ⟨rfl, hb⟩
  intro Post hp
  have HP := Lib.hid hp
  clear hp hu1 hr1 hm1 hu2 hr2 hm2 hu3 hr3 hm3
  obtain ⟨L, hL⟩ : ∃ L, L = (whoseL gs).length := ⟨_, rfl⟩
  have HLL := Lib.hid hL
  rw [← hL] at hl
  have hbl : ((ins.length : Int) == (L : Int)) = true := by rw [beq_iff_eq]; omega
  clear hL h0 htab hvb hl
  go_enter Tryd.func3, Tryd.ntmps3
  go_wp2_with fail
  refine (rCirc_any _ gs os _ (KC.out.below BB.out)).mono ?_
  rintro e W1 ⟨rfl, hb⟩
  rw [H0.out]
  have B1 := Lib.hid (below_trans BB.out hb BB.out.size)
  have BX1 := Lib.hid (BX.out.below hb)
  have hc0 := BX1.out.cell (i := 0) rfl
  have hc1 := BX1.out.cell (i := 1) rfl
  have BD := Lib.hid (below_drewN (Below.refl W1.heap.size W1) 1)
  have HCT := Lib.hid (show ∀ W, Below W1.heap.size W1 W → Calls Tryd.prog 8 #[.agg #[.slice A1 gs.length c1, .slice A2 os.length c2]] W fun e w' => e = .returned (.string (bs (circT gs os))) ∧ Below W.heap.size W w' from fun W hW => rText_ok _ gs os W ((KC.out.below B1.out).below hW) H0.out (tab_below (tab_below KT.out B1.out) hW) ((KV.out.below B1.out).below hW))
  have HCW := Lib.hid (show ∀ W, Below W1.heap.size W1 W → Calls Tryd.prog 9 #[.agg #[.slice A1 gs.length c1, .slice A2 os.length c2]] W fun e w' => ∃ v, e = .returned v ∧ OwnInts w' W.heap.size v (whoseL gs) ∧ Below W.heap.size W w' from fun W hW => rWhose_any _ gs os W ((KC.out.below B1.out).below hW))
  clear hb
  try dsimp only
  go_wp2_with fail
  go_region_held3 (fun w' => w'.cell? ⟨w.heap.size, 0, none⟩ = some (.slice A1 gs.length c1) ∧ w'.cell? ⟨w.heap.size, 1, none⟩ = some (.slice A2 os.length c2)) (go_keep) (first | (go_at_call 8; refine (HCT.out _ BD.out).mono ?_; rintro e WT ⟨rfl, hbT⟩; have BD := Lib.hid (below_trans BD.out hbT BD.out.size); have BXT := Lib.hid (BX1.out.below BD.out); have q0 := BXT.out.cell (i := 0) rfl; have q1 := BXT.out.cell (i := 1) rfl; try (have KW := Lib.hid (KW.out.below hbT)); clear hbT) | (go_at_call 9; refine (HCW.out _ BD.out).mono ?_; rintro e WW ⟨vw, rfl, hoW, hbW⟩; have KW := Lib.hid hoW.is; obtain ⟨Aw, cw', hv, _, _⟩ := own_form hoW.1; rw [← HLL.out] at hv; subst hv; have BD := Lib.hid (below_trans BD.out hbW BD.out.size); have BXW := Lib.hid (BX1.out.below BD.out); have q2 := BXW.out.cell (i := 0) rfl; have q3 := BXW.out.cell (i := 1) rfl; clear hoW hbW))
  all_goals
    have B2 := Lib.hid (below_trans B1.out BD.out B1.out.size)
    have BX2 := Lib.hid (BX1.out.below BD.out)
    clear hc0 hc1 q0 q1 q2 q3
    have hc0 := BX2.out.cell (i := 0) rfl
    have hc1 := BX2.out.cell (i := 1) rfl
    try dsimp only
    go_wp2_with fail
    refine (rOuts_ok _ _ gs os ins _ (KC.out.below B2.out) (KI.out.below B2.out) H0.out HL.out).mono ?_
    rintro e W3 ⟨vO, rfl, ho, hb⟩
    have B3 := Lib.hid (below_trans B2.out hb B2.out.size)
    have BX3 := Lib.hid (BX2.out.below hb)
    replace KW := Lib.hid (KW.out.below hb)
    have KO := Lib.hid ho.is
    clear hb hc0 hc1 ho
    have hc0 := BX3.out.cell (i := 0) rfl
    have hc1 := BX3.out.cell (i := 1) rfl
    try dsimp only
    go_wp2_with fail
    refine (cInputs_any _ gs os _ (KC.out.below B3.out)).mono ?_
    rintro e W4 ⟨vI, rfl, ho, hb⟩
    rw [H0.out]
    rw [HIL.out] at ho
    have B4 := Lib.hid (below_trans B3.out hb B3.out.size)
    have BX4 := Lib.hid (BX3.out.below hb)
    replace KW := Lib.hid (KW.out.below hb)
    replace KO := Lib.hid (KO.out.below hb)
    have KJ := Lib.hid ho.is
    clear hb hc0 hc1 ho
    have hc0 := BX4.out.cell (i := 0) rfl
    have hc1 := BX4.out.cell (i := 1) rfl
    try dsimp only
    go_wp2_with fail
    refine (cRun_any _ _ gs os ins _ (KC.out.below B4.out) (KI.out.below B4.out)).mono ?_
    rintro e W5 ⟨vR, rfl, ho, hb⟩
    rw [HRE.out]
    rw [HRL.out] at ho
    have B5 := Lib.hid (below_trans B4.out hb B4.out.size)
    have BX5 := Lib.hid (BX4.out.below hb)
    replace KW := Lib.hid (KW.out.below hb)
    replace KO := Lib.hid (KO.out.below hb)
    replace KJ := Lib.hid (KJ.out.below hb)
    have KR := Lib.hid ho.is
    clear hb hc0 hc1 ho
    have hc0 := BX5.out.cell (i := 0) rfl
    have hc1 := BX5.out.cell (i := 1) rfl
    try dsimp only
    go_wp2_with fail
    refine (cPrint_ok _ gs os _ (KC.out.below B5.out) H0.out (tab_below KT.out B5.out)).mono ?_
    rintro e W6 ⟨rfl, hb⟩
    have B6 := Lib.hid (below_trans B5.out hb B5.out.size)
    have BX6 := Lib.hid (BX5.out.below hb)
    replace KW := Lib.hid (KW.out.below hb)
    replace KO := Lib.hid (KO.out.below hb)
    replace KJ := Lib.hid (KJ.out.below hb)
    replace KR := Lib.hid (KR.out.below hb)
    clear hb hc0 hc1
    have hc0 := BX6.out.cell (i := 0) rfl
    have hc1 := BX6.out.cell (i := 1) rfl
    try dsimp only
    go_wp2_with fail
    refine (cCheck_any _ gs os _ (KC.out.below B6.out)).mono ?_
    rintro e W7 ⟨rfl, hb⟩
    rw [H0.out]
    have B7 := Lib.hid (below_trans B6.out hb B6.out.size)
    have BX7 := Lib.hid (BX6.out.below hb)
    replace KW := Lib.hid (KW.out.below hb)
    replace KO := Lib.hid (KO.out.below hb)
    replace KJ := Lib.hid (KJ.out.below hb)
    replace KR := Lib.hid (KR.out.below hb)
    clear hb hc0 hc1
    have hc0 := BX7.out.cell (i := 0) rfl
    have hc1 := BX7.out.cell (i := 1) rfl
    try dsimp only
    go_wp2_with fail
    refine (eqints_any _ _ _ _ _ KJ.out KW.out).mono ?_
    rintro e w' ⟨rfl, n1, rfl⟩
    rw [decide_eq_true rfl]
    try dsimp only
    go_wp2_with fail
    refine (equal_any _ _ _ _ _ (KR.out.drewN n1) (KO.out.drewN n1)).mono ?_
    rintro e w' ⟨rfl, n2, rfl⟩
    rw [decide_eq_true rfl]
    try dsimp only
    go_wp2_with fail
    exact HP.out _ (below_drewN B7.out (n1 + n2))
set_option maxRecDepth 100000 in
set_option maxHeartbeats 2000000 in
theorem circuitSays_len (v vi : Value) (gs : List Gt) (os ins : List Int) (w : World) (h : IsCirc w v gs os) (hi : IsNums w vi ins) (h0 : circE gs os = 0) (hl : ins.length ≠ (whoseL gs).length) (htab : Lib.TabIs Tryd.prog w "internal/strconv.uint64pow10" .u64 Lib.pow10Tab) (hvb : Verbs w) :
    Calls Tryd.prog 3 #[v, vi] w fun e w' => e = .returned (.bool true) ∧ Below w.heap.size w w' := by
  have KC := Lib.hid h
  have KI := Lib.hid hi
  have KT := Lib.hid htab
  have KV := Lib.hid hvb
  have H0 := Lib.hid h0
  have HIL := Lib.hid (show inputsL gs os = whoseL gs from if_pos h0)
  have HRE := Lib.hid (show runE gs os ins = 5 by unfold runE; rw [if_pos h0, if_neg hl])
  have HRL := Lib.hid (show runL gs os ins = [] by unfold runL; rw [HRE.out, if_neg (by decide)])
  obtain ⟨vg, vo, rfl, hg, ho⟩ := h
  obtain ⟨A1, c1, rfl, hc1', hm1, hl1, hu1, hr1⟩ := hg
  obtain ⟨A2, c2, rfl, hc2', hm2, hl2, hu2, hr2⟩ := ho
  obtain ⟨A3, c3, rfl, hc3', hm3, hl3, hu3, hr3⟩ := hi
  have BB := Lib.hid ((Below.refl w.heap.size w).alloc (Nat.le_refl _) (.cells #[.slice A1 gs.length c1, .slice A2 os.length c2] 25))
  have BX := Lib.hid (Box.new w 25 [.slice A1 gs.length c1, .slice A2 os.length c2])
  suffices hgoal : ∀ Post : Ending → World → Prop, (∀ w', Below w.heap.size w w' → Post (.returned (.bool true)) w') → Calls Tryd.prog 3 #[.agg #[.slice A1 gs.length c1, .slice A2 os.length c2], .slice A3 ins.length c3] w Post from
    hgoal _ fun w' hb => ⟨rfl, hb⟩
  intro Post hp
  have HP := Lib.hid hp
  clear hp hu1 hr1 hm1 hu2 hr2 hm2 hu3 hr3 hm3
  obtain ⟨L, hL⟩ : ∃ L, L = (whoseL gs).length := ⟨_, rfl⟩
  have HLL := Lib.hid hL
  rw [← hL] at hl
  have hbl : ((ins.length : Int) == (L : Int)) = false := by rw [beq_eq_false_iff_ne]; omega
  clear hL h0 htab hvb hl
  go_enter Tryd.func3, Tryd.ntmps3
  go_wp2_with fail
  refine (rCirc_any _ gs os _ (KC.out.below BB.out)).mono ?_
  rintro e W1 ⟨rfl, hb⟩
  rw [H0.out]
  have B1 := Lib.hid (below_trans BB.out hb BB.out.size)
  have BX1 := Lib.hid (BX.out.below hb)
  have hc0 := BX1.out.cell (i := 0) rfl
  have hc1 := BX1.out.cell (i := 1) rfl
  have BD := Lib.hid (below_drewN (Below.refl W1.heap.size W1) 1)
  have HCT := Lib.hid (show ∀ W, Below W1.heap.size W1 W → Calls Tryd.prog 8 #[.agg #[.slice A1 gs.length c1, .slice A2 os.length c2]] W fun e w' => e = .returned (.string (bs (circT gs os))) ∧ Below W.heap.size W w' from fun W hW => rText_ok _ gs os W ((KC.out.below B1.out).below hW) H0.out (tab_below (tab_below KT.out B1.out) hW) ((KV.out.below B1.out).below hW))
  have HCW := Lib.hid (show ∀ W, Below W1.heap.size W1 W → Calls Tryd.prog 9 #[.agg #[.slice A1 gs.length c1, .slice A2 os.length c2]] W fun e w' => ∃ v, e = .returned v ∧ OwnInts w' W.heap.size v (whoseL gs) ∧ Below W.heap.size W w' from fun W hW => rWhose_any _ gs os W ((KC.out.below B1.out).below hW))
  clear hb
  try dsimp only
  go_wp2_with fail
  go_region_held3 (fun w' => w'.cell? ⟨w.heap.size, 0, none⟩ = some (.slice A1 gs.length c1) ∧ w'.cell? ⟨w.heap.size, 1, none⟩ = some (.slice A2 os.length c2)) (go_keep) (first | (go_at_call 8; refine (HCT.out _ BD.out).mono ?_; rintro e WT ⟨rfl, hbT⟩; have BD := Lib.hid (below_trans BD.out hbT BD.out.size); have BXT := Lib.hid (BX1.out.below BD.out); have q0 := BXT.out.cell (i := 0) rfl; have q1 := BXT.out.cell (i := 1) rfl; try (have KW := Lib.hid (KW.out.below hbT)); clear hbT) | (go_at_call 9; refine (HCW.out _ BD.out).mono ?_; rintro e WW ⟨vw, rfl, hoW, hbW⟩; have KW := Lib.hid hoW.is; obtain ⟨Aw, cw', hv, _, _⟩ := own_form hoW.1; rw [← HLL.out] at hv; subst hv; have BD := Lib.hid (below_trans BD.out hbW BD.out.size); have BXW := Lib.hid (BX1.out.below BD.out); have q2 := BXW.out.cell (i := 0) rfl; have q3 := BXW.out.cell (i := 1) rfl; clear hoW hbW))
  all_goals
    have B2 := Lib.hid (below_trans B1.out BD.out B1.out.size)
    have BX2 := Lib.hid (BX1.out.below BD.out)
    clear hc0 hc1 q0 q1 q2 q3
    have hc0 := BX2.out.cell (i := 0) rfl
    have hc1 := BX2.out.cell (i := 1) rfl
    try dsimp only
    go_wp2_with fail
    refine (cInputs_any _ gs os _ (KC.out.below B2.out)).mono ?_
    rintro e W3 ⟨vI, rfl, ho, hb⟩
    rw [H0.out]
    rw [HIL.out] at ho
    have B3 := Lib.hid (below_trans B2.out hb B2.out.size)
    have BX3 := Lib.hid (BX2.out.below hb)
    replace KW := Lib.hid (KW.out.below hb)
    have KJ := Lib.hid ho.is
    clear hb hc0 hc1 ho
    have hc0 := BX3.out.cell (i := 0) rfl
    have hc1 := BX3.out.cell (i := 1) rfl
    try dsimp only
    go_wp2_with fail
    refine (cRun_any _ _ gs os ins _ (KC.out.below B3.out) (KI.out.below B3.out)).mono ?_
    rintro e W4 ⟨vR, rfl, ho, hb⟩
    rw [HRE.out]
    rw [HRL.out] at ho
    have B4 := Lib.hid (below_trans B3.out hb B3.out.size)
    have BX4 := Lib.hid (BX3.out.below hb)
    replace KW := Lib.hid (KW.out.below hb)
    replace KJ := Lib.hid (KJ.out.below hb)
    have KR := Lib.hid ho.is
    clear hb hc0 hc1 ho
    have hc0 := BX4.out.cell (i := 0) rfl
    have hc1 := BX4.out.cell (i := 1) rfl
    try dsimp only
    go_wp2_with fail
    refine (cPrint_ok _ gs os _ (KC.out.below B4.out) H0.out (tab_below KT.out B4.out)).mono ?_
    rintro e W5 ⟨rfl, hb⟩
    have B5 := Lib.hid (below_trans B4.out hb B4.out.size)
    have BX5 := Lib.hid (BX4.out.below hb)
    replace KW := Lib.hid (KW.out.below hb)
    replace KJ := Lib.hid (KJ.out.below hb)
    replace KR := Lib.hid (KR.out.below hb)
    clear hb hc0 hc1
    have hc0 := BX5.out.cell (i := 0) rfl
    have hc1 := BX5.out.cell (i := 1) rfl
    try dsimp only
    go_wp2_with fail
    refine (cCheck_any _ gs os _ (KC.out.below B5.out)).mono ?_
    rintro e W6 ⟨rfl, hb⟩
    rw [H0.out]
    have B6 := Lib.hid (below_trans B5.out hb B5.out.size)
    have BX6 := Lib.hid (BX5.out.below hb)
    replace KW := Lib.hid (KW.out.below hb)
    replace KJ := Lib.hid (KJ.out.below hb)
    replace KR := Lib.hid (KR.out.below hb)
    clear hb hc0 hc1
    have hc0 := BX6.out.cell (i := 0) rfl
    have hc1 := BX6.out.cell (i := 1) rfl
    try dsimp only
    go_wp2_with fail
    refine (eqints_any _ _ _ _ _ KJ.out KW.out).mono ?_
    rintro e w' ⟨rfl, n1, rfl⟩
    rw [decide_eq_true rfl]
    try dsimp only
    go_wp2_with fail
    refine (equal_any _ _ _ _ _ (KR.out.drewN n1) (OwnNums.nil _ 0).is).mono ?_
    rintro e w' ⟨rfl, n2, rfl⟩
    rw [decide_eq_true rfl]
    try dsimp only
    go_wp2_with fail
    exact HP.out _ (below_drewN B6.out (n1 + n2))
theorem circuitSays_any (v vi : Value) (gs : List Gt) (os ins : List Int) (w : World) (h : IsCirc w v gs os) (hi : IsNums w vi ins) (htab : Lib.TabIs Tryd.prog w "internal/strconv.uint64pow10" .u64 Lib.pow10Tab) (hvb : Verbs w) :
    Calls Tryd.prog 3 #[v, vi] w fun e w' => e = .returned (.bool true) ∧ Below w.heap.size w w' := by
  by_cases h0 : circE gs os = 0
  · by_cases hl : ins.length = (whoseL gs).length
    · exact circuitSays_ok v vi gs os ins w h hi h0 hl htab hvb
    · exact circuitSays_len v vi gs os ins w h hi h0 hl htab hvb
  · exact circuitSays_bad v vi gs os ins w h hi h0
end Go.Proofs.YtknjcdlknnfhaaaDoor
