/- The law CircuitBack, walked. -/
import Derived.Test.YtljpangeodgbkaaDoorParseW
import Derived.Test.YtljpangeodgbkaaDoorPrintW
namespace Go.Proofs.YtljpangeodgbkaaDoor
open Go.RowKit Go.Sort Go.PlainAid Croft

theorem IsCirc.form2 {w : World} {v : Value} {gs : List Gt} {os : List Int} (h : IsCirc w v gs os) : ∃ A1 c1 A2 c2, v = .agg #[.slice A1 gs.length c1, .slice A2 os.length c2] := by
  obtain ⟨vg, vo, rfl, hg, ho⟩ := h
  obtain ⟨A1, c1, rfl, _⟩ := hg
  obtain ⟨A2, c2, rfl, _⟩ := ho
  exact ⟨A1, c1, A2, c2, rfl⟩
theorem sameG_norm (x : Gt) : sameG (normG x) x = true ∧ sameG x (normG x) = true := by
  constructor <;> simp [sameG, normG, toF_ofF]
theorem sameGs_norm (gs : List Gt) : sameGs (gs.map normG) gs = true ∧ sameGs gs (gs.map normG) = true := by
  unfold sameGs
  constructor
  · rw [decide_eq_true (by simp), Bool.true_and]
    induction gs with
    | nil => rfl
    | cons g gs ih => rw [List.map_cons, List.zipWith_cons_cons, List.all_cons, ih, (sameG_norm g).1]; rfl
  · rw [decide_eq_true (by simp), Bool.true_and]
    induction gs with
    | nil => rfl
    | cons g gs ih => rw [List.map_cons, List.zipWith_cons_cons, List.all_cons, ih, (sameG_norm g).2]; rfl
theorem sameC_norm (gs : List Gt) (os : List Int) : sameC (gs.map normG) os gs os = true ∧ sameC gs os (gs.map normG) os = true := by
  unfold sameC
  rw [decide_eq_true rfl, (sameGs_norm gs).1, (sameGs_norm gs).2]
  exact ⟨rfl, rfl⟩
theorem tinyOk : circE tinyG [4] = 0 := by decide +kernel
theorem tinyText : circT tinyG [4] = [105, 110, 112, 117, 116, 32, 49, 10, 105, 110, 112, 117, 116, 32, 50, 10, 109, 117, 108, 32, 48, 32, 49, 10, 99, 111, 110, 115, 116, 32, 55, 10, 97, 100, 100, 32, 50, 32, 51, 10, 111, 117, 116, 32, 52, 10] := by
  have d : ∀ i : Nat, i < 10 → Lib.decDigits i = [UInt8.ofNat (48 + i)] := fun i h => Lib.decDigits_one h
  have h7 : ofF (toF 7) = 7 := by decide +kernel
  simp only [circT, tinyG, List.flatMap_cons, List.flatMap_nil, gateT, lineT, outT, wordL, numL, h7]
  rw [show ((1 : Int)).toNat = 1 from rfl, show ((2 : Int)).toNat = 2 from rfl, show ((0 : Int)).toNat = 0 from rfl, show ((7 : Int)).toNat = 7 from rfl, show ((3 : Int)).toNat = 3 from rfl, show ((4 : Int)).toNat = 4 from rfl, d 1 (by omega), d 2 (by omega), d 0 (by omega), d 7 (by omega), d 3 (by omega), d 4 (by omega)]
  rfl
set_option maxRecDepth 100000 in
set_option maxHeartbeats 4000000 in
theorem circuitBack_any (v : Value) (gs : List Gt) (os : List Int) (l : List UInt8) (w : World) (h : IsCirc w v gs os) (hm : MaxIs w) (htab : Lib.TabIs Tryd.prog w "internal/strconv.uint64pow10" .u64 Lib.pow10Tab) :
    Calls Tryd.prog 4 #[v, .string (bs l)] w fun e w' => e = .returned (.bool true) ∧ Below w.heap.size w w' := by
  have KC := Lib.hid h
  have HM := Lib.hid hm
  have HT := Lib.hid htab
  obtain ⟨A1, c1, A2, c2, rfl⟩ := h.form2
  have BB := Lib.hid ((Below.refl w.heap.size w).alloc (Nat.le_refl _) (.cells #[.slice A1 gs.length c1, .slice A2 os.length c2] 25))
  have BX0 := Lib.hid (Box.new w 25 [.slice A1 gs.length c1, .slice A2 os.length c2])
  suffices hgoal : ∀ Post : Ending → World → Prop, (∀ w', Below w.heap.size w w' → Post (.returned (.bool true)) w') → Calls Tryd.prog 4 #[.agg #[.slice A1 gs.length c1, .slice A2 os.length c2], .string (bs l)] w Post from hgoal _ fun w' h => ⟨rfl, h⟩
  intro Post hpo
  have HP := Lib.hid hpo
  obtain ⟨s, hs⟩ : ∃ s, s = bs l := ⟨_, rfl⟩
  have CPL := Lib.hid (fun W (hW : MaxIs W) => cParse_any l W hW)
  rw [← hs] at CPL ⊢
  clear h hm htab hpo hs
  go_enter Tryd.func4, Tryd.ntmps4
  go_wp2_with fail
  refine (kTiny_any _).mono ?_
  rintro e W1 ⟨vt, rfl, hct, hb⟩
  have B1 := Lib.hid (below_trans BB.out hb BB.out.size)
  have BX1 := Lib.hid (BX0.out.below hb)
  have KT := Lib.hid hct
  clear hb hct
  try dsimp only
  go_wp2_with fail
  refine (cPrint_ok _ _ _ _ KT.out tinyOk (tab_below HT.out B1.out)).mono ?_
  rintro e W2 ⟨rfl, hb⟩
  have B2 := Lib.hid (below_trans B1.out hb B1.out.size)
  have BX2 := Lib.hid (BX1.out.below hb)
  clear hb
  obtain ⟨st, hst⟩ : ∃ st, st = bs (circT tinyG [4]) := ⟨_, rfl⟩
  have hbt : (st.toList == [105, 110, 112, 117, 116, 32, 49, 10, 105, 110, 112, 117, 116, 32, 50, 10, 109, 117, 108, 32, 48, 32, 49, 10, 99, 111, 110, 115, 116, 32, 55, 10, 97, 100, 100, 32, 50, 32, 51, 10, 111, 117, 116, 32, 52, 10]) = true := by rw [hst, bs_toList, tinyText]; rfl
  rw [← hst]
  clear hst
  have k0 := BX2.out.cell (i := 0) rfl
  have k1 := BX2.out.cell (i := 1) rfl
  try dsimp only
  -- ARMS (gen_back.py)
  obtain ⟨ps, hps⟩ : ∃ ps, ps = parseT l := ⟨_, rfl⟩
  have HPS := Lib.hid hps
  rw [← hps] at CPL
  clear hps
  by_cases h0 : circE gs os = 0
  · have HOC := Lib.hid (circE_zero.1 h0)
    have CP1 := Lib.hid (cPrint_ok _ gs os W2 (KC.out.below B2.out) h0 (tab_below HT.out B2.out))
    have CP2 := Lib.hid (fun W (hW : MaxIs W) => cParse_any (circT gs os) W hW)
    rw [parse_circT HOC.out] at CP2
    have HSM := Lib.hid ((sameC_norm gs os).1)
    obtain ⟨gn, hgn⟩ : ∃ gn, gn = gs.map normG := ⟨_, rfl⟩
    rw [← hgn] at CP2 HSM
    obtain ⟨tx, htx⟩ : ∃ tx, tx = bs (circT gs os) := ⟨_, rfl⟩
    rw [← htx] at CP1 CP2
    clear htx h0 hgn
    go_wp2_with fail
    refine CP1.out.mono ?_
    rintro e W3 ⟨rfl, hb⟩
    have B3 := Lib.hid (below_trans B2.out hb B2.out.size)
    have BX3 := Lib.hid (BX2.out.below hb)
    have HM3 := Lib.hid (HM.out.below B3.out)
    clear hb k0 k1
    try dsimp only
    go_wp2_with fail
    refine (CP2.out _ HM3.out).mono ?_
    rintro e W4 ⟨vn, rfl, hc, hb⟩
    have B4 := Lib.hid (below_trans B3.out hb B3.out.size)
    obtain ⟨A3, c3, A4, c4, rfl⟩ := hc.form2
    have KN := Lib.hid hc
    have BX4 := Lib.hid (BX3.out.below hb)
    have BA1 := Lib.hid ((Below.refl W4.heap.size W4).alloc (Nat.le_refl _) (.cells #[.slice A3 gn.length c3, .slice A4 os.length c4] 25))
    have BX5 := Lib.hid (BX4.out.below BA1.out)
    have k0 := BX5.out.cell (i := 0) rfl
    have k1 := BX5.out.cell (i := 1) rfl
    have B5 := Lib.hid (below_trans B4.out BA1.out B4.out.size)
    have CS1 := Lib.hid (rSameC_any _ _ _ _ _ _ _ (KN.out.below BA1.out) (KC.out.below B5.out))
    rw [HSM.out] at CS1
    clear hc hb
    try dsimp only
    go_wp2_with fail
    refine CS1.out.mono ?_
    rintro e W6 ⟨rfl, hb⟩
    have B6 := Lib.hid (below_trans B5.out hb B5.out.size)
    clear hb k0 k1
    have HMW := Lib.hid (HM.out.below B6.out)
    try dsimp only
    go_wp2_with fail
    refine (CPL.out _ HMW.out).mono ?_
    rintro e Wp ⟨vx, rfl, hc, hb⟩
    have Bp := Lib.hid (below_trans B6.out hb B6.out.size)
    obtain ⟨Ax, cx, Ay, cy, rfl⟩ := hc.form2
    have KX := Lib.hid hc
    have BA := Lib.hid ((Below.refl Wp.heap.size Wp).alloc (Nat.le_refl _) (.cells #[.slice Ax ps.gs.length cx, .slice Ay ps.os.length cy] 25))
    have BXX := Lib.hid (Box.new Wp 25 [.slice Ax ps.gs.length cx, .slice Ay ps.os.length cy])
    have KX1 := Lib.hid (KX.out.below BA.out)
    have Bq := Lib.hid (below_trans Bp.out BA.out Bp.out.size)
    have q0 := BXX.out.cell (i := 0) rfl
    have q1 := BXX.out.cell (i := 1) rfl
    clear hc hb
    generalize hwq : Wp.alloc (.cells #[.slice Ax ps.gs.length cx, .slice Ay ps.os.length cy] 25) = Wq at *
    obtain ⟨xb, hxb⟩ : ∃ xb, xb = Wp.heap.size := ⟨_, rfl⟩
    by_cases he : ps.e = 0
    · have HOK := Lib.hid (show CircOk ps.gs ps.os by rw [HPS.out]; exact parseT_ok (by rw [← HPS.out]; exact he))
      have HE0 := Lib.hid he
      have CPR := Lib.hid (cPrint_ok _ _ _ Wq KX1.out (circE_zero.2 HOK.out) (tab_below HT.out Bq.out))
      have CPT := Lib.hid (fun W (hW : MaxIs W) => cParse_any (circT ps.gs ps.os) W hW)
      rw [parse_circT HOK.out] at CPT
      have HSN := Lib.hid ((sameC_norm ps.gs ps.os).2)
      obtain ⟨gy, hgy⟩ : ∃ gy, gy = ps.gs.map normG := ⟨_, rfl⟩
      rw [← hgy] at CPT HSN
      obtain ⟨sx, hsx⟩ : ∃ sx, sx = bs (circT ps.gs ps.os) := ⟨_, rfl⟩
      rw [← hsx] at CPR CPT
      rw [he]
      clear hsx he hgy
      subst hwq
      try dsimp only
      go_wp2_with fail
      refine CPR.out.mono ?_
      rintro e Wr ⟨rfl, hb⟩
      have Br := Lib.hid (below_trans Bq.out hb Bq.out.size)
      have BXr := Lib.hid (BXX.out.below hb)
      have KXr := Lib.hid (KX1.out.below hb)
      have HMr := Lib.hid (HM.out.below Br.out)
      clear hb q0 q1
      try dsimp only
      go_wp2_with fail
      refine (CPT.out _ HMr.out).mono ?_
      rintro e Ws ⟨vy, rfl, hc, hb⟩
      have Bs := Lib.hid (below_trans Br.out hb Br.out.size)
      obtain ⟨Au, cu, Av, cv, rfl⟩ := hc.form2
      have KYs := Lib.hid hc
      have BXs := Lib.hid (BXr.out.below hb)
      have KXs := Lib.hid (KXr.out.below hb)
      have BA2 := Lib.hid ((Below.refl Ws.heap.size Ws).alloc (Nat.le_refl _) (.cells #[.slice Au gy.length cu, .slice Av ps.os.length cv] 25))
      have r0 := (BXs.out.below BA2.out).cell (i := 0) rfl
      have r1 := (BXs.out.below BA2.out).cell (i := 1) rfl
      have Bt := Lib.hid (below_trans Bs.out BA2.out Bs.out.size)
      have CSM := Lib.hid (rSameC_any _ _ _ _ _ _ _ (KXs.out.below BA2.out) (KYs.out.below BA2.out))
      rw [HSN.out] at CSM
      clear hc hb
      try dsimp only
      go_wp2_with fail
      refine CSM.out.mono ?_
      rintro e Wt ⟨rfl, hb⟩
      have Bu := Lib.hid (below_trans Bt.out hb Bt.out.size)
      clear hb
      try dsimp only
      go_wp2_with fail
      exact HP.out _ Bu.out
    · obtain ⟨z1, z2, z3⟩ := parseT_bad (s := l) (by rw [← HPS.out]; exact he)
      rw [← HPS.out] at z1 z2 z3
      have heb : (ps.e == 0) = false := by rw [beq_eq_false_iff_ne]; exact he
      have hge : decide (ps.at_ ≥ 0) = true := by rw [decide_eq_true_iff]; exact z3
      have hl0 : ((ps.gs.length : Int) == 0) = true := by rw [z1]; rfl
      clear he z1 z2 z3
      subst hwq
      try dsimp only
      go_wp2_with fail
      exact HP.out _ Bq.out
  · have CP1 := Lib.hid (cPrint_bad _ gs os W2 (KC.out.below B2.out) h0)
    obtain ⟨E, hE⟩ : ∃ E, E = circE gs os := ⟨_, rfl⟩
    rw [← hE] at CP1
    have hbE : (E == 0) = false := by rw [hE, beq_eq_false_iff_ne]; exact h0
    clear hE h0
    go_wp2_with fail
    refine CP1.out.mono ?_
    rintro e W3 ⟨rfl, hb⟩
    have B3 := Lib.hid (below_trans B2.out hb B2.out.size)
    clear hb k0 k1
    have HMW := Lib.hid (HM.out.below B3.out)
    try dsimp only
    go_wp2_with fail
    refine (CPL.out _ HMW.out).mono ?_
    rintro e Wp ⟨vx, rfl, hc, hb⟩
    have Bp := Lib.hid (below_trans B3.out hb B3.out.size)
    obtain ⟨Ax, cx, Ay, cy, rfl⟩ := hc.form2
    have KX := Lib.hid hc
    have BA := Lib.hid ((Below.refl Wp.heap.size Wp).alloc (Nat.le_refl _) (.cells #[.slice Ax ps.gs.length cx, .slice Ay ps.os.length cy] 25))
    have BXX := Lib.hid (Box.new Wp 25 [.slice Ax ps.gs.length cx, .slice Ay ps.os.length cy])
    have KX1 := Lib.hid (KX.out.below BA.out)
    have Bq := Lib.hid (below_trans Bp.out BA.out Bp.out.size)
    have q0 := BXX.out.cell (i := 0) rfl
    have q1 := BXX.out.cell (i := 1) rfl
    clear hc hb
    generalize hwq : Wp.alloc (.cells #[.slice Ax ps.gs.length cx, .slice Ay ps.os.length cy] 25) = Wq at *
    obtain ⟨xb, hxb⟩ : ∃ xb, xb = Wp.heap.size := ⟨_, rfl⟩
    by_cases he : ps.e = 0
    · have HOK := Lib.hid (show CircOk ps.gs ps.os by rw [HPS.out]; exact parseT_ok (by rw [← HPS.out]; exact he))
      have HE0 := Lib.hid he
      have CPR := Lib.hid (cPrint_ok _ _ _ Wq KX1.out (circE_zero.2 HOK.out) (tab_below HT.out Bq.out))
      have CPT := Lib.hid (fun W (hW : MaxIs W) => cParse_any (circT ps.gs ps.os) W hW)
      rw [parse_circT HOK.out] at CPT
      have HSN := Lib.hid ((sameC_norm ps.gs ps.os).2)
      obtain ⟨gy, hgy⟩ : ∃ gy, gy = ps.gs.map normG := ⟨_, rfl⟩
      rw [← hgy] at CPT HSN
      obtain ⟨sx, hsx⟩ : ∃ sx, sx = bs (circT ps.gs ps.os) := ⟨_, rfl⟩
      rw [← hsx] at CPR CPT
      rw [he]
      clear hsx he hgy
      subst hwq
      try dsimp only
      go_wp2_with fail
      refine CPR.out.mono ?_
      rintro e Wr ⟨rfl, hb⟩
      have Br := Lib.hid (below_trans Bq.out hb Bq.out.size)
      have BXr := Lib.hid (BXX.out.below hb)
      have KXr := Lib.hid (KX1.out.below hb)
      have HMr := Lib.hid (HM.out.below Br.out)
      clear hb q0 q1
      try dsimp only
      go_wp2_with fail
      refine (CPT.out _ HMr.out).mono ?_
      rintro e Ws ⟨vy, rfl, hc, hb⟩
      have Bs := Lib.hid (below_trans Br.out hb Br.out.size)
      obtain ⟨Au, cu, Av, cv, rfl⟩ := hc.form2
      have KYs := Lib.hid hc
      have BXs := Lib.hid (BXr.out.below hb)
      have KXs := Lib.hid (KXr.out.below hb)
      have BA2 := Lib.hid ((Below.refl Ws.heap.size Ws).alloc (Nat.le_refl _) (.cells #[.slice Au gy.length cu, .slice Av ps.os.length cv] 25))
      have r0 := (BXs.out.below BA2.out).cell (i := 0) rfl
      have r1 := (BXs.out.below BA2.out).cell (i := 1) rfl
      have Bt := Lib.hid (below_trans Bs.out BA2.out Bs.out.size)
      have CSM := Lib.hid (rSameC_any _ _ _ _ _ _ _ (KXs.out.below BA2.out) (KYs.out.below BA2.out))
      rw [HSN.out] at CSM
      clear hc hb
      try dsimp only
      go_wp2_with fail
      refine CSM.out.mono ?_
      rintro e Wt ⟨rfl, hb⟩
      have Bu := Lib.hid (below_trans Bt.out hb Bt.out.size)
      clear hb
      try dsimp only
      go_wp2_with fail
      exact HP.out _ Bu.out
    · obtain ⟨z1, z2, z3⟩ := parseT_bad (s := l) (by rw [← HPS.out]; exact he)
      rw [← HPS.out] at z1 z2 z3
      have heb : (ps.e == 0) = false := by rw [beq_eq_false_iff_ne]; exact he
      have hge : decide (ps.at_ ≥ 0) = true := by rw [decide_eq_true_iff]; exact z3
      have hl0 : ((ps.gs.length : Int) == 0) = true := by rw [z1]; rfl
      clear he z1 z2 z3
      subst hwq
      try dsimp only
      go_wp2_with fail
      exact HP.out _ Bq.out
end Go.Proofs.YtljpangeodgbkaaDoor
