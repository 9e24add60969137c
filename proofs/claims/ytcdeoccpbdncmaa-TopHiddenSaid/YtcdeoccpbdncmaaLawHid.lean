/- What some parties see of a circuit without products hides what the others put in. -/
import Derived.Test.YtcdeoccpbdncmaaEngH
import Derived.Test.YtcdeoccpbdncmaaTopT
import Derived.Test.YtcdeoccpbdncmaaHideS
import Derived.Test.YtcdeoccpbdncmaaSomeW
import Derived.Test.YtcdeoccpbdncmaaJoin
import Derived.Test.YtcdeoccpbdncmaaFill
namespace Go.Proofs.Ytcdeoccpbdncmaa
open Go.RowKit Croft

set_option maxRecDepth 100000 in
set_option maxHeartbeats 1000000 in
theorem tSome_any (va : Value) (ps : List Int) (T N : Nat) (w : World) (h1 : IsInts w va ps) (hT : T ≤ 4) (hN : 0 < N) (hN9 : N ≤ 9) :
    Calls Try.prog 33 #[va, .int .i64 T, .int .i64 N] w fun e w' => ∃ v who, e = .returned v ∧ Some_ T N who ∧ OwnInts w' w.heap.size v who ∧ Below w.heap.size w w' := by
  have KA := Lib.hid h1
  obtain ⟨A1, c1, rfl, hc1, hm1, hl1, hu1, hr1⟩ := h1
  clear hu1 hr1 hm1
  go_enter Try.func33, Try.ntmps33
  go_wp2_with fail
  go_loopw [7, 13] (fun v i wr => ∃ (k : Nat) (who : List Int), k ≤ ps.length ∧ i = .int .i64 k ∧ Some_ T N who ∧ OwnInts wr w.heap.size v who ∧ Below w.heap.size w wr) (fun _ i _ => ps.length - (intOf i).toNat)
  case atStart => exact ⟨0, [], Nat.zero_le _, rfl, Some_.nil _ _, OwnInts.nil _ _, Below.refl _ _⟩
  case round =>
    obtain ⟨k, who, hk, rfl, hsome, hown, hbel⟩ := hrel
    have KO := Lib.hid hown
    have HS := Lib.hid hsome
    have BEL := Lib.hid hbel
    have hsz := hbel.size
    obtain ⟨Ao, co_, hv, hco, _⟩ := own_form hown.1
    subst hv
    have hwl := hsome.len
    clear hown hbel hsome
    by_cases hlt : k < ps.length
    · obtain ⟨A, c, hA, _, _, _, hu, hr⟩ := KA.out.below BEL.out
      injection hA with hA1 hA2 hA3
      subst hA1 hA3
      obtain ⟨b1, o1, z, rfl, hb1, hgk, hz64, hca⟩ := ints_at hr hu hlt
      clear hu hr hgk hb1
      go_wp2_with fail
      refine (rRest_any z N _ hN (by omega)).mono ?_
      rintro e w' ⟨⟨r, hr, rfl⟩, rfl⟩
      clear hca
      try dsimp only
      by_cases hfull : who.length < T
      · have hdf : decide (who.length < T) = true := by simpa using hfull
        have hdf2 : decide ((who.length : Int) < (T : Int)) = true := by simp; omega
        go_wp2_with fail
        refine (iContains_any _ who (1 + (r : Int)) _ KO.out.is).mono ?_
        rintro e w' ⟨rfl, rfl⟩
        try dsimp only
        by_cases hmem : (1 + (r : Int)) ∈ who
        · rw [decide_eq_true hmem]
          clear hmem
          go_wp2_with fail
          exact ⟨⟨k + 1, who, by omega, by go_num, HS.out, KO.out, BEL.out⟩, by simp [intOf] <;> omega⟩
        · rw [decide_eq_false hmem]
          have HS2 := Lib.hid (HS.out.add hfull (k := 1 + (r : Int)) (by omega) hmem)
          clear hmem
          go_wp2_with (at_builtin; go_loud (refine wpList_push_int rfl _ _ rfl w.heap.size _ who (1 + (r : Int)) wr.heap.size 1 rfl (KO.out.alloc _) rfl (new_cell _ _ _) (by unfold I64; omega) (by omega) (by rw [size_alloc]; omega) ?_))
          intro v' w5 hown' hbel'
          have K5 := Lib.hid hown'
          have B5 := Lib.hid ((BEL.out.alloc hsz (.cells #[.int .i64 (1 + (r : Int))] 3)).trans hbel')
          clear hown' hbel'
          go_wp2_with fail
          exact ⟨⟨k + 1, _, by omega, by go_num, HS2.out, K5.out, B5.out⟩, by simp [intOf] <;> omega⟩
      · have hdf : decide (who.length < T) = false := by simpa using hfull
        have hdf2 : decide ((who.length : Int) < (T : Int)) = false := by simp; omega
        go_wp2_with fail
        exact ⟨⟨k + 1, who, by omega, by go_num, HS.out, KO.out, BEL.out⟩, by simp [intOf] <;> omega⟩
    · obtain rfl : ps.length = k := by omega
      go_wp2_with fail
      go_ret
      exact ⟨_, who, rfl, HS.out, KO.out, BEL.out⟩
theorem isMulT_any (x : Gt) (W : World) : Calls Try.prog 32 #[gV x] W fun e w' => e = .returned (.bool (x.kind == 5)) ∧ Below W.heap.size W w' := by
  obtain ⟨k, a, b, n⟩ := x
  unfold gV
  dsimp only
  have BB := Lib.hid ((Below.refl W.heap.size W).alloc (Nat.le_refl _) (.cells #[.int .i64 k, .int .i64 a, .int .i64 b, .int .u64 n] 53))
  go_enter Try.func32, Try.ntmps32
  go_wp2_with fail
  go_ret
  exact ⟨rfl, BB.out⟩
theorem quietE {P : Program} {f : FuncId} {args : Array Value} {w : World} {n : Nat} {v : Value} (h : Calls P f args (w.drewN n) fun e w' => e = .returned v ∧ ∃ m, w' = (w.drewN n).drewN m) :
    Calls P f args (w.drewN n) fun e w'' => e = .returned v ∧ ∃ m, w'' = w.drewN m := h.mono fun _ _ ⟨he, m, hm⟩ => ⟨he, n + m, by rw [hm, World.drewN_drewN]⟩
theorem noMul_of {gs : List Gt} (h : mulB gs = false) : noMul gs := fun k g hg he => by
  unfold mulB at h
  rw [List.any_eq_false] at h
  have := h g (List.mem_of_getElem? hg)
  simp [he] at this
end Go.Proofs.Ytcdeoccpbdncmaa
namespace Go.Proofs.Ytcdeoccpbdncmaa
open Go.RowKit Croft

theorem ofFs_inj {a b : List F} (h : ofFs a = ofFs b) : a = b := by
  have := congrArg toFs h
  rwa [toFs_ofFs, toFs_ofFs] at this
set_option maxRecDepth 100000 in
set_option maxHeartbeats 2000000 in
theorem topHidden_any (vc vi vo2 vd vp : Value) (gs : List Gt) (os ins oth ds ps : List Int) (n t : Int) (w : World) (h : IsCirc w vc gs os) (hi : IsNums w vi ins) (ho2 : IsNums w vo2 oth) (hd : IsNums w vd ds) (hps : IsInts w vp ps) :
    Calls Try.prog 5 #[vc, .int .i64 n, .int .i64 t, vi, vo2, vd, vp] w fun e w' => e = .returned (.bool true) ∧ Below w.heap.size w w' := by
  have KC := Lib.hid h
  have KI := Lib.hid hi
  have KO := Lib.hid ho2
  have KD := Lib.hid hd
  have KP := Lib.hid hps
  obtain ⟨vg, vo, rfl, hg, ho⟩ := h
  have KG := Lib.hid hg
  obtain ⟨A1, c1, rfl, hc1', hm1, hl1, hu1, hr1⟩ := hg
  obtain ⟨A2, c2, rfl, hc2', hm2, hl2, hu2, hr2⟩ := ho
  have BB := Lib.hid ((Below.refl w.heap.size w).alloc (Nat.le_refl _) (.cells #[.slice A1 gs.length c1, .slice A2 os.length c2] 25))
  have BX := Lib.hid (Box.new w 25 [.slice A1 gs.length c1, .slice A2 os.length c2])
  clear hu1 hr1 hm1 hu2 hr2 hm2 hi hd ho2 hps
  suffices hgoal : ∀ Post : Ending → World → Prop, (∀ w', Below w.heap.size w w' → Post (.returned (.bool true)) w') → Calls Try.prog 5 #[.agg #[.slice A1 gs.length c1, .slice A2 os.length c2], .int .i64 n, .int .i64 t, vi, vo2, vd, vp] w Post from hgoal _ fun w' h => ⟨rfl, h⟩
  intro Post hp
  have HP := Lib.hid hp
  clear hp
  go_enter Try.func5, Try.ntmps5
  go_wp2_with fail
  refine (tSaid_any _).mono ?_
  rintro e W1 ⟨rfl, hb1⟩
  have B1 := Lib.hid (below_trans BB.out hb1 BB.out.size)
  have BX1 := Lib.hid (BX.out.below hb1)
  have hc0 := BX1.out.cell (i := 0) rfl
  have hc1 := BX1.out.cell (i := 1) rfl
  clear hb1
  try dsimp only
  go_wp2_with fail
  refine (eNeed_any _ gs os n t _ (KC.out.below B1.out)).mono ?_
  rintro e W2 ⟨rfl, hb2⟩
  have B2 := Lib.hid (below_trans B1.out hb2 B1.out.size)
  have BX2 := Lib.hid (BX1.out.below hb2)
  clear hb2 hc0 hc1 B1 BX1
  by_cases h0 : crewE gs os n t = 0
  · obtain ⟨hok, hcrew, hov⟩ := crewE_zero.1 h0
    obtain ⟨m, hm⟩ : ∃ m : Nat, n = (m : Int) := ⟨n.toNat, by unfold crewP at hcrew; omega⟩
    obtain ⟨T, hT⟩ : ∃ T : Nat, t = (T : Int) := ⟨t.toNat, by unfold crewP at hcrew; omega⟩
    subst hm hT
    have HN : needN gs os m T = (dat m T gs gs.length : Int) := by unfold needN; rw [if_pos h0, Int.toNat_natCast, Int.toNat_natCast]
    rw [h0, HN]
    have H0 := Lib.hid h0
    have OK := Lib.hid hok
    have HC := Lib.hid (circE_zero.2 hok)
    have hdl : dat m T gs gs.length ≤ 4000 := by
      have := dat_small (n := m) (t := T) (gs := gs) (by unfold crewP at hcrew; omega) (by unfold crewP at hcrew; omega) gs.length
      have := hok.g2
      omega
    have hwl : (whoseL gs).length ≤ 30 := by have := whoseL_le gs; have := hok.g2; omega
    have HI := Lib.hid (show inputsL gs os = whoseL gs from if_pos HC.out)
    have hm1 : 1 ≤ m := by unfold crewP at hcrew; omega
    have hm9 : m ≤ 9 := by unfold crewP at hcrew; omega
    have hm2 : 2 * T + 1 ≤ m := by unfold crewP at hcrew; omega
    have hT4 : T ≤ 4 := by unfold crewP at hcrew; omega
    obtain ⟨N, hN⟩ : ∃ N, N = dat m T gs gs.length := ⟨_, rfl⟩
    rw [← hN] at hdl ⊢
    have HNN := Lib.hid hN
    obtain ⟨K, hK⟩ : ∃ K, K = (whoseL gs).length := ⟨_, rfl⟩
    rw [← hK] at hwl
    have HK := Lib.hid hK
    have hc0 := BX2.out.cell (i := 0) rfl
    have hc1 := BX2.out.cell (i := 1) rfl
    clear hok hcrew hov h0 hN HN hK
    try dsimp only
    go_wp2_with fail
    refine (hasGates_any 32 _ gs _ (KG.out.below B2.out) isMulT_any (fun x W => by kernel_rfl)).mono ?_
    rintro e W3 ⟨rfl, hb3⟩
    have B3 := Lib.hid (below_trans B2.out hb3 B2.out.size)
    have BX3 := Lib.hid (BX2.out.below hb3)
    clear hb3 hc0 hc1
    cases hmul : mulB gs with
    | true =>
      try dsimp only
      go_wp2_with fail
      exact HP.out _ B3.out
    | false =>
      have NOM := Lib.hid (noMul_of hmul)
      have HNK := Lib.hid (show N = K * T by rw [HNN.out, dat_inputs NOM.out _ (Nat.le_refl _), cin_full, HK.out])
      clear hmul
      have hc0 := BX3.out.cell (i := 0) rfl
      have hc1 := BX3.out.cell (i := 1) rfl
      try dsimp only
      go_wp2_with fail
      refine (tSome_any _ ps T m _ (KP.out.below B3.out) hT4 (by omega) hm9).mono ?_
      rintro e W4 ⟨vwho, who, rfl, hsome, hown4, hb4⟩
      have HSO := Lib.hid hsome
      have B4 := Lib.hid (below_trans B3.out hb4 B3.out.size)
      have BX4 := Lib.hid (BX3.out.below hb4)
      have KWHO4 := Lib.hid hown4.is
      clear hsome hown4 hb4 hc0 hc1 BX2 BX3 B2
      have hc0 := BX4.out.cell (i := 0) rfl
      have hc1 := BX4.out.cell (i := 1) rfl
      try dsimp only
      go_wp2_with fail
      refine (cInputs_any _ gs os _ (KC.out.below B4.out)).mono ?_
      rintro e W5 ⟨v, rfl, ho1, hb5⟩
      rw [HI.out] at ho1
      rw [HC.out]
      obtain ⟨Aw, cw', hv, _, _⟩ := own_form ho1.1
      rw [← HK.out] at hv
      subst hv
      have B5 := Lib.hid (below_trans B4.out hb5 B4.out.size)
      have BX5 := Lib.hid (BX4.out.below hb5)
      have KW5 := Lib.hid ho1.is
      have KWHO5 := Lib.hid (KWHO4.out.below hb5)
      clear hb5 ho1 hc0 hc1 B3 KWHO4 BX4
      try dsimp only
      go_wp2_with fail
      refine (tFilled_any _ ins K _ (KI.out.below B5.out) (by omega)).mono ?_
      rintro e W6 ⟨vx, rfl, ho6, hb6⟩
      have B6 := Lib.hid (below_trans B5.out hb6 B5.out.size)
      have BX6 := Lib.hid (BX5.out.below hb6)
      have KX6 := Lib.hid ho6.is
      have KWHO6 := Lib.hid (KWHO5.out.below hb6)
      have KW6 := Lib.hid (KW5.out.below hb6)
      clear hb6 ho6 B4 BX5 KW5 KWHO5
      obtain ⟨xs, hxs⟩ : ∃ xs, xs = fillL ins K := ⟨_, rfl⟩
      rw [← hxs] at KX6
      have HXL := Lib.hid (show xs.length = K by rw [hxs, fillL_length])
      clear hxs
      try dsimp only
      go_wp2_with fail
      refine (tFilled_any _ oth K _ (KO.out.below B6.out) (by omega)).mono ?_
      rintro e W7 ⟨vy, rfl, ho7, hb7⟩
      have KY7 := Lib.hid ho7
      have HYL7 := Lib.hid (fillL_length oth K)
      have HBE7 := Lib.hid hb7
      clear ho7 hb7
      try dsimp only
      go_wp2_with fail
      go_loopw [73] (fun i wr => ∃ (k : Nat) (ys : List Int), k ≤ K ∧ i = .int .i64 k ∧ OwnNums wr W6.heap.size vy ys ∧ ys.length = K ∧ Below W6.heap.size W6 wr) (fun i _ => K - (intOf i).toNat)
      case atStart => exact ⟨0, _, Nat.zero_le _, rfl, KY7.out, HYL7.out, HBE7.out⟩
      case round =>
        obtain ⟨k, ys, hk, rfl, hown, hyl, hbel⟩ := hrel
        clear KY7 HYL7 HBE7
        have KY := Lib.hid hown
        have HYL := Lib.hid hyl
        have BEL := Lib.hid hbel
        have hszb := hbel.size
        clear hown hyl hbel
        by_cases hlt : k < K
        · obtain ⟨A, c, hA, _, _, _, hu, hr⟩ := KW6.out.below BEL.out
          injection hA with hA1 hA2 hA3
          subst hA1 hA3
          clear hA2
          obtain ⟨b1', o1, z, rfl, hb1, hz, huz, hcz⟩ := ints_at hr hu (k := k) (by rw [← HK.out]; exact hlt)
          obtain ⟨A, c, hvx, _, _, _, hux, hrx⟩ := KX6.out.below BEL.out
          obtain ⟨b2', o2, x, rfl, hb2, hx, hux2, hcx⟩ := nums_at hrx hux (k := k) (by rw [HXL.out]; exact hlt)
          rw [HXL.out] at hvx
          subst hvx
          obtain ⟨gy, cy, hvy, hgy1, hgy2⟩ := own_slice KY.out.1 (by rw [HYL.out]; omega)
          rw [HYL.out] at hvy
          subst hvy
          obtain ⟨y, hy⟩ : ∃ y, ys[k]? = some y := ⟨_, List.getElem?_eq_getElem (by rw [HYL.out]; exact hlt)⟩
          have hcy := KY.out.cell hy
          have hfy := KY.out.frozen k
          clear hr hu hz hb1 huz hrx hux hx hb2 hy
          go_wp2_with fail
          refine (iContains_any _ who z _ (KWHO6.out.below BEL.out)).mono ?_
          rintro e w' ⟨rfl, rfl⟩
          have KY2 := Lib.hid (KY.out.set_ k hux2)
          have BEL2 := Lib.hid (BEL.out.setCell (p := ⟨gy, k, none⟩) hgy1 (.int .u64 x))
          cases hcon : decide (z ∈ who) with
          | true =>
            clear hcon
            try dsimp only
            go_wp2_with fail
            exact ⟨⟨k + 1, ys.set k x, by omega, by go_num, KY2.out, by rw [List.length_set]; exact HYL.out, BEL2.out⟩, by simp [intOf] <;> omega⟩
          | false =>
            clear hcon
            try dsimp only
            go_wp2_with fail
            exact ⟨⟨k + 1, ys, by omega, by go_num, KY.out, HYL.out, BEL.out⟩, by simp [intOf] <;> omega⟩
        · obtain rfl : K = k := by omega
          have hdk : decide ((K : Int) < (K : Int)) = false := by simp
          have B8 := Lib.hid (below_trans B6.out BEL.out B6.out.size)
          have BX8 := Lib.hid (BX6.out.below BEL.out)
          have KX8 := Lib.hid (KX6.out.below BEL.out)
          have KY8 := Lib.hid KY.out.is
          have KWHO8 := Lib.hid (KWHO6.out.below BEL.out)
          have hc0 := BX8.out.cell (i := 0) rfl
          have hc1 := BX8.out.cell (i := 1) rfl
          clear KX6 KWHO6 KW6 BX6 B6 KY hszb
          go_wp2_with fail
          refine (cRun_ok _ vx gs os _ _ (KC.out.below B8.out) KX8.out HC.out (by rw [HXL.out, HK.out])).mono ?_
          rintro e W9 ⟨v9, rfl, ho9, hb9⟩
          have B9 := Lib.hid (below_trans B8.out hb9 B8.out.size)
          have BX9 := Lib.hid (BX8.out.below hb9)
          have KX9 := Lib.hid (KX8.out.below hb9)
          have KY9 := Lib.hid (KY8.out.below hb9)
          have KWHO9 := Lib.hid (KWHO8.out.below hb9)
          have KA9 := Lib.hid ho9.is
          clear hb9 ho9 hc0 hc1 KX8 KY8 KWHO8 BX8 B8
          have hc0 := BX9.out.cell (i := 0) rfl
          have hc1 := BX9.out.cell (i := 1) rfl
          try dsimp only
          go_wp2_with fail
          refine (cRun_ok _ vy gs os _ _ (KC.out.below B9.out) KY9.out HC.out (by rw [HYL.out, HK.out])).mono ?_
          rintro e W10 ⟨v10, rfl, ho10, hb10⟩
          have B10 := Lib.hid (below_trans B9.out hb10 B9.out.size)
          have BX10 := Lib.hid (BX9.out.below hb10)
          have KX10 := Lib.hid (KX9.out.below hb10)
          have KY10 := Lib.hid (KY9.out.below hb10)
          have KWHO10 := Lib.hid (KWHO9.out.below hb10)
          have KA10 := Lib.hid (KA9.out.below hb10)
          have KB10 := Lib.hid ho10.is
          clear hb10 ho10 hc0 hc1 KX9 KY9 KWHO9 BX9 B9
          try dsimp only
          go_wp2_with fail
          refine (equal_any _ _ _ _ _ KA10.out KB10.out).mono ?_
          rintro e W11 ⟨rfl, nd, hW11⟩
          have hb11 : Below W10.heap.size W10 W11 := by rw [hW11]; exact below_drewN (Below.refl _ _) _
          have B11 := Lib.hid (below_trans B10.out hb11 B10.out.size)
          have BX11 := Lib.hid (BX10.out.below hb11)
          have KX11 := Lib.hid (KX10.out.below hb11)
          have KY11 := Lib.hid (KY10.out.below hb11)
          have KWHO11 := Lib.hid (KWHO10.out.below hb11)
          clear hb11 hW11 KA10 KB10 KX10 KY10 KWHO10 BX10 B10 KA9
          cases heq : decide (ofFs (couts gs os (toFs xs)) = ofFs (couts gs os (toFs ys))) with
          | false =>
            clear heq
            try dsimp only
            go_wp2_with fail
            exact HP.out _ B11.out
          | true =>
            have HEQ := Lib.hid (ofFs_inj (of_decide_eq_true heq))
            clear heq
            try dsimp only
            go_wp2_with fail
            refine (tFilled_any _ ds N _ (KD.out.below B11.out) hdl).mono ?_
            rintro e W12 ⟨vD, rfl, ho12, hb12⟩
            have B12 := Lib.hid (below_trans B11.out hb12 B11.out.size)
            have BX12 := Lib.hid (BX11.out.below hb12)
            have KX12 := Lib.hid (KX11.out.below hb12)
            have KY12 := Lib.hid (KY11.out.below hb12)
            have KWHO12 := Lib.hid (KWHO11.out.below hb12)
            have KD12 := Lib.hid ho12.is
            clear ho12 hb12 KX11 KY11 KWHO11 BX11 B11
            obtain ⟨D, hD⟩ : ∃ D, D = fillL ds N := ⟨_, rfl⟩
            rw [← hD] at KD12
            have HDL := Lib.hid (show D.length = N by rw [hD, fillL_length])
            clear hD
            have HPT := Lib.hid (HSO.out.party hm9)
            have HASK := Lib.hid (show HAsk m T gs (blindP who) (toFs D) (toFs xs) (toFs ys) K from
              ⟨OK.out.right, NOM.out, hm2, by omega, by rw [HK.out, cin_full], by rw [toFs_length, HDL.out, HNK.out], blindP_co0 who, by rw [(blindP_facts who (party_ne HPT.out)).2]; have := HSO.out.len; omega⟩)
            try dsimp only
            go_wp2_with fail
            obtain ⟨AD, cd, hvD, hcd, hmd, hld, _, _⟩ := KD12.out
            rw [HDL.out] at hvD hcd hld
            subst hvD
            have hNKT : K * T ≤ 4000 := by have := HNK.out; omega
            obtain ⟨S, hS⟩ : ∃ S, S = catS T (blindP who) (toFs D) (toFs xs) (toFs ys) := ⟨_, rfl⟩
            have HS0 := Lib.hid (show S 0 = [] by rw [hS]; rfl)
            have HSN := Lib.hid (show ∀ k, S (k + 1) = S k ++ shD T (blindP who) (toFs D) (toFs xs) (toFs ys) k from fun k => by rw [hS]; rfl)
            have HSL := Lib.hid (show ∀ k, k ≤ K → (S k).length = k * T from fun k hk => by rw [hS]; exact catS_length (by rw [toFs_length, HDL.out, HNK.out]) k hk)
            have HVIEW := Lib.hid (show ∀ j, j < m → peval (blindP who) (pt j) = 0 → eo m T gs os (toFs ys) (S K) os.length j = eo m T gs os (toFs xs) (toFs D) os.length j from fun j hj hz => by
              rw [hS]; exact HASK.out.views OK.out.outs HEQ.out hj hz _ (Nat.le_refl _))
            clear hS HASK
            have hKM : ∀ k : Nat, k < K → (k + 1) * T ≤ K * T := fun k hk => Nat.mul_le_mul hk (Nat.le_refl _)
            have HKM := Lib.hid hKM
            clear hKM
            go_loopw [28, 116] (fun v i wr => ∃ k : Nat, k ≤ K ∧ i = .int .i64 k ∧ OwnNums wr W12.heap.size v (ofFs (S k)) ∧ Below W12.heap.size W12 wr) (fun _ i _ => K - (intOf i).toNat)
            case atStart => exact ⟨0, Nat.zero_le _, rfl, by rw [HS0.out]; exact OwnNums.nil _ _, Below.refl _ _⟩
            case round =>
              obtain ⟨k, hk, rfl, hown, hbel⟩ := hrel
              have KS := Lib.hid hown
              have BEL := Lib.hid hbel
              have hszs := hbel.size
              clear hown hbel
              by_cases hlt : k < K
              · obtain ⟨A, c, hvx, _, _, _, hux, hrx⟩ := KX12.out.below BEL.out
                obtain ⟨bx, ox, x, rfl, hbx, hx, hux2, hcx⟩ := nums_at hrx hux (k := k) (by rw [HXL.out]; exact hlt)
                rw [HXL.out] at hvx
                obtain ⟨A, c2, hvy, _, _, _, huy, hry⟩ := KY12.out.below BEL.out
                obtain ⟨by_, oy, y, rfl, hby, hy, huy2, hcy⟩ := nums_at hry huy (k := k) (by rw [HYL.out]; exact hlt)
                rw [HYL.out] at hvy
                subst hvx hvy
                have hx0 := hux2.1
                have hy0 := huy2.1
                have HGX := Lib.hid (co_toFs hx)
                have HGY := Lib.hid (co_toFs hy)
                have hk1 := HKM.out k hlt
                have hk2 : (k + 1) * T = k * T + T := Nat.succ_mul k T
                have e1 : (k : Int) * (T : Int) = ((k * T : Nat) : Int) := by simp
                have e2 : ((k : Int) + 1) * (T : Int) = (((k + 1) * T : Nat) : Int) := by rw [Int.natCast_mul]; rfl
                have hw1 : IntKind.i64.wrap ((k : Int) + 1) = (k : Int) + 1 := IntWalk.i64_in _ (by omega)
                have hw2 : IntKind.i64.wrap ((k : Int) * (T : Int)) = (k : Int) * (T : Int) := IntWalk.i64_in _ (by rw [e1]; omega)
                have hw3 : IntKind.i64.wrap (((k : Int) + 1) * (T : Int)) = ((k : Int) + 1) * (T : Int) := IntWalk.i64_in _ (by rw [e2]; omega)
                have hkN : (k + 1) * T ≤ N := by rw [HNK.out]; exact hk1
                have hsl := slice_run AD N cd (k * T) ((k + 1) * T) _ _ e1 e2 (by omega) (by omega)
                have hcut := (KD12.out.below BEL.out).cut (k * T) ((k + 1) * T) (by omega) (by rw [HDL.out]; exact hkN)
                rw [show (k + 1) * T - k * T = T by omega] at hsl hcut
                obtain ⟨vc, hvc⟩ : ∃ vc, vc = Value.slice (if cd = k * T then AD else AD.map (·.add (k * T * 1))) T (cd - k * T) := ⟨_, rfl⟩
                rw [← hvc] at hsl hcut
                have HCL := Lib.hid (show ((D.drop (k * T)).take T).length = T by simp; rw [HDL.out]; omega)
                have HCUT1 := Lib.hid (hcut.below (below_drewN (Below.refl wr.heap.size wr) 1))
                have KWHOr := Lib.hid ((KWHO12.out.below BEL.out).below (below_drewN (Below.refl wr.heap.size wr) 1))
                have hbx' := hbx
                have hby' := hby
                clear hcut hvc e1 e2 hk1 hk2 hkN hux hrx huy hry hx hy hbx hby
                go_wp2_with fail
                go_region_held3 (fun w' => w'.cell? ⟨bx, ox + k, none⟩ = some (.int .u64 x) ∧ w'.cell? ⟨by_, oy + k, none⟩ = some (.int .u64 y)) (go_keep) (first | (go_at_call 35; refine (hShift_ok _ _ who ((D.drop (k * T)).take T) x y _ KWHOr.out HCUT1.out HPT.out (by rw [HCL.out]; exact hT4) (by rw [HCL.out]; exact HSO.out.len) hx0 hy0).mono ?_; rintro e w6 ⟨vl, rfl, ho6, hb6⟩; have q0 := (hb6.cell (p := ⟨bx, ox + k, none⟩) hbx').trans hcx; have q1 := (hb6.cell (p := ⟨by_, oy + k, none⟩) hby').trans hcy; have KO6 := Lib.hid ho6; have BO6 := Lib.hid ((below_drewN (Below.refl wr.heap.size wr) 1).trans hb6); clear ho6 hb6))
                clear q0 q1 hsl hw1 hw2 hw3 hcx hcy hbx' hby'
                have HSK := Lib.hid (show ofFs (S (k + 1)) = ofFs (S k) ++ ofFs (shiftL (blindP who) (toFs ((D.drop (k * T)).take T)) (toF y - toF x)) by
                  rw [HSN.out, ofFs_append]
                  unfold shD
                  rw [toFs_take, toFs_drop, HGX.out, HGY.out])
                have KS6 := Lib.hid (KS.out.below BO6.out)
                have B66 := Lib.hid (below_trans BEL.out BO6.out hszs)
                have hsz6 := B66.out.size
                have HL1 := Lib.hid (show (ofFs (S k)).length + (ofFs (shiftL (blindP who) (toFs ((D.drop (k * T)).take T)) (toF y - toF x))).length ≤ 17592186043904 by
                  have h1 := HSL.out (k + 1) (by omega)
                  have h2 := HKM.out k hlt
                  rw [← List.length_append, ← HSK.out, ofFs_length, h1]
                  omega)
                go_wp2_with (at_builtin; go_loud (refine wpList_join rfl _ _ (by rfl) W12.heap.size _ _ _ _ (by rfl) KS6.out (by rfl) KO6.out.is HL1.out hsz6 ?_))
                intro v7 w7 hown7 hbel7
                rw [← HSK.out] at hown7
                have KO7 := Lib.hid hown7
                have BB7 := Lib.hid (B66.out.trans hbel7)
                clear hown7 hbel7
                go_wp2_with fail
                exact ⟨⟨k + 1, by omega, by go_num, KO7.out, BB7.out⟩, by simp [intOf] <;> omega⟩
              · obtain rfl : K = k := by omega
                have hdk : decide ((K : Int) < (K : Int)) = false := by simp
                have B13 := Lib.hid (below_trans B12.out BEL.out B12.out.size)
                have BX13 := Lib.hid (BX12.out.below BEL.out)
                have KX13 := Lib.hid (KX12.out.below BEL.out)
                have KY13 := Lib.hid (KY12.out.below BEL.out)
                have KWHO13 := Lib.hid (KWHO12.out.below BEL.out)
                have KD13 := Lib.hid (KD12.out.below BEL.out)
                have KS13 := Lib.hid KS.out.is
                have hc0 := BX13.out.cell (i := 0) rfl
                have hc1 := BX13.out.cell (i := 1) rfl
                clear BX12 KX12 KY12 KWHO12 KD12 KS hszs
                go_wp2_with fail
                refine (eRun_ok _ vx _ gs os _ _ m T _ (KC.out.below B13.out) KX13.out KD13.out H0.out (by rw [HXL.out, HK.out]) (by rw [HDL.out, HNN.out])).mono ?_
                rintro e W14 ⟨vo14, g14, vss14, rfl, _, hg14, _, hb14⟩
                have B14 := Lib.hid (below_trans B13.out hb14 B13.out.size)
                have BX14 := Lib.hid (BX13.out.below hb14)
                have KY14 := Lib.hid (KY13.out.below hb14)
                have KWHO14 := Lib.hid (KWHO13.out.below hb14)
                have KS14 := Lib.hid (KS13.out.below hb14)
                have KU14 := Lib.hid hg14
                clear hg14 hb14 hc0 hc1 BX13 KX13 KY13 KWHO13 KD13 KS13 B13
                have hc0 := BX14.out.cell (i := 0) rfl
                have hc1 := BX14.out.cell (i := 1) rfl
                try dsimp only
                go_wp2_with fail
                refine (eRun_ok _ vy _ gs os _ _ m T _ (KC.out.below B14.out) KY14.out KS14.out H0.out (by rw [HYL.out, HK.out]) (by rw [ofFs_length, HSL.out K (Nat.le_refl _), ← HNK.out, HNN.out])).mono ?_
                rintro e W15 ⟨vo15, g15, vss15, rfl, _, hg15, _, hb15⟩
                have B15 := Lib.hid (below_trans B14.out hb15 B14.out.size)
                have KWHO15 := Lib.hid (KWHO14.out.below hb15)
                have KU15 := Lib.hid (KU14.out.below hb15)
                rw [toFs_ofFs] at hg15
                have KV15 := Lib.hid hg15
                clear hg15 hb15 hc0 hc1 BX14 KY14 KWHO14 KS14 B14 KU14
                have ROW := Lib.hid (show ∀ j : Nat, j < m → peval (blindP who) (pt j) = 0 → ∃ xu xv, W15.cell? ⟨g14, j, none⟩ = some xu ∧ W15.cell? ⟨g15, j, none⟩ = some xv ∧ ∀ nd N, Calls Try.prog 20 #[xu, xv] (W15.drewN (nd + N)) fun e w' => e = .returned (.bool true) ∧ ∃ q, w' = W15.drewN (nd + q) from fun j hj hz => by
                  obtain ⟨xu, hxu⟩ : ∃ x, vss14[j]? = some x := ⟨_, List.getElem?_eq_getElem (by rw [KU15.out.vlen, rowsN_length]; exact hj)⟩
                  obtain ⟨xv, hxv⟩ : ∃ x, vss15[j]? = some x := ⟨_, List.getElem?_eq_getElem (by rw [KV15.out.vlen, rowsN_length]; exact hj)⟩
                  have h1 := KU15.out.row j xu _ hxu (rowsN_get _ hj)
                  have h2 := KV15.out.row j xv _ hxv (rowsN_get _ hj)
                  rw [HVIEW.out j hj hz] at h2
                  refine ⟨xu, xv, KU15.out.cell hxu, KV15.out.cell hxv, fun nd N => ?_⟩
                  have C := equal_any xu xv _ _ (W15.drewN (nd + N)) (h1.is.drewN _) (h2.is.drewN _)
                  rw [decide_eq_true rfl] at C
                  exact C.mono fun _ _ ⟨he, q, hq⟩ => ⟨he, N + q, by rw [hq, World.drewN_drewN, Nat.add_assoc]⟩)
                obtain ⟨AW, cW, hvW, _, _, hlW, huW, hrW⟩ := KWHO15.out
                subst hvW
                clear huW hrW
                have hwho4 : who.length ≤ 9 := by have := HSO.out.len; omega
                try dsimp only
                go_wp2_with fail
                go_loopw [175] (fun i wr => ∃ k nd : Nat, k ≤ who.length ∧ i = .int .i64 k ∧ wr = W15.drewN nd) (fun i _ => who.length - (intOf i).toNat)
                case atStart => exact ⟨0, 0, Nat.zero_le _, rfl, rfl⟩
                case round =>
                  obtain ⟨k, nd, hk, rfl, rfl⟩ := hrel
                  by_cases hlt : k < who.length
                  · obtain ⟨A, c, hA, _, _, _, hu, hr⟩ := KWHO15.out
                    injection hA with hA1 hA2 hA3
                    subst hA1 hA3
                    clear hA2
                    obtain ⟨bw, ow, z, rfl, hbw, hz, huz, hcz⟩ := ints_at hr hu hlt
                    have hzi := HSO.out.in_ z (List.mem_of_getElem? hz)
                    obtain ⟨zn, hzn⟩ : ∃ zn : Nat, z = (zn : Int) + 1 := ⟨(z - 1).toNat, by omega⟩
                    subst hzn
                    have hzm : zn < m := by omega
                    have hzero : peval (blindP who) (pt zn) = 0 := blindP_at who (party_ne HPT.out) _ (List.mem_of_getElem? hz)
                    obtain ⟨xu, xv, hcu, hcv, hC⟩ := ROW.out zn hzm hzero
                    have HC2 := Lib.hid hC
                    have hsub : (zn : Int) + 1 - 1 = (zn : Int) := by omega
                    have hwz : IntKind.i64.wrap ((zn : Int) + 1 - 1) = (zn : Int) := by rw [hsub]; exact IntWalk.i64_in _ (by omega)
                    have hwz2 : IntKind.i64.wrap (zn : Int) = (zn : Int) := IntWalk.i64_in _ (by omega)
                    have hnn : 0 ≤ (zn : Int) := by omega
                    clear hr hu hz hbw hC hzero huz
                    go_wp2_with fail
                    go_quiet ((exact HC2.out _ _))
                    go_wp2_with fail
                    exact ⟨⟨k + 1, _, by omega, by go_num, rfl⟩, by simp [intOf] <;> omega⟩
                  · obtain rfl : k = who.length := by omega
                    have hdk : decide ((who.length : Int) < (who.length : Int)) = false := by simp
                    go_wp2_with fail
                    exact HP.out _ (below_drewN B15.out _)
  · have hbb : (crewE gs os n t != 0) = true := by rw [bne_iff_ne]; exact h0
    try dsimp only
    go_wp2_with fail
    exact HP.out _ B2.out
end Go.Proofs.Ytcdeoccpbdncmaa
