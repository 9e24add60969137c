/- Circuits: what Run returns. -/
import Derived.Test.YtcdeoccpbdncmaaCircV
namespace Go.Proofs.Ytcdeoccpbdncmaa
open Go.RowKit Croft

def runE (gs : List Gt) (os : List Int) (ins : List Int) : Int := if circE gs os = 0 then if ins.length = (whoseL gs).length then 0 else 5 else circE gs os
def runL (gs : List Gt) (os : List Int) (ins : List Int) : List Int := if runE gs os ins = 0 then ofFs (couts gs os (toFs ins)) else []
theorem drop_head (ins : List Int) (c : Nat) : co (toFs (ins.drop c)) 0 = co (toFs ins) c := by
  unfold co toFs
  simp [List.getD]
theorem drop_next (gs : List Gt) (ins : List Int) {k : Nat} {g : Gt} (h : gs[k]? = some g) : (if g.kind = 1 then (ins.drop (cin gs k)).drop 1 else ins.drop (cin gs k)) = ins.drop (cin gs (k + 1)) := by
  rw [cin_succ h]
  split
  · rw [List.drop_drop]
  · rfl
def outsTo (gs : List Gt) (os : List Int) (I : List F) (k : Nat) : List F := (os.take k).map fun o => co (cw gs I gs.length) o.toNat
theorem outsTo_next (gs : List Gt) (os : List Int) (I : List F) {k : Nat} {o : Int} (h : os[k]? = some o) : ofFs (outsTo gs os I (k + 1)) = ofFs (outsTo gs os I k) ++ [ofF (co (cw gs I gs.length) o.toNat)] := by
  unfold outsTo
  rw [List.take_add_one, h]
  simp [ofFs]
theorem outsTo_full (gs : List Gt) (os : List Int) (I : List F) : outsTo gs os I os.length = couts gs os I := by unfold outsTo couts; rw [List.take_length]
theorem cRun_bad (v vi : Value) (gs : List Gt) (os : List Int) (w : World) (h : IsCirc w v gs os) (h0 : circE gs os ≠ 0) :
    Calls Try.prog 19 #[v, vi] w fun e w' => ListRes w e w' [] (circE gs os) := by
  have KC := Lib.hid h
  obtain ⟨vg, vo, rfl, hg, ho⟩ := h
  obtain ⟨A1, c1, rfl, hc1, hm1, hl1, hu1, hr1⟩ := hg
  obtain ⟨A2, c2, rfl, hc2, hm2, hl2, hu2, hr2⟩ := ho
  have BB := Lib.hid ((Below.refl w.heap.size w).alloc (Nat.le_refl _) (.cells #[.slice A1 gs.length c1, .slice A2 os.length c2] 25))
  have hb : (circE gs os != 0) = true := by rw [bne_iff_ne]; exact h0
  clear hu1 hr1 hm1 hu2 hr2 hm2 h0
  go_enter Try.func19, Try.ntmps19
  go_wp2_with fail
  refine (cInputs_any _ gs os _ (KC.out.below BB.out)).mono ?_
  rintro e W1 ⟨v, rfl, ho1, hb1⟩
  have B1 := Lib.hid (below_trans BB.out hb1 BB.out.size)
  clear hb1 ho1
  try dsimp only
  go_wp2_with fail
  go_ret2
  exact ⟨_, rfl, OwnNums.nil _ _, B1.out⟩
theorem cRun_form (v vi : Value) (gs : List Gt) (os ins : List Int) (w : World) (h : IsCirc w v gs os) (hi : IsNums w vi ins) (h0 : circE gs os = 0) (hl : ins.length ≠ (whoseL gs).length) :
    Calls Try.prog 19 #[v, vi] w fun e w' => ListRes w e w' [] 5 := by
  have KC := Lib.hid h
  have HE := Lib.hid h0
  have HI := Lib.hid (show inputsL gs os = whoseL gs from if_pos h0)
  obtain ⟨vg, vo, rfl, hg, ho⟩ := h
  obtain ⟨A1, c1, rfl, hc1, hm1, hl1, hu1, hr1⟩ := hg
  obtain ⟨A2, c2, rfl, hc2, hm2, hl2, hu2, hr2⟩ := ho
  obtain ⟨A3, c3, rfl, hc3, hm3, hl3, hu3, hr3⟩ := hi
  have BB := Lib.hid ((Below.refl w.heap.size w).alloc (Nat.le_refl _) (.cells #[.slice A1 gs.length c1, .slice A2 os.length c2] 25))
  have hb : ((ins.length : Int) != ((whoseL gs).length : Int)) = true := by rw [bne_iff_ne]; omega
  clear hu1 hr1 hm1 hu2 hr2 hm2 hu3 hr3 hm3 h0 hl
  go_enter Try.func19, Try.ntmps19
  go_wp2_with fail
  refine (cInputs_any _ gs os _ (KC.out.below BB.out)).mono ?_
  rintro e W1 ⟨v, rfl, ho1, hb1⟩
  rw [HI.out] at ho1
  rw [HE.out]
  obtain ⟨Aw, cw', hv, _, _⟩ := own_form ho1.1
  subst hv
  have B1 := Lib.hid (below_trans BB.out hb1 BB.out.size)
  clear hb1 ho1
  try dsimp only
  go_wp2_with fail
  go_ret2
  exact ⟨_, rfl, OwnNums.nil _ _, B1.out⟩
set_option maxRecDepth 100000 in
set_option maxHeartbeats 1000000 in
theorem cRun_ok (v vi : Value) (gs : List Gt) (os ins : List Int) (w : World) (h : IsCirc w v gs os) (hi : IsNums w vi ins) (h0 : circE gs os = 0) (hl : ins.length = (whoseL gs).length) :
    Calls Try.prog 19 #[v, vi] w fun e w' => ListRes w e w' (ofFs (couts gs os (toFs ins))) 0 := by
  have KC := Lib.hid h
  have KI := Lib.hid hi
  have HE := Lib.hid h0
  have HI := Lib.hid (show inputsL gs os = whoseL gs from if_pos h0)
  have OK := Lib.hid (circE_zero.1 h0)
  have HLI := Lib.hid hl
  obtain ⟨vg, vo, rfl, hg, ho⟩ := h
  have KG := Lib.hid hg
  have KO := Lib.hid ho
  obtain ⟨A1, c1, rfl, hc1, hm1, hl1, hu1, hr1⟩ := hg
  obtain ⟨A2, c2, rfl, hc2, hm2, hl2, hu2, hr2⟩ := ho
  obtain ⟨A3, c3, rfl, hc3, hm3, hl3, hu3, hr3⟩ := hi
  have BB := Lib.hid ((Below.refl w.heap.size w).alloc (Nat.le_refl _) (.cells #[.slice A1 gs.length c1, .slice A2 os.length c2] 25))
  have BX := Lib.hid (Box.new w 25 [.slice A1 gs.length c1, .slice A2 os.length c2])
  have hb : ((ins.length : Int) != ((whoseL gs).length : Int)) = false := by rw [bne_eq_false_iff_eq]; omega
  have hg30 := OK.out.g2
  have ho30 := OK.out.o2
  suffices hgoal : ∀ Post : Ending → World → Prop, (∀ e w', ListRes w e w' (ofFs (couts gs os (toFs ins))) 0 → Post e w') → Calls Try.prog 19 #[.agg #[.slice A1 gs.length c1, .slice A2 os.length c2], .slice A3 ins.length c3] w Post from hgoal _ fun e w' h => h
  intro Post hp
  have HP := Lib.hid hp
  clear hp hu1 hr1 hm1 hu2 hr2 hm2 hu3 hr3 hm3 h0 hl
  go_enter Try.func19, Try.ntmps19
  go_wp2_with fail
  refine (cInputs_any _ gs os _ (KC.out.below BB.out)).mono ?_
  rintro e W1 ⟨v, rfl, ho1, hb1⟩
  rw [HI.out] at ho1
  rw [HE.out]
  obtain ⟨Aw, cw', hv, _, _⟩ := own_form ho1.1
  subst hv
  have B1 := Lib.hid (below_trans BB.out hb1 BB.out.size)
  have BX1 := Lib.hid (BX.out.below hb1)
  clear hb1 ho1
  try dsimp only
  have hc0 := BX1.out.cell (i := 0) rfl
  go_wp2_with fail
  go_loopw [1, 8, 34] (fun vi v i wr => ∃ k : Nat, k ≤ gs.length ∧ i = .int .i64 k ∧ OwnNums wr W1.heap.size v (ofFs (cw gs (toFs ins) k)) ∧ IsNums W1 vi (ins.drop (cin gs k)) ∧ Below W1.heap.size W1 wr) (fun _ _ i _ => gs.length - (intOf i).toNat)
  case atStart => exact ⟨0, Nat.zero_le _, rfl, OwnNums.nil _ _, KI.out.below B1.out, Below.refl _ _⟩
  case round =>
    obtain ⟨k, hk, rfl, hown, hin, hbel⟩ := hrel
    have KW := Lib.hid hown
    have KN := Lib.hid hin
    have BEL := Lib.hid hbel
    have hsz := hbel.size
    have hszw := B1.out.size
    clear hown hin hbel hc0
    by_cases hlt : k < gs.length
    · obtain ⟨A, c, hA, _, _, _, hu, hr⟩ := ((KG.out.below B1.out).below BEL.out)
      injection hA with hA1 hA2 hA3
      subst hA1 hA3
      obtain ⟨b1', o1, g, rfl, hb1, hgk, hgo, ha1, ha2, ha3, ha4⟩ := gate_at hr hu hlt
      have HGK := Lib.hid hgk
      have BG := Lib.hid ((Below.refl wr.heap.size wr).alloc (Nat.le_refl _) (.cells #[.int .i64 g.kind, .int .i64 g.a, .int .i64 g.b, .int .u64 g.n] 53))
      clear hr hu hgk hb1
      go_wp2_with fail
      refine (cValue_any g k _ _ (cw gs (toFs ins) k) (ins.drop (cin gs k)) _ (OK.out.right k g HGK.out) hgo (cw_length _ _ _) ((KW.out.is).below BG.out) ((KN.out.below BEL.out).below BG.out) (fun h1 h2 => by
        have := cin_lt HGK.out h1
        rw [← HLI.out] at this
        have h3 := congrArg List.length h2
        simp at h3
        omega)).mono ?_
      rintro e W4 ⟨v4, rfl, hn4, hb4⟩
      rw [drop_next gs ins HGK.out] at hn4
      rw [drop_head]
      have K4 := Lib.hid (hn4 _ KN.out)
      have KW4 := Lib.hid ((KW.out.below BG.out).below hb4)
      have B4 := Lib.hid (below_trans (below_trans BEL.out BG.out hsz) hb4 (by have := BG.out.size; omega))
      have hsz4 := B4.out.size
      clear hn4 hb4
      obtain ⟨x, hx⟩ : ∃ x, x = cone (cw gs (toFs ins) k) (co (toFs ins) (cin gs k)) g := ⟨_, rfl⟩
      rw [← hx]
      have HX := Lib.hid (show ofFs (cw gs (toFs ins) (k + 1)) = ofFs (cw gs (toFs ins) k) ++ [ofF x] by rw [cw_succ HGK.out, hx]; simp [ofFs])
      clear hx
      obtain ⟨Aq, cq, hvq, _, _, _, _, _⟩ := K4.out
      subst hvq
      try dsimp only
      go_wp2_with (at_builtin; go_loud (refine wpList_push rfl _ _ rfl W1.heap.size _ _ (ofF x) W4.heap.size 1 rfl (KW4.out.alloc _) rfl (new_cell _ _ _) (U64.of_ofF _) (by rw [ofFs_length, cw_length]; omega) (by rw [size_alloc]; omega) ?_))
      intro v' w5 hown' hbel'
      rw [← HX.out] at hown'
      have K5 := Lib.hid hown'
      have B5 := Lib.hid ((B4.out.alloc B4.out.size (.cells #[.int .u64 (ofF x)] 40)).trans hbel')
      clear hown' hbel'
      go_wp2_with fail
      have h4 := K4.out
      exact ⟨⟨k + 1, by omega, by go_num, K5.out, by rw [List.length_drop] at h4; exact h4, B5.out⟩, by simp [intOf] <;> omega⟩
    · obtain rfl : k = gs.length := by omega
      have BX2 := Lib.hid (BX1.out.below BEL.out)
      have hc1' := BX2.out.cell (i := 1) rfl
      have KO2 := Lib.hid ((KO.out.below B1.out).below BEL.out)
      have B2 := Lib.hid (below_trans B1.out BEL.out B1.out.size)
      have hszb := B2.out.size
      obtain ⟨Av, cv, hv, hcv1, hcv2⟩ := own_form KW.out.1
      rw [ofFs_length, cw_length] at hv hcv1
      subst hv
      clear KN BEL
      go_wp2_with fail
      obtain ⟨W2, hW2⟩ : ∃ W2, W2 = wr := ⟨_, rfl⟩
      subst hW2
      go_loopw [13, 54] (fun v i wr => ∃ k : Nat, k ≤ os.length ∧ i = .int .i64 k ∧ OwnNums wr W2.heap.size v (ofFs (outsTo gs os (toFs ins) k)) ∧ Below W2.heap.size W2 wr) (fun _ i _ => os.length - (intOf i).toNat)
      case atStart => exact ⟨0, Nat.zero_le _, rfl, OwnNums.nil _ _, Below.refl _ _⟩
      case round =>
        obtain ⟨k, hk, rfl, hown, hbel⟩ := hrel
        have KV := Lib.hid hown
        have BEL := Lib.hid hbel
        have hsz2 := hbel.size
        clear hown hbel hc1'
        by_cases hlt2 : k < os.length
        · obtain ⟨A, c, hA, _, _, _, hu, hr⟩ := (KO2.out.below BEL.out)
          injection hA with hA1 hA2 hA3
          subst hA1 hA3
          obtain ⟨b2, o2, z, rfl, hb2, hz, huz, hcz⟩ := ints_at hr hu hlt2
          have hzz := OK.out.outs z (List.mem_of_getElem? hz)
          obtain ⟨zn, rfl⟩ := Int.eq_ofNat_of_zero_le hzz.1
          have hzl : zn < gs.length := by omega
          obtain ⟨A, c, hA, _, _, _, hu2, hr2⟩ := (KW.out.is.below BEL.out)
          injection hA with hA1 hA2 hA3
          subst hA1 hA3
          clear hA2
          obtain ⟨b3, o3, y, rfl, hb3, hy, huy, hcy⟩ := nums_at hr2 hu2 (k := zn) (by rw [ofFs_length, cw_length]; exact hzl)
          have HY := Lib.hid (show ofFs (outsTo gs os (toFs ins) (k + 1)) = ofFs (outsTo gs os (toFs ins) k) ++ [y] by rw [outsTo_next gs os _ hz, co_ofFs hy]; rfl)
          have hol : (ofFs (outsTo gs os (toFs ins) k)).length ≤ 30 := by rw [ofFs_length]; unfold outsTo; rw [List.length_map, List.length_take]; omega
          have HOL := Lib.hid hol
          clear hr hu hr2 hu2 hz hy hb2 hb3 hzz hol
          go_wp2_with (at_builtin; go_loud (refine wpList_push rfl _ _ rfl W2.heap.size _ _ y wr.heap.size 1 rfl (KV.out.alloc _) rfl (new_cell _ _ _) huy (by have := HOL.out; omega) (by rw [size_alloc]; omega) ?_))
          intro v' w5 hown' hbel'
          rw [← HY.out] at hown'
          have K5 := Lib.hid hown'
          have B5 := Lib.hid ((BEL.out.alloc hsz2 (.cells #[.int .u64 y] 40)).trans hbel')
          clear hown' hbel'
          go_wp2_with fail
          exact ⟨⟨k + 1, by omega, by go_num, K5.out, B5.out⟩, by simp [intOf] <;> omega⟩
        · obtain rfl : k = os.length := by omega
          go_wp2_with fail
          have h := KV.out
          rw [outsTo_full] at h
          exact HP.out _ _ ⟨_, rfl, h.less hszb, below_trans B2.out BEL.out hszb⟩
theorem cRun_any (v vi : Value) (gs : List Gt) (os ins : List Int) (w : World) (h : IsCirc w v gs os) (hi : IsNums w vi ins) :
    Calls Try.prog 19 #[v, vi] w fun e w' => ListRes w e w' (runL gs os ins) (runE gs os ins) := by
  by_cases h0 : circE gs os = 0
  · by_cases hl : ins.length = (whoseL gs).length
    · have e : runE gs os ins = 0 := by unfold runE; rw [if_pos h0, if_pos hl]
      rw [e, show runL gs os ins = ofFs (couts gs os (toFs ins)) from if_pos e]
      exact cRun_ok v vi gs os ins w h hi h0 hl
    · have e : runE gs os ins = 5 := by unfold runE; rw [if_pos h0, if_neg hl]
      rw [e, show runL gs os ins = [] from if_neg (by omega)]
      exact cRun_form v vi gs os ins w h hi h0 hl
  · have e : runE gs os ins = circE gs os := by unfold runE; rw [if_neg h0]
    rw [e, show runL gs os ins = [] from if_neg (by rw [e]; exact h0)]
    exact cRun_bad v vi gs os w h h0
end Go.Proofs.Ytcdeoccpbdncmaa
