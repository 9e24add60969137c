/- What the document's circuit tells: the walk of Outs. -/
import Derived.Test.YtknjcdlknnfhaaaDoorRefT
namespace Go.Proofs.YtknjcdlknnfhaaaDoor
open Go.RowKit Go.Maps Croft

theorem OwnGates.frozen {w : World} {base g n c : Nat} {gs : List Gt} (h : OwnGates w base (.slice (some ⟨g, 0, none⟩) n c) gs) (i : Nat) : w.frozen? ⟨g, i, none⟩ = false := by
  have hn : n = gs.length := by
    rcases h.1.2 with ⟨hv, _⟩ | ⟨g', cap, cur, hv, _⟩
    · simp at hv
    · injection hv
  subst hn
  exact h.1.frozenAt i
set_option maxRecDepth 100000 in
set_option maxHeartbeats 2000000 in
theorem rOuts_ok (v vi : Value) (gs : List Gt) (os ins : List Int) (w : World) (h : IsCirc w v gs os) (hi : IsNums w vi ins) (h0 : circE gs os = 0) (hl : ins.length = (whoseL gs).length) :
    Calls Tryd.prog 10 #[v, vi] w fun e w' => ∃ v, e = .returned v ∧ OwnNums w' w.heap.size v (ofFs (couts gs os (toFs ins))) ∧ Below w.heap.size w w' := by
  have OK := Lib.hid (circE_zero.1 h0)
  have hg30 := OK.out.g2
  have ho30 := OK.out.o2
  have HL := Lib.hid hl
  have KI := Lib.hid hi
  obtain ⟨vg, vo, rfl, hg, ho⟩ := h
  have KG := Lib.hid hg
  have KO := Lib.hid ho
  obtain ⟨A1, c1, rfl, hc1, hm1, hl1, hu1, hr1⟩ := hg
  obtain ⟨A2, c2, rfl, hc2, hm2, hl2, hu2, hr2⟩ := ho
  obtain ⟨A3, c3, rfl, hc3, hm3, hl3, hu3, hr3⟩ := hi
  have BB := Lib.hid (((Below.refl w.heap.size w).alloc (Nat.le_refl _) (.cells #[.slice A1 gs.length c1, .slice A2 os.length c2] 25)).alloc (by rw [size_alloc]; omega) (.map #[] 0))
  have BX0 := Lib.hid ((Box.new w 25 [.slice A1 gs.length c1, .slice A2 os.length c2]).alloc (.map #[] 0))
  have VM0 := Lib.hid (show ValsIs ((w.alloc (.cells #[.slice A1 gs.length c1, .slice A2 os.length c2] 25)).alloc (.map #[] 0)) (w.heap.size + 1) [] by
    have h := ValsIs.made (w.alloc (.cells #[.slice A1 gs.length c1, .slice A2 os.length c2] 25))
    rw [size_alloc] at h
    exact h)
  obtain ⟨I, hI⟩ : ∃ I, I = toFs ins := ⟨_, rfl⟩
  rw [← hI]
  have HI := Lib.hid hI
  have HIL := Lib.hid (show I.length = (whoseL gs).length by rw [hI, toFs_length]; exact hl)
  suffices hgoal : ∀ Post : Ending → World → Prop, (∀ v w', OwnNums w' w.heap.size v (ofFs (couts gs os I)) → Below w.heap.size w w' → Post (.returned v) w') → Calls Tryd.prog 10 #[.agg #[.slice A1 gs.length c1, .slice A2 os.length c2], .slice A3 ins.length c3] w Post from hgoal _ fun v w' h1 h2 => ⟨v, rfl, h1, h2⟩
  intro Post hpo
  have HP := Lib.hid hpo
  clear hpo hu1 hr1 hm1 hu2 hr2 hm2 hu3 hr3 hm3 h0 hl hI
  have hmk := @run_makeMap Tryd.prog
  go_enter Tryd.func10, Tryd.ntmps10
  go_wp2_with fail
  go_loopw [7] (fun i wr => ∃ k : Nat, k ≤ gs.length ∧ i = .int .i64 k ∧ ValsIs wr (w.heap.size + 1) (cw gs I k) ∧ Box wr w.heap.size 25 [.slice A1 gs.length c1, .slice A2 os.length c2] ∧ Below w.heap.size w wr) (fun i _ => gs.length - (intOf i).toNat)
  case atStart => exact ⟨0, Nat.zero_le _, rfl, VM0.out, BX0.out, BB.out⟩
  case round =>
    clear hmk VM0 BX0
    obtain ⟨k, hk, rfl, hvals, hbox, hbel⟩ := hrel
    have VM := Lib.hid hvals
    have BX := Lib.hid hbox
    have BEL := Lib.hid hbel
    have hsz := hbel.size
    have hvl := hvals.lt
    have hc0 := hbox.cell (i := 0) rfl
    clear hvals hbox hbel
    by_cases hlt : k < gs.length
    · have KGF := Lib.hid ((KG.out.below BEL.out).first (k + 1) (by omega))
      obtain ⟨A, c, hA, _, _, _, hu, hr⟩ := (KG.out.below BEL.out)
      injection hA with hA1 hA2 hA3
      subst hA1 hA3
      obtain ⟨b1', o1, g, rfl, hb1, hgk, hgo, ha1, ha2, ha3, ha4⟩ := gate_at hr hu hlt
      have HGK := Lib.hid hgk
      have hsl := gslice_run (some ⟨b1', o1, none⟩) gs.length c1 (k + 1) (by omega)
      obtain ⟨L, hL⟩ : ∃ L, L = gs.take (k + 1) := ⟨_, rfl⟩
      have HLL := Lib.hid (show L.length = k + 1 by rw [hL, List.length_take]; omega)
      have HLS := Lib.hid (show L = gsubG gs (cw gs I k) k 0 by rw [hL, gsubG_start _ hlt])
      rw [← hL] at KGF
      clear hL
      clear hr hu hgk hb1 hA2 hgo ha1 ha2 ha3 ha4
      have hsl' : ∀ W, (Instr.sliceAt 22 (.slice (some ⟨b1', o1, none⟩) gs.length c1) none (some (.int .i64 ((k : Int) + 1))) none).run Tryd.prog W = .ok (.slice (some ⟨b1', o1, none⟩) (k + 1) c1) W := hsl
      clear hsl
      go_wp2_with (at_builtin; go_loud (refine wpList_copy_gates rfl _ _ rfl L (k + 1) b1' o1 c1 HLL.out rfl rfl KGF.out (by rw [HLL.out]; omega) (by rw [HLL.out]; omega) ?_))
      intro gb cap W1 ho1 hgb hb1
      rw [HLS.out] at ho1
      have hs1 := hb1.size
      have KD := Lib.hid ((show OwnGates W1 wr.heap.size _ _ from ho1))
      have hb2 : Below w.heap.size w (W1.alloc (.cells #[.slice (some ⟨gb, 0, none⟩) (k + 1) cap, .slice none 0 0] 25)) := (below_trans BEL.out hb1 hsz).alloc (by omega) _
      have hbw : Below wr.heap.size wr (W1.alloc (.cells #[.slice (some ⟨gb, 0, none⟩) (k + 1) cap, .slice none 0 0] 25)) := hb1.alloc hs1 _
      have hgs : gb < W1.heap.size := (ho1.1.lt gb rfl).2
      have BW := Lib.hid hbw
      have B2 := Lib.hid hb2
      have KD2 := Lib.hid (ho1.below ((Below.refl W1.heap.size W1).alloc (Nat.le_refl _) (.cells #[.slice (some ⟨gb, 0, none⟩) (k + 1) cap, .slice none 0 0] 25)))
      have BXD := Lib.hid (Box.new W1 25 [.slice (some ⟨gb, 0, none⟩) (k + 1) cap, .slice none 0 0])
      clear ho1 hb1 hb2 hbw hc0
      go_wp2_with fail
      obtain ⟨db, hdb⟩ : ∃ db, db = W1.heap.size := ⟨_, rfl⟩
      obtain ⟨W2, hW2⟩ : ∃ W2, W2 = W1.alloc (.cells #[.slice (some ⟨gb, 0, none⟩) (k + 1) cap, .slice none 0 0] 25) := ⟨_, rfl⟩
      rw [← hW2] at BW B2 KD2 BXD ⊢
      rw [← hdb] at BXD hgs ⊢
      have VM2 := Lib.hid (VM.out.below BW.out)
      have BX2 := Lib.hid (BX.out.below BW.out)
      have hs2 := BW.out.size
      have hdw : wr.heap.size ≤ db := by omega
      clear hW2 hdb hs1
      obtain ⟨wo, hwo⟩ : ∃ wo, wo = wr := ⟨_, rfl⟩
      subst hwo
      go_loopw [9] (fun i wr => ∃ j : Nat, j ≤ k ∧ i = .int .i64 j ∧ OwnGates wr wo.heap.size (.slice (some ⟨gb, 0, none⟩) (k + 1) cap) (gsubG gs (cw gs I k) k j) ∧ ValsIs wr (w.heap.size + 1) (cw gs I k) ∧ Box wr w.heap.size 25 [.slice (some ⟨b1', o1, none⟩) gs.length c1, .slice A2 os.length c2] ∧ Box wr db 25 [.slice (some ⟨gb, 0, none⟩) (k + 1) cap, .slice none 0 0] ∧ Below wo.heap.size wo wr) (fun i _ => k - (intOf i).toNat)
      case atStart => exact ⟨0, Nat.zero_le _, rfl, KD2.out, VM2.out, BX2.out, BXD.out, BW.out⟩
      case round =>
        obtain ⟨j, hj, rfl, hgs2, hvals, hbx, hbd, hbel⟩ := hrel
        clear KD2 VM2 BX2 BXD BW B2 KD
        have KD2 := Lib.hid hgs2
        have VM2 := Lib.hid hvals
        have BX2 := Lib.hid hbx
        have BXD := Lib.hid hbd
        have BW := Lib.hid hbel
        have hszw := hbel.size
        have hd0 := hbd.cell (i := 0) rfl
        clear hgs2 hvals hbx hbd hbel
        by_cases hltj : j < k
        · have hgj : gs[j]? = some gs[j] := List.getElem?_eq_getElem (by omega)
          obtain ⟨g', hg'⟩ : ∃ g', g' = gs[j] := ⟨_, rfl⟩
          rw [← hg'] at hgj
          have hsg : (gsubG gs (cw gs I k) k j)[j]? = some g' := by rw [gsubG_get _ _ _ _ _ (by omega), gsubAt_late hgj (Nat.le_refl _)]
          obtain ⟨A, c, hA, _, _, _, hu, hr⟩ := KD2.out.is
          rw [gsubG_length] at hA
          injection hA with hA1 hA2 hA3
          subst hA1 hA3
          obtain ⟨b3, o3, g3, he3, hb3, hgk3, hgo3, hd1, hd2, hd3, hd4⟩ := gate_at hr hu (k := j) (by rw [gsubG_length]; omega)
          injection he3 with he3
          injection he3 with he4 he5
          subst he4 he5
          rw [hsg] at hgk3
          obtain rfl := Option.some.inj hgk3
          simp only [Nat.zero_add] at hd1 hd2 hd3 hd4
          have HST := Lib.hid (gsubG_step (cw gs I k) hgj hltj hlt)
          have hlk := VM2.out.look (j := j) (by rw [cw_length]; exact hltj) (by omega)
          clear hr hu hgk3 hgo3 hsg hg' hA2 hgj
          by_cases hk1 : g'.kind = 1
          · have HK := Lib.hid hk1
            rw [hk1] at hd1
            clear hk1
            go_wp2_with fail
            exact ⟨⟨j + 1, by omega, by go_num, by rw [HST.out, if_pos HK.out]; exact KD2.out, VM2.out, BX2.out, BXD.out, BW.out⟩, by simp [intOf] <;> omega⟩
          · have hkb : (g'.kind != 1) = true := by rw [bne_iff_ne]; exact hk1
            have HK := Lib.hid hk1
            have hf0 := KD2.out.frozen (j * 4)
            have hf1 := KD2.out.frozen (j * 4 + 1)
            have hf2 := KD2.out.frozen (j * 4 + 2)
            have hf3 := KD2.out.frozen (j * 4 + 3)
            obtain ⟨xv, hxv⟩ : ∃ xv, xv = ofF (co (cw gs I k) j) := ⟨_, rfl⟩
            have hux : U64 xv := by rw [hxv]; exact U64.of_ofF _
            have hgr : wr.grownBy (wr.setCells gb (j * 4) (genc ⟨2, 0, 0, xv⟩)) (some gb) := setCells_grown gb _ _ _
            have KD5 := Lib.hid (show OwnGates (wr.setCells gb (j * 4) (genc ⟨2, 0, 0, xv⟩)) wo.heap.size (.slice (some ⟨gb, 0, none⟩) (k + 1) cap) (gsubG gs (cw gs I k) k (j + 1)) by
              rw [HST.out, if_neg HK.out, ← hxv]
              exact KD2.out.set (by rw [gsubG_length]; omega) _ ⟨show I64 2 by unfold I64; omega, show I64 0 by unfold I64; omega, show I64 0 by unfold I64; omega, hux⟩)
            have VM5 := Lib.hid (VM2.out.grown hgr (by intro e; injection e with e; omega))
            have BX5 := Lib.hid (BX2.out.grown hgr (by intro e; injection e with e; omega))
            have BXD5 := Lib.hid (BXD.out.grown hgr (by intro e; injection e with e; omega))
            have BW5 := Lib.hid (BW.out.grown hgr hszw (fun q hq => by injection hq with hq; omega))
            rw [← hxv] at hlk
            clear hk1 hgr hxv hux
            go_wp2_with fail
            exact ⟨⟨j + 1, by omega, by go_num, KD5.out, VM5.out, BX5.out, BXD5.out, BW5.out⟩, by simp [intOf] <;> omega⟩
        · obtain rfl : j = k := by omega
          have hB9 : Below w.heap.size w wr := below_trans BEL.out BW.out hsz
          have B9 := Lib.hid hB9
          have hd1 := BXD.out.cell (i := 1) rfl
          have KC9 := Lib.hid (show IsCirc wr (.agg #[.slice (some ⟨gb, 0, none⟩) (j + 1) cap, .slice none 0 0]) (gsubG gs (cw gs I j) j j) [] from ⟨_, _, rfl, KD2.out.is, (OwnInts.nil wr 0).is⟩)
          have HDJ := Lib.hid (show (gsubG gs (cw gs I j) j j)[j]? = some g by rw [gsubG_get _ _ _ _ _ (by omega), gsubAt_late HGK.out (Nat.le_refl _)])
          have hcj := sub_cin (cw gs I j) hlt j (Nat.le_refl _)
          have HLF := Lib.hid (sub_leaf hlt HIL.out)
          obtain ⟨x, hx⟩ : ∃ x, x = cone (cw gs I j) (co I (cin gs j)) g := ⟨_, rfl⟩
          have CV := Lib.hid (show Calls Tryd.prog 30 #[.agg #[.slice (some ⟨gb, 0, none⟩) (j + 1) cap, .slice none 0 0], .slice A3 ins.length c3, .int .i64 j] wr fun e w' => e = .returned (.int .u64 (ofF x)) ∧ Below wr.heap.size wr w' by
            have h := rVal_at _ _ _ _ ins j g (cw gs I j) wr KC9.out (KI.out.below hB9) HDJ.out (OK.out.right j g HGK.out) (by rw [← HI.out]; exact HLF.out) (fun hk => by rw [hcj, HL.out]; exact cin_lt HGK.out hk)
            rw [hcj, ← HI.out, ← hx] at h
            exact h)
          have HCW := Lib.hid (show cw gs I (j + 1) = cw gs I j ++ [x] by rw [cw_succ HGK.out, hx])
          clear hcj hx hB9 KC9
          go_wp2_with fail
          refine CV.out.mono ?_
          rintro e W6 ⟨rfl, hb6⟩
          have VM6 := VM2.out.below hb6
          have BX6 := Lib.hid (BX2.out.below hb6)
          have B6 := Lib.hid (below_trans B9.out hb6 B9.out.size)
          have hs6 := B6.out.size
          obtain ⟨D, hD⟩ := VM6
          have HD := Lib.hid hD
          have hown := hD.1
          rw [cw_length] at hown
          have HOWN := Lib.hid hown
          clear hb6 hD hown hd0 hd1 CV
          try dsimp only
          go_wp2_with (at_mapUpdate; refine wpList_mapUpdate_own _ rfl _ _ _ 63 rfl 3 40 vlaw Tryd.underlying63 _ (w.heap.size + 1) j D rfl HOWN.out (by unfold maxLen; omega) _ _ (.int .i64 (j : Int)) rfl rfl (vkey (by unfold I64; omega)) (.lit (.int .u64 (ofF x))) [] (plainElem_int Tryd.underlying40 (vwf x)) ?_)
          intro w1 hown1 hgrow1
          have VM1 := Lib.hid (show ValsIs w1 (w.heap.size + 1) (cw gs I (j + 1)) by
            rw [HCW.out]
            exact ValsIs.put HD.out (by rw [cw_length]; exact hown1))
          have BX1 := Lib.hid (BX6.out.grown hgrow1 (by intro e; injection e with e; omega))
          have B1 := Lib.hid (B6.out.grown hgrow1 hs6 (fun q hq => by injection hq with hq; omega))
          clear hown1 hgrow1
          go_wp2_with fail
          exact ⟨⟨j + 1, by omega, by go_num, VM1.out, BX1.out, B1.out⟩, by simp [intOf] <;> omega⟩
    · obtain rfl : k = gs.length := by omega
      obtain ⟨wo, hwo⟩ : ∃ wo, wo = wr := ⟨_, rfl⟩
      subst hwo
      have hc1' := BX.out.cell (i := 1) rfl
      go_wp2_with fail
      clear hc0 hc1'
      go_loopw [5, 10] (fun v i wr => ∃ q : Nat, q ≤ os.length ∧ i = .int .i64 q ∧ OwnNums wr wo.heap.size v (ofFs (outsTo gs os I q)) ∧ Below wo.heap.size wo wr) (fun _ i _ => os.length - (intOf i).toNat)
      case atStart => exact ⟨0, Nat.zero_le _, rfl, OwnNums.nil _ _, Below.refl _ _⟩
      case round =>
        obtain ⟨q, hq, rfl, hown, hbel⟩ := hrel
        have KW := Lib.hid hown
        have BW := Lib.hid hbel
        have hszw := hbel.size
        have BX2 := Lib.hid (BX.out.below hbel)
        have hc1' := BX2.out.cell (i := 1) rfl
        have B9 := Lib.hid (below_trans BEL.out hbel hsz)
        have VM2 := Lib.hid (VM.out.below hbel)
        clear hown hbel
        by_cases hltq : q < os.length
        · obtain ⟨A, c, hA, _, _, _, hu, hr⟩ := KO.out.below B9.out
          injection hA with hA1 hA2 hA3
          subst hA1 hA3
          clear hA2
          obtain ⟨b2, o2, z, rfl, hb2, hgz, hat, hcz⟩ := ints_at hr hu hltq
          obtain ⟨hz0, hz1⟩ := OK.out.outs z (List.mem_of_getElem? hgz)
          obtain ⟨n, rfl⟩ : ∃ n : Nat, z = n := ⟨z.toNat, by omega⟩
          have HN := Lib.hid (outsTo_next gs os I hgz)
          rw [Int.toNat_natCast] at HN
          have hlk := VM2.out.look (j := n) (by rw [cw_length]; omega) (by omega)
          have HOL := Lib.hid (show (ofFs (outsTo gs os I q)).length ≤ 30 by rw [ofFs_length]; unfold outsTo; rw [List.length_map, List.length_take]; omega)
          clear hr hu hb2 hgz
          go_wp2_with (at_builtin; go_loud (refine wpList_push rfl _ _ rfl wo.heap.size _ _ (ofF (co (cw gs I gs.length) n)) wr.heap.size 1 rfl (KW.out.alloc _) rfl (new_cell _ _ _) (U64.of_ofF _) (by have := HOL.out; omega) (by rw [size_alloc]; omega) ?_))
          intro v' w5 hown' hbel'
          rw [← HN.out] at hown'
          have K5 := Lib.hid hown'
          have B5 := Lib.hid ((BW.out.alloc hszw (.cells #[.int .u64 (ofF (co (cw gs I gs.length) n))] 40)).trans hbel')
          clear hown' hbel' hlk hc1'
          go_wp2_with fail
          exact ⟨⟨q + 1, by omega, by go_num, K5.out, B5.out⟩, by simp [intOf] <;> omega⟩
        · obtain rfl : q = os.length := by omega
          have HF := Lib.hid (outsTo_full gs os I)
          rw [HF.out] at KW
          go_wp2_with fail
          exact HP.out _ _ (KW.out.less BEL.out.size) B9.out
end Go.Proofs.YtknjcdlknnfhaaaDoor
