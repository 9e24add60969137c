/- The document's Crew and Draws; a run's errors. -/
import Derived.Test.YtknjcdlknnfhaaaRefC
import Derived.Test.YtknjcdlknnfhaaaEngU
namespace Go.Proofs.Ytknjcdlknnfhaaa
open Go.RowKit Croft

set_option maxRecDepth 100000 in
set_option maxHeartbeats 2000000 in
theorem rCrew_any (v : Value) (gs : List Gt) (os : List Int) (n t : Int) (w : World) (h : IsCirc w v gs os) :
    Calls Try.prog 6 #[v, .int .i64 n, .int .i64 t] w fun e w' => e = .returned (.int .i64 (crewE gs os n t)) ∧ Below w.heap.size w w' := by
  have KC := Lib.hid h
  obtain ⟨vg, vo, rfl, hg, ho⟩ := h
  obtain ⟨A1, c1, rfl, hc1, hm1, hl1, hu1, hr1⟩ := hg
  obtain ⟨A2, c2, rfl, hc2, hm2, hl2, hu2, hr2⟩ := ho
  have BB := Lib.hid ((Below.refl w.heap.size w).alloc (Nat.le_refl _) (.cells #[.slice A1 gs.length c1, .slice A2 os.length c2] 25))
  have BX := Lib.hid (Box.new w 25 [.slice A1 gs.length c1, .slice A2 os.length c2])
  clear hu1 hr1 hm1 hu2 hr2 hm2
  suffices hgoal : ∀ Post : Ending → World → Prop, (∀ w', Below w.heap.size w w' → Post (.returned (.int .i64 (crewE gs os n t))) w') → Calls Try.prog 6 #[.agg #[.slice A1 gs.length c1, .slice A2 os.length c2], .int .i64 n, .int .i64 t] w Post from hgoal _ fun w' h => ⟨rfl, h⟩
  intro Post hpo
  have HP := Lib.hid hpo
  clear hpo
  obtain ⟨E, hE⟩ : ∃ E, E = circE gs os := ⟨_, rfl⟩
  have HE := Lib.hid hE
  clear hE
  by_cases h0 : E = 0
  · have HCE := Lib.hid (show circE gs os = 0 by rw [← HE.out]; exact h0)
    have HWL := Lib.hid (show (whoseL gs).length ≤ 30 from Nat.le_trans (whoseL_le gs) (circE_zero.1 HCE.out).g2)
    subst h0
    obtain ⟨B0, hB0⟩ : ∃ B0, B0 = decide (crewP n t) := ⟨_, rfl⟩
    have HCR := Lib.hid (show crewE gs os n t = if (B0 && (whoseL gs).all fun z => decide (z ≤ n)) = true then 0 else 1 by
      have hall : ((whoseL gs).any (over n)) = !((whoseL gs).all fun z => decide (z ≤ n)) := by
        rw [List.not_all_eq_any_not]
        congr 1
        funext z
        unfold over
        rw [Bool.eq_iff_iff]
        simp
      unfold crewE
      rw [if_pos HCE.out, hall, hB0]
      by_cases hc : crewP n t
      · rw [if_pos hc, decide_eq_true hc]
        cases (whoseL gs).all fun z => decide (z ≤ n) <;> rfl
      · rw [if_neg hc, decide_eq_false hc]
        rfl)
    obtain ⟨b1, hb1⟩ : ∃ b1, b1 = decide (0 ≤ t ∧ t ≤ 4) := ⟨_, rfl⟩
    obtain ⟨b2, hb2⟩ : ∃ b2, b2 = decide (1 ≤ n ∧ n ≤ 9) := ⟨_, rfl⟩
    have CT := Lib.hid (show ∀ W, Calls Try.prog 38 #[.int .i64 t, .int .i64 0, .int .i64 4] W fun e w' => e = .returned (.bool b1) ∧ W = w' from fun W => by rw [hb1]; exact rIn_any t 0 4 W)
    have CN := Lib.hid (show ∀ W, Calls Try.prog 38 #[.int .i64 n, .int .i64 1, .int .i64 9] W fun e w' => e = .returned (.bool b2) ∧ W = w' from fun W => by rw [hb2]; exact rIn_any n 1 9 W)
    have hcases : (b1 = false ∧ B0 = false) ∨ (b1 = true ∧ b2 = false ∧ B0 = false) ∨ (b1 = true ∧ b2 = true ∧ 0 ≤ t ∧ t ≤ 4 ∧ decide (2 * t + 1 ≤ n) = false ∧ B0 = false) ∨ (b1 = true ∧ b2 = true ∧ 0 ≤ t ∧ t ≤ 4 ∧ decide (2 * t + 1 ≤ n) = true ∧ B0 = true) := by
      by_cases q1 : 0 ≤ t ∧ t ≤ 4
      · by_cases q2 : 1 ≤ n ∧ n ≤ 9
        · by_cases q3 : n ≥ 2 * t + 1
          · exact .inr (.inr (.inr ⟨by rw [hb1, decide_eq_true q1], by rw [hb2, decide_eq_true q2], q1.1, q1.2, decide_eq_true q3, by rw [hB0]; exact decide_eq_true (by unfold crewP; omega)⟩))
          · exact .inr (.inr (.inl ⟨by rw [hb1, decide_eq_true q1], by rw [hb2, decide_eq_true q2], q1.1, q1.2, decide_eq_false q3, by rw [hB0]; exact decide_eq_false (by unfold crewP; omega)⟩))
        · exact .inr (.inl ⟨by rw [hb1, decide_eq_true q1], by rw [hb2, decide_eq_false q2], by rw [hB0]; exact decide_eq_false (by unfold crewP; omega)⟩)
      · exact .inl ⟨by rw [hb1, decide_eq_false q1], by rw [hB0]; exact decide_eq_false (by unfold crewP; omega)⟩
    clear hb1 hb2 hB0
    rcases hcases with ⟨rfl, hB⟩ | ⟨rfl, rfl, hB⟩ | ⟨rfl, rfl, ht0, ht4, hnt, hB⟩ | ⟨rfl, rfl, ht0, ht4, hnt, hB⟩
    all_goals
      have HB0 := Lib.hid hB
      clear hB
      go_enter Try.func6, Try.ntmps6
      go_wp2_with fail
      refine (rCirc_any _ gs os _ (KC.out.below BB.out)).mono ?_
      rintro e W1 ⟨rfl, hb⟩
      rw [HCE.out]
      have B1 := Lib.hid (below_trans BB.out hb BB.out.size)
      have BX1 := Lib.hid (BX.out.below hb)
      have hc0 := BX1.out.cell (i := 0) rfl
      have hc1' := BX1.out.cell (i := 1) rfl
      clear hb
      try dsimp only
      go_wp2_with fail
      refine (CT.out _).mono ?_
      rintro e w' ⟨rfl, rfl⟩
      try dsimp only
      go_wp2_with fail
      first
        | (have hskip := b2; clear hskip)
        | (refine (CN.out _).mono ?_; rintro e w' ⟨rfl, rfl⟩; try dsimp only; go_wp2_with fail)
      refine (rWhose_any _ gs os _ (KC.out.below B1.out)).mono ?_
      rintro e W2 ⟨vw, rfl, ho, hb⟩
      have B2 := Lib.hid (below_trans B1.out hb B1.out.size)
      have KW := Lib.hid ho.is
      obtain ⟨Aw, cw', hv, _, _⟩ := own_form ho.1
      subst hv
      clear ho hb hc0 hc1'
      try dsimp only
      go_wp2_with fail
      go_loopw [8, 10] (fun x i wr => ∃ k : Nat, k ≤ (whoseL gs).length ∧ i = .int .i64 k ∧ x = .bool (B0 && ((whoseL gs).take k).all fun z => decide (z ≤ n)) ∧ wr = W2) (fun _ i _ => (whoseL gs).length - (intOf i).toNat)
      case atStart => exact ⟨0, Nat.zero_le _, rfl, by rw [HB0.out]; rfl, rfl⟩
      case round =>
        obtain ⟨k, hk, rfl, rfl, rfl⟩ := hrel
        obtain ⟨bk, hbk⟩ : ∃ bk, bk = (B0 && ((whoseL gs).take k).all fun z => decide (z ≤ n)) := ⟨_, rfl⟩
        rw [← hbk]
        have HBK := Lib.hid hbk
        clear hbk
        have hwl30 := HWL.out
        by_cases hlt : k < (whoseL gs).length
        · obtain ⟨A, c, hA, _, _, _, hu, hr⟩ := KW.out
          injection hA with hA1 hA2 hA3
          subst hA1 hA3
          clear hA2
          obtain ⟨b1', o1, z, rfl, hb1, hgk, hat, hca⟩ := ints_at hr hu hlt
          have HN := Lib.hid (show (B0 && ((whoseL gs).take (k + 1)).all fun z => decide (z ≤ n)) = (bk && decide (z ≤ n)) by
            rw [List.take_add_one, hgk, Option.toList_some, List.all_append, ← Bool.and_assoc, ← HBK.out]
            simp)
          clear hr hu hgk hb1
          cases bk with
          | false =>
            go_wp2_with fail
            exact ⟨⟨k + 1, by omega, by go_num, by rw [HN.out]; rfl, by first | rfl | trivial⟩, by simp [intOf] <;> omega⟩
          | true =>
            go_wp2_with fail
            exact ⟨⟨k + 1, by omega, by go_num, by rw [HN.out]; simp, by first | rfl | trivial⟩, by simp [intOf] <;> omega⟩
        · obtain rfl : k = (whoseL gs).length := by omega
          have HTK := Lib.hid (show (whoseL gs).take (whoseL gs).length = whoseL gs from List.take_length)
          have HR := Lib.hid (show crewE gs os n t = if bk = true then 0 else 1 by rw [HCR.out, HBK.out, HTK.out])
          cases bk with
          | false =>
            go_wp2_with fail
            have hp := HP.out
            rw [HR.out] at hp
            exact hp _ B2.out
          | true =>
            go_wp2_with fail
            have hp := HP.out
            rw [HR.out] at hp
            exact hp _ B2.out
  · have hb : (E != 0) = true := by rw [bne_iff_ne]; exact h0
    have HR := Lib.hid (show crewE gs os n t = E by unfold crewE; rw [if_neg (by rw [← HE.out]; exact h0)]; exact HE.out.symm)
    clear h0
    rw [HR.out] at HP
    go_enter Try.func6, Try.ntmps6
    go_wp2_with fail
    refine (rCirc_any _ gs os _ (KC.out.below BB.out)).mono ?_
    rintro e W1 ⟨rfl, hb1⟩
    rw [← HE.out]
    have B1 := Lib.hid (below_trans BB.out hb1 BB.out.size)
    clear hb1
    try dsimp only
    go_wp2_with fail
    exact HP.out _ B1.out
set_option maxRecDepth 100000 in
set_option maxHeartbeats 1000000 in
theorem rDraws_any (v : Value) (gs : List Gt) (os : List Int) (n t : Nat) (w : World) (h : IsCirc w v gs os) (hg30 : gs.length ≤ 30) (hn9 : n ≤ 9) (ht4 : t ≤ 4) :
    Calls Try.prog 8 #[v, .int .i64 n, .int .i64 t] w fun e w' => e = .returned (.int .i64 (dat n t gs gs.length)) ∧ Below w.heap.size w w' := by
  obtain ⟨vg, vo, rfl, hg, ho⟩ := h
  have KG := Lib.hid hg
  obtain ⟨A1, c1, rfl, hc1, hm1, hl1, hu1, hr1⟩ := hg
  obtain ⟨A2, c2, rfl, hc2, hm2, hl2, hu2, hr2⟩ := ho
  have BB := Lib.hid ((Below.refl w.heap.size w).alloc (Nat.le_refl _) (.cells #[.slice A1 gs.length c1, .slice A2 os.length c2] 25))
  have BX := Lib.hid (Box.new w 25 [.slice A1 gs.length c1, .slice A2 os.length c2])
  clear hu1 hr1 hm1 hu2 hr2 hm2
  have hmT : (n : Int) * (t : Int) = ((n * t : Nat) : Int) := by simp
  have hmT2 : n * t ≤ 36 := Nat.mul_le_mul hn9 ht4
  have hmT0 : 0 ≤ (n : Int) * (t : Int) ∧ (n : Int) * (t : Int) ≤ 36 := by rw [hmT]; omega
  have HMT := Lib.hid hmT
  clear hmT hmT2
  go_enter Try.func8, Try.ntmps8
  go_wp2_with fail
  go_loopw [7, 8] (fun x i wr => ∃ k : Nat, k ≤ gs.length ∧ i = .int .i64 k ∧ x = .int .i64 (dat n t gs k) ∧ Below w.heap.size w wr ∧ Box wr w.heap.size 25 [.slice A1 gs.length c1, .slice A2 os.length c2]) (fun _ i _ => gs.length - (intOf i).toNat)
  case atStart => exact ⟨0, Nat.zero_le _, rfl, rfl, BB.out, BX.out⟩
  case round =>
    obtain ⟨k, hk, rfl, rfl, hbel, hbox⟩ := hrel
    have BEL := Lib.hid hbel
    have KB := Lib.hid hbox
    have hc0 := hbox.cell (i := 0) rfl
    have hsz := hbel.size
    have hdl : dat n t gs k ≤ 36 * k := dat_small hn9 ht4 k
    clear hbel hbox
    by_cases hlt : k < gs.length
    · obtain ⟨A, c, hA, _, _, _, hu, hr⟩ := KG.out.below BEL.out
      injection hA with hA1 hA2 hA3
      subst hA1 hA3
      clear hA2
      obtain ⟨b1', o1, g, rfl, hb1, hgk, hgo, ha1, ha2, ha3, ha4⟩ := gate_at hr hu hlt
      obtain ⟨hs1, hs5, hs0⟩ := dat_step (n := n) (t := t) hgk
      clear hr hu hgk hgo hb1 ha2 ha3 ha4
      by_cases hk1 : g.kind = 1
      · have e := Lib.hid (hs1 hk1)
        rw [hk1] at ha1
        clear hs1 hs5 hs0 hk1
        go_wp2_with fail
        exact ⟨⟨k + 1, by omega, by go_num, by rw [e.out]; rfl, BEL.out, KB.out⟩, by simp [intOf] <;> omega⟩
      · by_cases hk5 : g.kind = 5
        · have e := Lib.hid (hs5 hk5)
          rw [hk5] at ha1
          clear hs1 hs5 hs0 hk5 hk1
          go_wp2_with fail
          exact ⟨⟨k + 1, by omega, by go_num, by rw [e.out, HMT.out]; rfl, BEL.out, KB.out⟩, by simp [intOf] <;> omega⟩
        · have e := Lib.hid (hs0 hk1 hk5)
          have hb1' : (g.kind == 1) = false := by rw [beq_eq_false_iff_ne]; exact hk1
          have hb5' : (g.kind == 5) = false := by rw [beq_eq_false_iff_ne]; exact hk5
          clear hs1 hs5 hs0 hk1 hk5
          go_wp2_with fail
          exact ⟨⟨k + 1, by omega, by go_num, by rw [e.out], BEL.out, KB.out⟩, by simp [intOf] <;> omega⟩
    · obtain rfl : k = gs.length := by omega
      go_wp2_with fail
      go_ret
      exact ⟨rfl, BEL.out⟩
end Go.Proofs.Ytknjcdlknnfhaaa
