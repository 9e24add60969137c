/- The document's Value of a wire: ahead of it lie inputs and numbers alone. -/
import Derived.Test.YtknjcdlknnfhaaaDoorRefC
import Derived.Test.YtknjcdlknnfhaaaDoorCircX
import Derived.Deep.RegionHeld3
import Derived.Deep.CutRange
namespace Go.Proofs.YtknjcdlknnfhaaaDoor
open Go.RowKit Croft

/-- the value of a wire that is an input or a number -/
def lvF (gs : List Gt) (I : List F) (j : Nat) : F := match gs[j]? with
  | some g => if g.kind = 1 then co I (cin gs j) else toF g.n
  | none => 0
def leafB (gs : List Gt) (I : List F) (j : Nat) : Prop := ∃ g, gs[j]? = some g ∧ (g.kind = 1 ∧ cin gs j < I.length ∨ g.kind = 2)
set_option maxRecDepth 100000 in
set_option maxHeartbeats 1000000 in
theorem rVal_leaf (v vi : Value) (gs : List Gt) (os ins : List Int) (j : Nat) (w : World) (h : IsCirc w v gs os) (hi : IsNums w vi ins) (hl : leafB gs (toFs ins) j) :
    Calls Tryd.prog 30 #[v, vi, .int .i64 j] w fun e w' => e = .returned (.int .u64 (ofF (lvF gs (toFs ins) j))) ∧ Below w.heap.size w w' := by
  obtain ⟨g, hgj, hk⟩ := hl
  have hjl := (List.getElem?_eq_some_iff.1 hgj).1
  have HLV := Lib.hid (show lvF gs (toFs ins) j = if g.kind = 1 then co (toFs ins) (cin gs j) else toF g.n by unfold lvF; rw [hgj])
  have KI := Lib.hid hi
  obtain ⟨vg, vo, rfl, hg, ho⟩ := h
  have KG := Lib.hid hg
  obtain ⟨A1, c1, rfl, hc1, hm1, hl1, hu1, hr1⟩ := hg
  obtain ⟨A2, c2, rfl, hc2, hm2, hl2, hu2, hr2⟩ := ho
  obtain ⟨A3, c3, rfl, hc3, hm3, hl3, hu3, hr3⟩ := hi
  have hb0 : Below w.heap.size w (w.alloc (.cells #[.slice A1 gs.length c1, .slice A2 os.length c2] 25)) := (Below.refl w.heap.size w).alloc (Nat.le_refl _) _
  have BX := Lib.hid (Box.new w 25 [.slice A1 gs.length c1, .slice A2 os.length c2])
  obtain ⟨A, c, hA, _, _, _, hu, hr⟩ := KG.out.below hb0
  injection hA with hA1 hA2 hA3
  subst hA1 hA3
  clear hA2
  obtain ⟨b1', o1, g', rfl, hb1, hgk, hgo, ha1, ha2, ha3, ha4⟩ := gate_at hr hu hjl
  rw [hgj] at hgk
  obtain rfl := Option.some.inj hgk
  have hb2 : Below w.heap.size w ((w.alloc (.cells #[.slice (some ⟨b1', o1, none⟩) gs.length c1, .slice A2 os.length c2] 25)).alloc (.cells #[.int .i64 g.kind, .int .i64 g.a, .int .i64 g.b, .int .u64 g.n] 58)) := hb0.alloc hb0.size _
  have B2 := Lib.hid hb2
  have hgn := hgo.2.2.2
  have HGN := Lib.hid hgn
  clear hu1 hr1 hm1 hu2 hr2 hm2 hu3 hr3 hm3 hu hr hgk hb0 hb2 hgo
  suffices hgoal : ∀ Post : Ending → World → Prop, (∀ w', Below w.heap.size w w' → Post (.returned (.int .u64 (ofF (lvF gs (toFs ins) j)))) w') → Calls Tryd.prog 30 #[.agg #[.slice (some ⟨b1', o1, none⟩) gs.length c1, .slice A2 os.length c2], .slice A3 ins.length c3, .int .i64 j] w Post from hgoal _ fun w' h => ⟨rfl, h⟩
  intro Post hpo
  have HP := Lib.hid hpo
  clear hpo
  rcases hk with ⟨hk, hcin⟩ | hk
  · rw [toFs_length] at hcin
    have HCI := Lib.hid hcin
    have HR := Lib.hid (show lvF gs (toFs ins) j = co (toFs ins) (cin gs j) by rw [HLV.out, if_pos hk])
    rw [hk] at ha1 B2
    clear hcin hk HLV hgj
    go_enter Tryd.func30, Tryd.ntmps30
    go_wp2_with fail
    obtain ⟨w2, hw2⟩ : ∃ w2, w2 = (w.alloc (.cells #[.slice (some ⟨b1', o1, none⟩) gs.length c1, .slice A2 os.length c2] 25)).alloc (.cells #[.int .i64 1, .int .i64 g.a, .int .i64 g.b, .int .u64 g.n] 58) := ⟨_, rfl⟩
    have BX2 := Lib.hid (show Box w2 w.heap.size 25 [.slice (some ⟨b1', o1, none⟩) gs.length c1, .slice A2 os.length c2] by rw [hw2]; exact BX.out.alloc _)
    rw [← hw2] at B2 ⊢
    clear ha1 ha2 ha3 ha4 hw2
    go_loopw [8, 9] (fun x i wr => ∃ k : Nat, k ≤ j ∧ i = .int .i64 k ∧ x = .int .i64 (cin gs k) ∧ wr = w2) (fun _ i _ => j - (intOf i).toNat)
    case atStart => exact ⟨0, Nat.zero_le _, rfl, rfl, rfl⟩
    case round =>
      obtain ⟨k, hk, rfl, rfl, rfl⟩ := hrel
      have hc0 := BX2.out.cell (i := 0) rfl
      obtain ⟨A, c, hA, _, _, _, hu, hr⟩ := KG.out.below B2.out
      injection hA with hA1 hA2 hA3
      subst hA1 hA3
      clear hA2
      by_cases hlt : k < j
      · obtain ⟨b2, o2, g', he2, hb2, hgk, hgo, hd1, hd2, hd3, hd4⟩ := gate_at hr hu (Nat.lt_trans hlt hjl)
        injection he2 with he2
        injection he2 with he3 he4
        subst he3 he4
        have HS := Lib.hid (cin_succ hgk)
        have hck := cin_le (gs := gs) (Nat.le_of_lt hlt)
        have hckl : cin gs k ≤ k := by
          unfold cin
          exact Nat.le_trans (whoseL_le _) (by rw [List.length_take]; omega)
        clear hr hu hgk hgo hb2 hd2 hd3 hd4
        by_cases hk1 : g'.kind = 1
        · have HK := Lib.hid hk1
          rw [hk1] at hd1
          clear hk1 hck
          go_wp2_with fail
          exact ⟨⟨k + 1, by omega, by go_num, by rw [HS.out, if_pos HK.out]; rfl, by first | rfl | trivial⟩, by simp [intOf] <;> omega⟩
        · have hkb : (g'.kind == 1) = false := by rw [beq_eq_false_iff_ne]; exact hk1
          have HK := Lib.hid hk1
          clear hk1 hck
          go_wp2_with fail
          exact ⟨⟨k + 1, by omega, by go_num, by rw [HS.out, if_neg HK.out], by first | rfl | trivial⟩, by simp [intOf] <;> omega⟩
      · obtain rfl : k = j := by omega
        obtain ⟨A, c, hA, _, _, _, hu', hr'⟩ := KI.out.below B2.out
        injection hA with hA1 hA2 hA3
        subst hA1 hA3
        clear hA2
        obtain ⟨b2, o2, z, rfl, hb2, hgz, hz64, hcz⟩ := nums_at hr' hu' (k := cin gs k) HCI.out
        have HZ := Lib.hid (co_toFs hgz)
        have hcl := HCI.out
        have HU := Lib.hid hz64
        clear hr hu hr' hu' hb2 hgz hz64
        go_wp2_with fail
        refine (rNorm_any _ _ HU.out).mono ?_
        rintro e w' ⟨rfl, rfl⟩
        try dsimp only
        go_wp2_with fail
        have hp := HP.out
        rw [HR.out, HZ.out] at hp
        exact hp _ B2.out
  · have HR := Lib.hid (show lvF gs (toFs ins) j = toF g.n by rw [HLV.out, if_neg (by omega)])
    rw [hk] at ha1 B2
    clear hk HLV hgj
    go_enter Tryd.func30, Tryd.ntmps30
    go_wp2_with fail
    refine (rNorm_any _ _ HGN.out).mono ?_
    rintro e w' ⟨rfl, rfl⟩
    try dsimp only
    go_wp2_with fail
    have hp := HP.out
    rw [HR.out] at hp
    exact hp _ B2.out
set_option maxRecDepth 100000 in
set_option maxHeartbeats 2000000 in
theorem rVal_at (v vi : Value) (gs : List Gt) (os ins : List Int) (j : Nat) (g : Gt) (W : List F) (w : World) (h : IsCirc w v gs os) (hi : IsNums w vi ins) (hgj : gs[j]? = some g) (hr : gRight g j = true) (hl : ∀ i, i < j → leafB gs (toFs ins) i ∧ lvF gs (toFs ins) i = co W i) (hcin : g.kind = 1 → cin gs j < ins.length) :
    Calls Tryd.prog 30 #[v, vi, .int .i64 j] w fun e w' => e = .returned (.int .u64 (ofF (cone W (co (toFs ins) (cin gs j)) g))) ∧ Below w.heap.size w w' := by
  by_cases h1 : g.kind = 1
  · refine (rVal_leaf v vi gs os ins j w h hi ⟨g, hgj, .inl ⟨h1, by rw [toFs_length]; exact hcin h1⟩⟩).mono fun e w' hh => ?_
    have e1 : lvF gs (toFs ins) j = cone W (co (toFs ins) (cin gs j)) g := by
      unfold lvF cone
      rw [hgj, if_pos h1]
      exact if_pos h1
    rw [← e1]
    exact hh
  by_cases h2 : g.kind = 2
  · refine (rVal_leaf v vi gs os ins j w h hi ⟨g, hgj, .inr h2⟩).mono fun e w' hh => ?_
    have e1 : lvF gs (toFs ins) j = cone W (co (toFs ins) (cin gs j)) g := by
      unfold lvF cone
      rw [hgj, if_neg h1, if_pos h2]
      exact if_neg h1
    rw [← e1]
    exact hh
  have hjl := (List.getElem?_eq_some_iff.1 hgj).1
  have LEAF := Lib.hid (show ∀ (x : Nat) (W1 : World), x < j → IsCirc W1 v gs os → IsNums W1 vi ins → Calls Tryd.prog 30 #[v, vi, .int .i64 x] W1 fun e w' => e = .returned (.int .u64 (ofF (co W x))) ∧ Below W1.heap.size W1 w' from fun x W1 hx q1 q2 => by
    obtain ⟨e1, e2⟩ := hl x hx
    rw [← e2]
    exact rVal_leaf v vi gs os ins x W1 q1 q2 e1)
  have KC := Lib.hid h
  have KI := Lib.hid hi
  obtain ⟨vg, vo, rfl, hg, ho⟩ := h
  have KG := Lib.hid hg
  obtain ⟨A1, c1, rfl, hc1, hm1, hl1, hu1, hr1⟩ := hg
  obtain ⟨A2, c2, rfl, hc2, hm2, hl2, hu2, hr2⟩ := ho
  obtain ⟨A3, c3, rfl, hc3, hm3, hl3, hu3, hr3⟩ := hi
  have hb0 : Below w.heap.size w (w.alloc (.cells #[.slice A1 gs.length c1, .slice A2 os.length c2] 25)) := (Below.refl w.heap.size w).alloc (Nat.le_refl _) _
  obtain ⟨A, c, hA, _, _, _, hu, hr'⟩ := KG.out.below hb0
  injection hA with hA1 hA2 hA3
  subst hA1 hA3
  clear hA2
  obtain ⟨b1', o1, ⟨kd, ga, gb, gn⟩, rfl, hb1, hgk, hgo, ha1, ha2, ha3, ha4⟩ := gate_at hr' hu hjl
  rw [hgj] at hgk
  obtain rfl := Option.some.inj hgk
  have hgn := hgo.2.2.2
  dsimp only at ha1 ha2 ha3 ha4 hgn h1 h2
  have HGN := Lib.hid hgn
  have hBX := (Box.new w 25 [.slice (some ⟨b1', o1, none⟩) gs.length c1, .slice A2 os.length c2])
  suffices hgoal : ∀ Post : Ending → World → Prop, (∀ w', Below w.heap.size w w' → Post (.returned (.int .u64 (ofF (cone W (co (toFs ins) (cin gs j)) ⟨kd, ga, gb, gn⟩)))) w') → Calls Tryd.prog 30 #[.agg #[.slice (some ⟨b1', o1, none⟩) gs.length c1, .slice A2 os.length c2], .slice A3 ins.length c3, .int .i64 j] w Post from hgoal _ fun w' h => ⟨rfl, h⟩
  intro Post hpo
  have HP := Lib.hid hpo
  obtain ⟨w2, hw2⟩ : ∃ w2, w2 = (w.alloc (.cells #[.slice (some ⟨b1', o1, none⟩) gs.length c1, .slice A2 os.length c2] 25)).alloc (.cells #[.int .i64 kd, .int .i64 ga, .int .i64 gb, .int .u64 gn] 58) := ⟨_, rfl⟩
  have HW2 := Lib.hid hw2
  have hb2 : Below w.heap.size w w2 := by rw [hw2]; exact hb0.alloc hb0.size _
  have BXC := Lib.hid (show Box w2 w.heap.size 25 [.slice (some ⟨b1', o1, none⟩) gs.length c1, .slice A2 os.length c2] by rw [hw2]; exact hBX.alloc _)
  have BXG := Lib.hid (show Box w2 (w.heap.size + 1) 58 [.int .i64 kd, .int .i64 ga, .int .i64 gb, .int .u64 gn] by
    have h := Box.new (w.alloc (.cells #[.slice (some ⟨b1', o1, none⟩) gs.length c1, .slice A2 os.length c2] 25)) 58 [.int .i64 kd, .int .i64 ga, .int .i64 gb, .int .u64 gn]
    rw [size_alloc] at h
    rw [hw2]; exact h)
  have B2 := Lib.hid hb2
  have KC2 := Lib.hid (KC.out.below hb2)
  have KI2 := Lib.hid (KI.out.below hb2)
  have BQ := Lib.hid (below_drewN hb2 1)
  have BXCQ := Lib.hid (BXC.out.drewN 1)
  have BXGQ := Lib.hid (BXG.out.drewN 1)
  have KCQ := Lib.hid (KC.out.below BQ.out)
  have KIQ := Lib.hid (KI.out.below BQ.out)
  clear hu1 hr1 hm1 hu2 hr2 hm2 hu3 hr3 hm3 hu hr' hgk hb0 hb2 hgo hw2 hBX hpo hl hcin
  by_cases h6 : kd = 6
  · subst h6
    obtain ⟨a, ha, haj⟩ : ∃ a : Nat, ga = (a : Int) ∧ a < j := by
      simp [gRight, aheadB] at hr
      exact ⟨ga.toNat, by omega, by omega⟩
    subst ha
    have HR := Lib.hid (show cone W (co (toFs ins) (cin gs j)) ⟨6, a, gb, gn⟩ = co W a * toF gn from rfl)
    rw [HR.out] at HP
    clear hr h1 h2 hgj
    go_enter Tryd.func30, Tryd.ntmps30
    go_upto_region 14 with fail
    rw [← HW2.out]
    have g0 := BXC.out.cell (i := 0) rfl
    have g1 := BXC.out.cell (i := 1) rfl
    have g2 := BXG.out.cell (i := 1) rfl
    have g3 := BXG.out.cell (i := 3) rfl
    clear ha1 ha2 ha3 ha4
    go_wp2_with fail
    go_region_held3 (fun w' => w'.cell? ⟨w.heap.size, 0, none⟩ = some (.slice (some ⟨b1', o1, none⟩) gs.length c1) ∧ w'.cell? ⟨w.heap.size, 1, none⟩ = some (.slice A2 os.length c2) ∧ w'.cell? ⟨w.heap.size + 1, 1, none⟩ = some (.int .i64 (a : Int)) ∧ w'.cell? ⟨w.heap.size + 1, 3, none⟩ = some (.int .u64 gn)) (go_keep) (first | (go_at_call 30; refine (LEAF.out _ _ haj KCQ.out KIQ.out).mono ?_; rintro e w3 ⟨rfl, hb3⟩; have B3 := Lib.hid (below_trans BQ.out hb3 BQ.out.size); have q0 := (BXCQ.out.below hb3).cell (i := 0) rfl; have q1 := (BXCQ.out.below hb3).cell (i := 1) rfl; have q2 := (BXGQ.out.below hb3).cell (i := 1) rfl; have q3 := (BXGQ.out.below hb3).cell (i := 3) rfl; clear hb3) | (go_at_call 53; refine (rMul_any _ _ _ (U64.of_ofF _) HGN.out).mono ?_; rintro e w' ⟨rfl, rfl⟩))
    rw [toF_ofF]
    clear g0 g1 g2 g3 q0 q1 q2 q3
    go_wp2_with fail
    exact HP.out _ B3.out
  · have h345 : kd = 3 ∨ kd = 4 ∨ kd = 5 := by
      by_cases q : kd = 3 ∨ kd = 4 ∨ kd = 5
      · exact q
      · simp [gRight, h1, h2, h6, q] at hr
    obtain ⟨a, b, ha, hb, haj, hbj⟩ : ∃ a b : Nat, ga = (a : Int) ∧ gb = (b : Int) ∧ a < j ∧ b < j := by
      have hq : aheadB ga j = true ∧ aheadB gb j = true := by
        rcases h345 with rfl | rfl | rfl <;> (simp [gRight] at hr; exact ⟨hr.1.1, hr.1.2⟩)
      simp [aheadB] at hq
      exact ⟨ga.toNat, gb.toNat, by omega, by omega, by omega, by omega⟩
    subst ha hb
    clear hr
    have HAB := Lib.hid (And.intro haj hbj)
    rcases h345 with rfl | rfl | rfl
    · rw [show cone W (co (toFs ins) (cin gs j)) ⟨3, a, b, gn⟩ = co W a + co W b from rfl] at HP
      clear h1 h2 h6 hgj
      go_enter Tryd.func30, Tryd.ntmps30
      go_upto_region 15 with fail
      rw [← HW2.out]
      have g0 := BXC.out.cell (i := 0) rfl
      have g1 := BXC.out.cell (i := 1) rfl
      have g2 := BXG.out.cell (i := 1) rfl
      have g3 := BXG.out.cell (i := 2) rfl
      clear ha1 ha2 ha3 ha4
      go_wp2_with fail
      go_region_held3 (fun w' => w'.cell? ⟨w.heap.size, 0, none⟩ = some (.slice (some ⟨b1', o1, none⟩) gs.length c1) ∧ w'.cell? ⟨w.heap.size, 1, none⟩ = some (.slice A2 os.length c2) ∧ w'.cell? ⟨w.heap.size + 1, 1, none⟩ = some (.int .i64 (a : Int)) ∧ w'.cell? ⟨w.heap.size + 1, 2, none⟩ = some (.int .i64 (b : Int))) (go_keep) (first | (go_at_call 30; refine (LEAF.out _ _ (by first | exact HAB.out.1 | exact HAB.out.2) KC3.out KI3.out).mono ?_; rintro e w4 ⟨rfl, hb4⟩; have B4 := Lib.hid (below_trans B3.out hb4 B3.out.size); have BXG4 := Lib.hid (BXG3.out.below hb4); have q4 := (BXC3.out.below hb4).cell (i := 0) rfl; have q5 := (BXC3.out.below hb4).cell (i := 1) rfl; have q6 := BXG4.out.cell (i := 1) rfl; have q7 := BXG4.out.cell (i := 2) rfl; clear hb4) | (go_at_call 30; refine (LEAF.out _ _ (by first | exact HAB.out.1 | exact HAB.out.2) KCQ.out KIQ.out).mono ?_; rintro e w3 ⟨rfl, hb3⟩; have B3 := Lib.hid (below_trans BQ.out hb3 BQ.out.size); have BXC3 := Lib.hid (BXCQ.out.below hb3); have BXG3 := Lib.hid (BXGQ.out.below hb3); have KC3 := Lib.hid (KC.out.below B3.out); have KI3 := Lib.hid (KI.out.below B3.out); have q0 := BXC3.out.cell (i := 0) rfl; have q1 := BXC3.out.cell (i := 1) rfl; have q2 := BXG3.out.cell (i := 1) rfl; have q3 := BXG3.out.cell (i := 2) rfl; clear hb3))
      all_goals
        clear g0 g1 g2 g3 q0 q1 q2 q3 q4 q5 q6 q7
        have gk := BXG4.out.cell (i := 0) rfl
        go_wp2_with fail
        refine (rAdd_any _ _ _ (U64.of_ofF _) (U64.of_ofF _)).mono ?_
        rintro e w' ⟨rfl, rfl⟩
        rw [toF_ofF, toF_ofF]
        try dsimp only
        go_wp2_with fail
        exact HP.out _ B4.out
    · rw [show cone W (co (toFs ins) (cin gs j)) ⟨4, a, b, gn⟩ = co W a - co W b from rfl] at HP
      clear h1 h2 h6 hgj
      go_enter Tryd.func30, Tryd.ntmps30
      go_upto_region 15 with fail
      rw [← HW2.out]
      have g0 := BXC.out.cell (i := 0) rfl
      have g1 := BXC.out.cell (i := 1) rfl
      have g2 := BXG.out.cell (i := 1) rfl
      have g3 := BXG.out.cell (i := 2) rfl
      clear ha1 ha2 ha3 ha4
      go_wp2_with fail
      go_region_held3 (fun w' => w'.cell? ⟨w.heap.size, 0, none⟩ = some (.slice (some ⟨b1', o1, none⟩) gs.length c1) ∧ w'.cell? ⟨w.heap.size, 1, none⟩ = some (.slice A2 os.length c2) ∧ w'.cell? ⟨w.heap.size + 1, 1, none⟩ = some (.int .i64 (a : Int)) ∧ w'.cell? ⟨w.heap.size + 1, 2, none⟩ = some (.int .i64 (b : Int))) (go_keep) (first | (go_at_call 30; refine (LEAF.out _ _ (by first | exact HAB.out.1 | exact HAB.out.2) KC3.out KI3.out).mono ?_; rintro e w4 ⟨rfl, hb4⟩; have B4 := Lib.hid (below_trans B3.out hb4 B3.out.size); have BXG4 := Lib.hid (BXG3.out.below hb4); have q4 := (BXC3.out.below hb4).cell (i := 0) rfl; have q5 := (BXC3.out.below hb4).cell (i := 1) rfl; have q6 := BXG4.out.cell (i := 1) rfl; have q7 := BXG4.out.cell (i := 2) rfl; clear hb4) | (go_at_call 30; refine (LEAF.out _ _ (by first | exact HAB.out.1 | exact HAB.out.2) KCQ.out KIQ.out).mono ?_; rintro e w3 ⟨rfl, hb3⟩; have B3 := Lib.hid (below_trans BQ.out hb3 BQ.out.size); have BXC3 := Lib.hid (BXCQ.out.below hb3); have BXG3 := Lib.hid (BXGQ.out.below hb3); have KC3 := Lib.hid (KC.out.below B3.out); have KI3 := Lib.hid (KI.out.below B3.out); have q0 := BXC3.out.cell (i := 0) rfl; have q1 := BXC3.out.cell (i := 1) rfl; have q2 := BXG3.out.cell (i := 1) rfl; have q3 := BXG3.out.cell (i := 2) rfl; clear hb3))
      all_goals
        clear g0 g1 g2 g3 q0 q1 q2 q3 q4 q5 q6 q7
        have gk := BXG4.out.cell (i := 0) rfl
        go_wp2_with fail
        refine (rNeg_any _ _ (U64.of_ofF _)).mono ?_
        rintro e w' ⟨rfl, rfl⟩
        rw [toF_ofF]
        try dsimp only
        go_wp2_with fail
        refine (rAdd_any _ _ _ (U64.of_ofF _) (U64.of_ofF _)).mono ?_
        rintro e w' ⟨rfl, rfl⟩
        rw [toF_ofF, toF_ofF, show co W a + -co W b = co W a - co W b by grind]
        try dsimp only
        go_wp2_with fail
        exact HP.out _ B4.out
    · rw [show cone W (co (toFs ins) (cin gs j)) ⟨5, a, b, gn⟩ = co W a * co W b from rfl] at HP
      clear h1 h2 h6 hgj
      go_enter Tryd.func30, Tryd.ntmps30
      go_upto_region 15 with fail
      rw [← HW2.out]
      have g0 := BXC.out.cell (i := 0) rfl
      have g1 := BXC.out.cell (i := 1) rfl
      have g2 := BXG.out.cell (i := 1) rfl
      have g3 := BXG.out.cell (i := 2) rfl
      clear ha1 ha2 ha3 ha4
      go_wp2_with fail
      go_region_held3 (fun w' => w'.cell? ⟨w.heap.size, 0, none⟩ = some (.slice (some ⟨b1', o1, none⟩) gs.length c1) ∧ w'.cell? ⟨w.heap.size, 1, none⟩ = some (.slice A2 os.length c2) ∧ w'.cell? ⟨w.heap.size + 1, 1, none⟩ = some (.int .i64 (a : Int)) ∧ w'.cell? ⟨w.heap.size + 1, 2, none⟩ = some (.int .i64 (b : Int))) (go_keep) (first | (go_at_call 30; refine (LEAF.out _ _ (by first | exact HAB.out.1 | exact HAB.out.2) KC3.out KI3.out).mono ?_; rintro e w4 ⟨rfl, hb4⟩; have B4 := Lib.hid (below_trans B3.out hb4 B3.out.size); have BXG4 := Lib.hid (BXG3.out.below hb4); have q4 := (BXC3.out.below hb4).cell (i := 0) rfl; have q5 := (BXC3.out.below hb4).cell (i := 1) rfl; have q6 := BXG4.out.cell (i := 1) rfl; have q7 := BXG4.out.cell (i := 2) rfl; clear hb4) | (go_at_call 30; refine (LEAF.out _ _ (by first | exact HAB.out.1 | exact HAB.out.2) KCQ.out KIQ.out).mono ?_; rintro e w3 ⟨rfl, hb3⟩; have B3 := Lib.hid (below_trans BQ.out hb3 BQ.out.size); have BXC3 := Lib.hid (BXCQ.out.below hb3); have BXG3 := Lib.hid (BXGQ.out.below hb3); have KC3 := Lib.hid (KC.out.below B3.out); have KI3 := Lib.hid (KI.out.below B3.out); have q0 := BXC3.out.cell (i := 0) rfl; have q1 := BXC3.out.cell (i := 1) rfl; have q2 := BXG3.out.cell (i := 1) rfl; have q3 := BXG3.out.cell (i := 2) rfl; clear hb3))
      all_goals
        clear g0 g1 g2 g3 q0 q1 q2 q3 q4 q5 q6 q7
        have gk := BXG4.out.cell (i := 0) rfl
        go_wp2_with fail
        refine (rMul_any _ _ _ (U64.of_ofF _) (U64.of_ofF _)).mono ?_
        rintro e w' ⟨rfl, rfl⟩
        rw [toF_ofF, toF_ofF]
        try dsimp only
        go_wp2_with fail
        exact HP.out _ B4.out
end Go.Proofs.YtknjcdlknnfhaaaDoor
