/- The document's circuits: which are right, whose the inputs are. -/
import Derived.Test.YtljpangeodgbkaaDoorCircW
import Derived.Test.YtljpangeodgbkaaDoorPushW
namespace Go.Proofs.YtljpangeodgbkaaDoor
open Go.RowKit Croft

set_option maxRecDepth 100000 in
set_option maxHeartbeats 4000000 in
theorem rCirc_any (v : Value) (gs : List Gt) (os : List Int) (w : World) (h : IsCirc w v gs os) :
    Calls Tryd.prog 26 #[v] w fun e w' => e = .returned (.int .i64 (circE gs os)) ∧ Below w.heap.size w w' := by
  obtain ⟨vg, vo, rfl, hg, ho⟩ := h
  have KG := Lib.hid hg
  have KO := Lib.hid ho
  obtain ⟨A1, c1, rfl, hc1, hm1, hl1, hu1, hr1⟩ := hg
  obtain ⟨A2, c2, rfl, hc2, hm2, hl2, hu2, hr2⟩ := ho
  have BB := Lib.hid ((Below.refl w.heap.size w).alloc (Nat.le_refl _) (.cells #[.slice A1 gs.length c1, .slice A2 os.length c2] 25))
  have hl1' : gs.length ≤ 17592186043904 := by omega
  suffices hgoal : ∀ Post : Ending → World → Prop, (∀ w', Below w.heap.size w w' → Post (.returned (.int .i64 (circE gs os))) w') → Calls Tryd.prog 26 #[.agg #[.slice A1 gs.length c1, .slice A2 os.length c2]] w Post from hgoal _ fun w' h => ⟨rfl, h⟩
  intro Post hpo
  have HP := Lib.hid hpo
  clear hu1 hr1 hm1 hu2 hr2 hm2 hpo
  by_cases g0 : gs.length = 0
  · have HE := Lib.hid (show circE gs os = 1 by unfold circE; rw [if_pos (.inl g0)])
    have b0 : ((gs.length : Int) == 0) = true := by rw [beq_iff_eq]; omega
    have G0 := Lib.hid g0
    clear g0
    rw [HE.out] at HP
    go_enter Tryd.func26, Tryd.ntmps26
    go_wp2_with fail
    exact HP.out _ BB.out
  have b0 : ((gs.length : Int) == 0) = false := by rw [beq_eq_false_iff_ne]; omega
  by_cases o0 : os.length = 0
  · have HE := Lib.hid (show circE gs os = 1 by unfold circE; rw [if_pos (.inr o0)])
    have b1 : ((os.length : Int) == 0) = true := by rw [beq_iff_eq]; omega
    have O0 := Lib.hid o0
    clear o0 g0
    rw [HE.out] at HP
    go_enter Tryd.func26, Tryd.ntmps26
    go_wp2_with fail
    exact HP.out _ BB.out
  have b1 : ((os.length : Int) == 0) = false := by rw [beq_eq_false_iff_ne]; omega
  by_cases g3 : 30 < gs.length
  · have HE := Lib.hid (show circE gs os = 2 by unfold circE; rw [if_neg (by omega), if_pos (.inl g3)])
    have b2 : (gs.length : Int) > 30 := by omega
    clear g0 o0
    rw [HE.out] at HP
    go_enter Tryd.func26, Tryd.ntmps26
    go_wp2_with fail
    exact HP.out _ BB.out
  have b2 : ¬ (gs.length : Int) > 30 := by omega
  by_cases o3 : 30 < os.length
  · have HE := Lib.hid (show circE gs os = 2 by unfold circE; rw [if_neg (by omega), if_pos (.inr o3)])
    have b3 : (os.length : Int) > 30 := by omega
    clear g0 o0 g3
    rw [HE.out] at HP
    go_enter Tryd.func26, Tryd.ntmps26
    go_wp2_with fail
    exact HP.out _ BB.out
  have b3 : ¬ (os.length : Int) > 30 := by omega
  have HE := Lib.hid (show circE gs os = if gatesB gs gs.length = true then if outsB gs os = true then 0 else 1 else 1 by unfold circE; rw [if_neg (by omega), if_neg (by omega)])
  have hgl : gs.length ≤ 30 := by omega
  have hol : os.length ≤ 30 := by omega
  clear g0 o0 g3 o3
  have BX0 := Lib.hid (Box.new w 25 [.slice A1 gs.length c1, .slice A2 os.length c2])
  go_enter Tryd.func26, Tryd.ntmps26
  go_wp2_with fail
  go_loopw [3] (fun i wr => ∃ k : Nat, k ≤ gs.length ∧ i = .int .i64 k ∧ gatesB gs k = true ∧ Box wr w.heap.size 25 [.slice A1 gs.length c1, .slice A2 os.length c2] ∧ Below w.heap.size w wr) (fun i _ => gs.length - (intOf i).toNat)
  case atStart => exact ⟨0, Nat.zero_le _, rfl, rfl, BX0.out, BB.out⟩
  case round =>
    obtain ⟨k, hk, rfl, hok, hbox, hbel⟩ := hrel
    have HOK := Lib.hid hok
    have KB := Lib.hid hbox
    have BEL := Lib.hid hbel
    have hsz := hbel.size
    have hc0 := hbox.cell (i := 0) rfl
    have hc1' := hbox.cell (i := 1) rfl
    clear hok hbox hbel
    by_cases hlt : k < gs.length
    · obtain ⟨A, c, hA, _, _, _, hu, hr⟩ := (KG.out.below BEL.out)
      injection hA with hA1 hA2 hA3
      subst hA1 hA3
      obtain ⟨b1', o1, ⟨kd, a, b, n⟩, rfl, hb1, hgk, hgo, ha1, ha2, ha3, ha4⟩ := gate_at hr hu hlt
      dsimp only at ha1 ha2 ha3 ha4
      have HS := Lib.hid (show gatesB gs (k + 1) = gRight ⟨kd, a, b, n⟩ k by rw [gatesB, HOK.out, hgk]; rfl)
      have HBAD := Lib.hid (show gRight ⟨kd, a, b, n⟩ k = false → circE gs os = 1 from fun hf => by
        rw [HE.out, if_neg (fun h => ?_)]
        have := (gatesB_iff gs gs.length).1 h k _ hlt hgk
        rw [hf] at this; cases this)
      have B5 := Lib.hid (fun a b n => BEL.out.alloc hsz (.cells #[.int .i64 kd, .int .i64 a, .int .i64 b, .int .u64 n] 62))
      have K5 := Lib.hid (fun a b n => KB.out.alloc (.cells #[.int .i64 kd, .int .i64 a, .int .i64 b, .int .u64 n] 62))
      clear hr hu hgk hb1 hgo hA2
      have hklt : (k : Int) - 1 < 30 := by omega
      by_cases hk1 : kd = 1
      · subst hk1
        go_wp2_with fail
        refine (rIn_any _ _ _ _).mono ?_
        rintro e w' ⟨rfl, rfl⟩
        by_cases q0 : 1 ≤ a ∧ a ≤ 9
        · rw [show decide (1 ≤ a ∧ a ≤ 9) = true from decide_eq_true q0]
          try dsimp only
          by_cases q1 : b = 0
          · have hq1 : (b == 0) = true := by rw [beq_iff_eq]; exact q1
            by_cases q2 : n = 0
            · have hq2 : (n == 0) = true := by rw [beq_iff_eq]; exact q2
              have HG := Lib.hid (show gRight ⟨1, a, b, n⟩ k = true by simp [gRight]; omega)
              clear q0 
              go_wp2_with fail
              exact ⟨⟨k + 1, by omega, by go_num, by rw [HS.out]; exact HG.out, K5.out _ _ _, B5.out _ _ _⟩, by simp [intOf] <;> omega⟩
            · have hq2 : (n == 0) = false := by rw [beq_eq_false_iff_ne]; exact q2
              have HG := Lib.hid (show gRight ⟨1, a, b, n⟩ k = false by simp [gRight]; omega)
              go_wp2_with fail
              have hp := HP.out
              rw [HBAD.out HG.out] at hp
              exact hp _ (B5.out _ _ _)
          · have hq1 : (b == 0) = false := by rw [beq_eq_false_iff_ne]; exact q1
            have HG := Lib.hid (show gRight ⟨1, a, b, n⟩ k = false by simp [gRight]; omega)
            go_wp2_with fail
            have hp := HP.out
            rw [HBAD.out HG.out] at hp
            exact hp _ (B5.out _ _ _)
        · rw [show decide (1 ≤ a ∧ a ≤ 9) = false from decide_eq_false q0]
          try dsimp only
          have HG := Lib.hid (show gRight ⟨1, a, b, n⟩ k = false by simp [gRight]; omega)
          clear q0
          go_wp2_with fail
          have hp := HP.out
          rw [HBAD.out HG.out] at hp
          exact hp _ (B5.out _ _ _)
      by_cases hk2 : kd = 2
      · subst hk2
        by_cases q0 : a = 0
        · have hq0 : (a == 0) = true := by rw [beq_iff_eq]; exact q0
          by_cases q1 : b = 0
          · have hq1 : (b == 0) = true := by rw [beq_iff_eq]; exact q1
            have HG := Lib.hid (show gRight ⟨2, a, b, n⟩ k = true by simp [gRight]; omega)
            go_wp2_with fail
            exact ⟨⟨k + 1, by omega, by go_num, by rw [HS.out]; exact HG.out, K5.out _ _ _, B5.out _ _ _⟩, by simp [intOf] <;> omega⟩
          · have hq1 : (b == 0) = false := by rw [beq_eq_false_iff_ne]; exact q1
            have HG := Lib.hid (show gRight ⟨2, a, b, n⟩ k = false by simp [gRight]; omega)
            go_wp2_with fail
            have hp := HP.out
            rw [HBAD.out HG.out] at hp
            exact hp _ (B5.out _ _ _)
        · have hq0 : (a == 0) = false := by rw [beq_eq_false_iff_ne]; exact q0
          have HG := Lib.hid (show gRight ⟨2, a, b, n⟩ k = false by simp [gRight]; omega)
          go_wp2_with fail
          have hp := HP.out
          rw [HBAD.out HG.out] at hp
          exact hp _ (B5.out _ _ _)
      by_cases hk3 : kd = 3
      · subst hk3
        go_wp2_with fail
        refine (rIn_any _ _ _ _).mono ?_
        rintro e w' ⟨rfl, rfl⟩
        by_cases q0 : 0 ≤ a ∧ a ≤ (k : Int) - 1
        · rw [show decide (0 ≤ a ∧ a ≤ (k : Int) - 1) = true from decide_eq_true q0]
          try dsimp only
          go_wp2_with fail
          refine (rIn_any _ _ _ _).mono ?_
          rintro e w' ⟨rfl, rfl⟩
          by_cases q1 : 0 ≤ b ∧ b ≤ (k : Int) - 1
          · rw [show decide (0 ≤ b ∧ b ≤ (k : Int) - 1) = true from decide_eq_true q1]
            try dsimp only
            by_cases q2 : n = 0
            · have hq2 : (n == 0) = true := by rw [beq_iff_eq]; exact q2
              have HG := Lib.hid (show gRight ⟨3, a, b, n⟩ k = true by simp [gRight, aheadB]; omega)
              clear q0 q1 
              go_wp2_with fail
              exact ⟨⟨k + 1, by omega, by go_num, by rw [HS.out]; exact HG.out, K5.out _ _ _, B5.out _ _ _⟩, by simp [intOf] <;> omega⟩
            · have hq2 : (n == 0) = false := by rw [beq_eq_false_iff_ne]; exact q2
              have HG := Lib.hid (show gRight ⟨3, a, b, n⟩ k = false by simp [gRight, aheadB]; omega)
              go_wp2_with fail
              have hp := HP.out
              rw [HBAD.out HG.out] at hp
              exact hp _ (B5.out _ _ _)
          · rw [show decide (0 ≤ b ∧ b ≤ (k : Int) - 1) = false from decide_eq_false q1]
            try dsimp only
            have HG := Lib.hid (show gRight ⟨3, a, b, n⟩ k = false by simp [gRight, aheadB]; omega)
            clear q1
            go_wp2_with fail
            have hp := HP.out
            rw [HBAD.out HG.out] at hp
            exact hp _ (B5.out _ _ _)
        · rw [show decide (0 ≤ a ∧ a ≤ (k : Int) - 1) = false from decide_eq_false q0]
          try dsimp only
          have HG := Lib.hid (show gRight ⟨3, a, b, n⟩ k = false by simp [gRight, aheadB]; omega)
          clear q0
          go_wp2_with fail
          have hp := HP.out
          rw [HBAD.out HG.out] at hp
          exact hp _ (B5.out _ _ _)
      by_cases hk4 : kd = 4
      · subst hk4
        go_wp2_with fail
        refine (rIn_any _ _ _ _).mono ?_
        rintro e w' ⟨rfl, rfl⟩
        by_cases q0 : 0 ≤ a ∧ a ≤ (k : Int) - 1
        · rw [show decide (0 ≤ a ∧ a ≤ (k : Int) - 1) = true from decide_eq_true q0]
          try dsimp only
          go_wp2_with fail
          refine (rIn_any _ _ _ _).mono ?_
          rintro e w' ⟨rfl, rfl⟩
          by_cases q1 : 0 ≤ b ∧ b ≤ (k : Int) - 1
          · rw [show decide (0 ≤ b ∧ b ≤ (k : Int) - 1) = true from decide_eq_true q1]
            try dsimp only
            by_cases q2 : n = 0
            · have hq2 : (n == 0) = true := by rw [beq_iff_eq]; exact q2
              have HG := Lib.hid (show gRight ⟨4, a, b, n⟩ k = true by simp [gRight, aheadB]; omega)
              clear q0 q1 
              go_wp2_with fail
              exact ⟨⟨k + 1, by omega, by go_num, by rw [HS.out]; exact HG.out, K5.out _ _ _, B5.out _ _ _⟩, by simp [intOf] <;> omega⟩
            · have hq2 : (n == 0) = false := by rw [beq_eq_false_iff_ne]; exact q2
              have HG := Lib.hid (show gRight ⟨4, a, b, n⟩ k = false by simp [gRight, aheadB]; omega)
              go_wp2_with fail
              have hp := HP.out
              rw [HBAD.out HG.out] at hp
              exact hp _ (B5.out _ _ _)
          · rw [show decide (0 ≤ b ∧ b ≤ (k : Int) - 1) = false from decide_eq_false q1]
            try dsimp only
            have HG := Lib.hid (show gRight ⟨4, a, b, n⟩ k = false by simp [gRight, aheadB]; omega)
            clear q1
            go_wp2_with fail
            have hp := HP.out
            rw [HBAD.out HG.out] at hp
            exact hp _ (B5.out _ _ _)
        · rw [show decide (0 ≤ a ∧ a ≤ (k : Int) - 1) = false from decide_eq_false q0]
          try dsimp only
          have HG := Lib.hid (show gRight ⟨4, a, b, n⟩ k = false by simp [gRight, aheadB]; omega)
          clear q0
          go_wp2_with fail
          have hp := HP.out
          rw [HBAD.out HG.out] at hp
          exact hp _ (B5.out _ _ _)
      by_cases hk5 : kd = 5
      · subst hk5
        go_wp2_with fail
        refine (rIn_any _ _ _ _).mono ?_
        rintro e w' ⟨rfl, rfl⟩
        by_cases q0 : 0 ≤ a ∧ a ≤ (k : Int) - 1
        · rw [show decide (0 ≤ a ∧ a ≤ (k : Int) - 1) = true from decide_eq_true q0]
          try dsimp only
          go_wp2_with fail
          refine (rIn_any _ _ _ _).mono ?_
          rintro e w' ⟨rfl, rfl⟩
          by_cases q1 : 0 ≤ b ∧ b ≤ (k : Int) - 1
          · rw [show decide (0 ≤ b ∧ b ≤ (k : Int) - 1) = true from decide_eq_true q1]
            try dsimp only
            by_cases q2 : n = 0
            · have hq2 : (n == 0) = true := by rw [beq_iff_eq]; exact q2
              have HG := Lib.hid (show gRight ⟨5, a, b, n⟩ k = true by simp [gRight, aheadB]; omega)
              clear q0 q1 
              go_wp2_with fail
              exact ⟨⟨k + 1, by omega, by go_num, by rw [HS.out]; exact HG.out, K5.out _ _ _, B5.out _ _ _⟩, by simp [intOf] <;> omega⟩
            · have hq2 : (n == 0) = false := by rw [beq_eq_false_iff_ne]; exact q2
              have HG := Lib.hid (show gRight ⟨5, a, b, n⟩ k = false by simp [gRight, aheadB]; omega)
              go_wp2_with fail
              have hp := HP.out
              rw [HBAD.out HG.out] at hp
              exact hp _ (B5.out _ _ _)
          · rw [show decide (0 ≤ b ∧ b ≤ (k : Int) - 1) = false from decide_eq_false q1]
            try dsimp only
            have HG := Lib.hid (show gRight ⟨5, a, b, n⟩ k = false by simp [gRight, aheadB]; omega)
            clear q1
            go_wp2_with fail
            have hp := HP.out
            rw [HBAD.out HG.out] at hp
            exact hp _ (B5.out _ _ _)
        · rw [show decide (0 ≤ a ∧ a ≤ (k : Int) - 1) = false from decide_eq_false q0]
          try dsimp only
          have HG := Lib.hid (show gRight ⟨5, a, b, n⟩ k = false by simp [gRight, aheadB]; omega)
          clear q0
          go_wp2_with fail
          have hp := HP.out
          rw [HBAD.out HG.out] at hp
          exact hp _ (B5.out _ _ _)
      by_cases hk6 : kd = 6
      · subst hk6
        go_wp2_with fail
        refine (rIn_any _ _ _ _).mono ?_
        rintro e w' ⟨rfl, rfl⟩
        by_cases q0 : 0 ≤ a ∧ a ≤ (k : Int) - 1
        · rw [show decide (0 ≤ a ∧ a ≤ (k : Int) - 1) = true from decide_eq_true q0]
          try dsimp only
          by_cases q1 : b = 0
          · have hq1 : (b == 0) = true := by rw [beq_iff_eq]; exact q1
            have HG := Lib.hid (show gRight ⟨6, a, b, n⟩ k = true by simp [gRight, aheadB]; omega)
            clear q0 
            go_wp2_with fail
            exact ⟨⟨k + 1, by omega, by go_num, by rw [HS.out]; exact HG.out, K5.out _ _ _, B5.out _ _ _⟩, by simp [intOf] <;> omega⟩
          · have hq1 : (b == 0) = false := by rw [beq_eq_false_iff_ne]; exact q1
            have HG := Lib.hid (show gRight ⟨6, a, b, n⟩ k = false by simp [gRight, aheadB]; omega)
            go_wp2_with fail
            have hp := HP.out
            rw [HBAD.out HG.out] at hp
            exact hp _ (B5.out _ _ _)
        · rw [show decide (0 ≤ a ∧ a ≤ (k : Int) - 1) = false from decide_eq_false q0]
          try dsimp only
          have HG := Lib.hid (show gRight ⟨6, a, b, n⟩ k = false by simp [gRight, aheadB]; omega)
          clear q0
          go_wp2_with fail
          have hp := HP.out
          rw [HBAD.out HG.out] at hp
          exact hp _ (B5.out _ _ _)
      have hb1 : (kd == 1) = false := by rw [beq_eq_false_iff_ne]; exact hk1
      have hb2 : (kd == 2) = false := by rw [beq_eq_false_iff_ne]; exact hk2
      have hb3 : (kd == 3) = false := by rw [beq_eq_false_iff_ne]; exact hk3
      have hb4 : (kd == 4) = false := by rw [beq_eq_false_iff_ne]; exact hk4
      have hb5 : (kd == 5) = false := by rw [beq_eq_false_iff_ne]; exact hk5
      have hb6 : (kd == 6) = false := by rw [beq_eq_false_iff_ne]; exact hk6
      have HG := Lib.hid (show gRight ⟨kd, a, b, n⟩ k = false by simp [gRight, hk1, hk2, hk3, hk4, hk5, hk6])
      clear hk1 hk2 hk3 hk4 hk5 hk6
      go_wp2_with fail
      have hp := HP.out
      rw [HBAD.out HG.out] at hp
      exact hp _ (B5.out _ _ _)
    · obtain rfl : k = gs.length := by omega
      go_wp2_with fail
      clear hc0 hc1'
      obtain ⟨wo, hwo⟩ : ∃ wo, wo = wr := ⟨_, rfl⟩
      subst hwo
      go_loopw [6] (fun i wr => ∃ (q nd : Nat), q ≤ os.length ∧ i = .int .i64 q ∧ (∀ o ∈ os.take q, 0 ≤ o ∧ o < gs.length) ∧ wr = wo.drewN nd) (fun i _ => os.length - (intOf i).toNat)
      case atStart => exact ⟨0, 0, Nat.zero_le _, rfl, by simp, rfl⟩
      case round =>
        obtain ⟨q, nd, hq, rfl, hall, hwm⟩ := hrel
        have HALL := Lib.hid hall
        have HWM := Lib.hid hwm
        have hbq : Below w.heap.size w wr := by rw [hwm]; exact below_drewN BEL.out nd
        have BELQ := Lib.hid hbq
        have hc0 : wr.cell? ⟨w.heap.size, 0, none⟩ = some (.slice A1 gs.length c1) := by rw [hwm]; exact (KB.out.drewN nd).cell (i := 0) rfl
        have hc1' : wr.cell? ⟨w.heap.size, 1, none⟩ = some (.slice A2 os.length c2) := by rw [hwm]; exact (KB.out.drewN nd).cell (i := 1) rfl
        clear hall hwm hbq
        by_cases hlt2 : q < os.length
        · obtain ⟨A, c, hA, _, _, _, hu, hr⟩ := (KO.out.below BELQ.out)
          injection hA with hA1 hA2 hA3
          subst hA1 hA3
          obtain ⟨b1', o1, z, rfl, hb1, hgq, hat, hca⟩ := ints_at hr hu hlt2
          have HGQ := Lib.hid hgq
          clear hr hu hgq hb1 hA2
          by_cases hz : 0 ≤ z ∧ z ≤ (gs.length : Int) - 1
          · have CI := Lib.hid (show ∀ W, Calls Tryd.prog 48 #[.int .i64 z, .int .i64 0, .int .i64 ((gs.length : Int) - 1)] W fun e w' => e = .returned (.bool true) ∧ W = w' from fun W => by
              have h := rIn_any z 0 ((gs.length : Int) - 1) W
              rw [decide_eq_true hz] at h
              exact h)
            have HA2 := Lib.hid (show ∀ o ∈ os.take (q + 1), 0 ≤ o ∧ o < gs.length from fun o ho => by
              rw [List.take_add_one, HGQ.out] at ho
              rcases List.mem_append.1 ho with h1 | h1
              · exact HALL.out o h1
              · simp at h1; subst h1; omega)
            clear hz
            go_wp2_with fail
            go_quiet (exact quietL (CI.out _))
            go_wp2_with fail
            exact ⟨⟨q + 1, _, by omega, by go_num, HA2.out, drewn_more HWM.out _⟩, by simp [intOf] <;> omega⟩
          · have CI := Lib.hid (show ∀ W, Calls Tryd.prog 48 #[.int .i64 z, .int .i64 0, .int .i64 ((gs.length : Int) - 1)] W fun e w' => e = .returned (.bool false) ∧ W = w' from fun W => by
              have h := rIn_any z 0 ((gs.length : Int) - 1) W
              rw [decide_eq_false hz] at h
              exact h)
            have HOB := Lib.hid (show circE gs os = 1 by
              rw [HE.out, if_pos HOK.out, if_neg (fun h => ?_)]
              have := outsB_iff.1 h z (List.mem_of_getElem? HGQ.out)
              omega)
            clear hz
            go_wp2_with fail
            go_quiet (exact quietL (CI.out _))
            go_wp2_with fail
            have hp := HP.out
            rw [HOB.out] at hp
            exact hp _ (below_drewN BELQ.out nq)
        · obtain rfl : q = os.length := by omega
          have HZ := Lib.hid (show circE gs os = 0 by
            rw [HE.out, if_pos HOK.out, if_pos (outsB_iff.2 fun o ho => HALL.out o (by rw [List.take_length]; exact ho))])
          go_wp2_with fail
          have hp := HP.out _ BELQ.out
          rw [HZ.out] at hp
          exact hp
end Go.Proofs.YtljpangeodgbkaaDoor
