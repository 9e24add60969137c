/- Parties that run a circuit: how many draws it takes. -/
import Derived.Test.YtcdeoccpbdncmaaEngP
import Derived.Test.YtcdeoccpbdncmaaCircX
namespace Go.Proofs.Ytcdeoccpbdncmaa
open Go.RowKit Croft

def over (n : Int) (z : Int) : Bool := decide (z > n)
def crewP (n t : Int) : Prop := 0 ≤ t ∧ t ≤ 4 ∧ 1 ≤ n ∧ n ≤ 9 ∧ 2 * t + 1 ≤ n
instance (n t : Int) : Decidable (crewP n t) := by unfold crewP; exact inferInstance
def crewE (gs : List Gt) (os : List Int) (n t : Int) : Int := if circE gs os = 0 then if crewP n t then if (whoseL gs).any (over n) = true then 1 else 0 else 1 else circE gs os
def needN (gs : List Gt) (os : List Int) (n t : Int) : Int := if crewE gs os n t = 0 then (dat n.toNat t.toNat gs gs.length : Int) else 0
def NeedRes (w : World) (e : Ending) (w' : World) (k err : Int) : Prop := e = .returned (.tuple #[.int .i64 k, .int .i64 err]) ∧ Below w.heap.size w w'
theorem eOver_any (z n : Int) (b : Nat) (w : World) (h : w.cell? ⟨b, 0, none⟩ = some (.int .i64 n)) :
    Calls Try.prog 77 #[.int .i64 z, .pointer (some ⟨b, 0, none⟩)] w fun e w' => e = .returned (.bool (over n z)) ∧ w = w' := by
  go_enter Try.func77, Try.ntmps77
  go_wp2_with fail
  go_ret
  exact ⟨rfl, rfl⟩
theorem dat_step {n t k : Nat} {gs : List Gt} {g : Gt} (h : gs[k]? = some g) : (g.kind = 1 → dat n t gs (k + 1) = dat n t gs k + t) ∧ (g.kind = 5 → dat n t gs (k + 1) = dat n t gs k + n * t) ∧ (g.kind ≠ 1 → g.kind ≠ 5 → dat n t gs (k + 1) = dat n t gs k) := by
  rw [dat_succ h]
  unfold gdraw
  refine ⟨fun h1 => by rw [if_pos h1], fun h5 => by rw [if_neg (by omega), if_pos h5], fun h1 h5 => by rw [if_neg h1, if_neg h5]; rfl⟩
set_option maxRecDepth 100000 in
set_option maxHeartbeats 1000000 in
theorem eNeed_any (v : Value) (gs : List Gt) (os : List Int) (n t : Int) (w : World) (h : IsCirc w v gs os) :
    Calls Try.prog 15 #[v, .int .i64 n, .int .i64 t] w fun e w' => NeedRes w e w' (needN gs os n t) (crewE gs os n t) := by
  have KC := Lib.hid h
  obtain ⟨vg, vo, rfl, hg, ho⟩ := h
  have KG := Lib.hid hg
  obtain ⟨A1, c1, rfl, hc1, hm1, hl1, hu1, hr1⟩ := hg
  obtain ⟨A2, c2, rfl, hc2, hm2, hl2, hu2, hr2⟩ := ho
  have BB := Lib.hid (((Below.refl w.heap.size w).alloc (Nat.le_refl _) (.cells #[.slice A1 gs.length c1, .slice A2 os.length c2] 25)).alloc (by rw [size_alloc]; omega) (.cells #[.int .i64 n] 3))
  have BX := Lib.hid ((Box.new w 25 [.slice A1 gs.length c1, .slice A2 os.length c2]).alloc (.cells #[.int .i64 n] 3))
  have BN := Lib.hid (Box.new (w.alloc (.cells #[.slice A1 gs.length c1, .slice A2 os.length c2] 25)) 3 [.int .i64 n])
  clear hu1 hr1 hm1 hu2 hr2 hm2
  obtain ⟨N, hN⟩ : ∃ N, N = needN gs os n t := ⟨_, rfl⟩
  obtain ⟨E, hE⟩ : ∃ E, E = crewE gs os n t := ⟨_, rfl⟩
  rw [← hN, ← hE]
  suffices hgoal : ∀ Post : Ending → World → Prop, (∀ e w', NeedRes w e w' N E → Post e w') → Calls Try.prog 15 #[.agg #[.slice A1 gs.length c1, .slice A2 os.length c2], .int .i64 n, .int .i64 t] w Post from hgoal _ fun e w' h => h
  intro Post hp
  have HP := Lib.hid hp
  clear hp
  have HNE := Lib.hid hN
  have HEE := Lib.hid hE
  clear hN hE
  by_cases h0 : circE gs os = 0
  · have HE := Lib.hid h0
    have OK := Lib.hid (circE_zero.1 h0)
    have hg30 := OK.out.g2
    have HI := Lib.hid (show inputsL gs os = whoseL gs from if_pos h0)
    have HBAD := Lib.hid (show crewE gs os n t ≠ 0 → N = 0 ∧ E = crewE gs os n t from fun h => ⟨by rw [HNE.out]; unfold needN; rw [if_neg h], HEE.out⟩)
    have HARG := Lib.hid (show ¬ crewP n t → N = 0 ∧ E = 1 from fun h => by
      have e : crewE gs os n t = 1 := by unfold crewE; rw [if_pos h0, if_neg h]
      obtain ⟨q1, q2⟩ := HBAD.out (by omega)
      exact ⟨q1, by omega⟩)
    clear h0
    go_enter Try.func15, Try.ntmps15
    go_wp2_with fail
    refine (cInputs_any _ gs os _ (KC.out.below BB.out)).mono ?_
    rintro e W1 ⟨v, rfl, ho1, hb1⟩
    rw [HI.out] at ho1
    rw [HE.out]
    obtain ⟨Aw, cw', hv, _, _⟩ := own_form ho1.1
    subst hv
    have B1 := Lib.hid (below_trans BB.out hb1 BB.out.size)
    have BX1 := Lib.hid (BX.out.below hb1)
    have BN1 := Lib.hid (BN.out.below hb1)
    have KW1 := Lib.hid ho1.is
    clear hb1 ho1
    try dsimp only
    have hcn := BN1.out.cell (i := 0) rfl
    rw [size_alloc] at hcn
    have hsz1 := B1.out.size
    by_cases h1 : t < 0
    · obtain ⟨q1, q2⟩ := HARG.out (by unfold crewP; omega)
      have hd1 : decide (t < 0) = true := by simp; omega
      subst q1 q2
      go_wp2_with fail
      exact HP.out _ _ ⟨rfl, B1.out⟩
    have hd1 : decide (t < 0) = false := by simp; omega
    by_cases h2 : t > 4
    · obtain ⟨q1, q2⟩ := HARG.out (by unfold crewP; omega)
      have hd2 : decide (t > 4) = true := by simp; omega
      subst q1 q2
      go_wp2_with fail
      exact HP.out _ _ ⟨rfl, B1.out⟩
    have hd2 : decide (t > 4) = false := by simp; omega
    by_cases h3 : n < 1
    · obtain ⟨q1, q2⟩ := HARG.out (by unfold crewP; omega)
      have hd3 : decide (n < 1) = true := by simp; omega
      subst q1 q2
      go_wp2_with fail
      exact HP.out _ _ ⟨rfl, B1.out⟩
    have hd3 : decide (n < 1) = false := by simp; omega
    by_cases h4 : n > 9
    · obtain ⟨q1, q2⟩ := HARG.out (by unfold crewP; omega)
      have hd4 : decide (n > 9) = true := by simp; omega
      subst q1 q2
      go_wp2_with fail
      exact HP.out _ _ ⟨rfl, B1.out⟩
    have hd4 : decide (n > 9) = false := by simp; omega
    by_cases h5 : n < 2 * t + 1
    · obtain ⟨q1, q2⟩ := HARG.out (by unfold crewP; omega)
      have hd5 : decide (n < 2 * t + 1) = true := by simp; omega
      subst q1 q2
      go_wp2_with fail
      exact HP.out _ _ ⟨rfl, B1.out⟩
    have hd5 : decide (n < 2 * t + 1) = false := by simp; omega
    have HCREW := Lib.hid (show crewP n t by unfold crewP; omega)
    have C := hasInts_any 77 (.pointer (some ⟨w.heap.size + 1, 0, none⟩)) (over n) _ (whoseL gs) W1 KW1.out (fun z => eOver_any z n _ _ hcn) (fun x y W => by kernel_rfl)
    cases ha : (whoseL gs).any (over n) with
    | true =>
      rw [ha] at C
      have e1 : crewE gs os n t = 1 := by unfold crewE; rw [if_pos HE.out, if_pos HCREW.out, if_pos ha]
      obtain ⟨q1, q2⟩ := HBAD.out (by omega)
      rw [e1] at q2
      subst q1 q2
      have CC := Lib.hid C
      clear C e1 ha
      go_wp2_with (go_at_call 76; refine CC.out.mono ?_; rintro e w2 ⟨rfl, rfl⟩; try dsimp only)
      exact HP.out _ _ ⟨rfl, B1.out⟩
    | false =>
      rw [ha] at C
      have e1 : crewE gs os n t = 0 := by unfold crewE; rw [if_pos HE.out, if_pos HCREW.out, if_neg (by rw [ha]; decide)]
      have q2 := HEE.out
      rw [e1] at q2
      have q1 := HNE.out
      unfold needN at q1
      rw [if_pos e1] at q1
      obtain ⟨m, hm⟩ : ∃ m : Nat, n = (m : Int) := ⟨n.toNat, by omega⟩
      obtain ⟨T, hT⟩ : ∃ T : Nat, t = (T : Int) := ⟨t.toNat, by omega⟩
      subst hm hT
      rw [Int.toNat_natCast, Int.toNat_natCast] at q1
      subst q1 q2
      have CC := Lib.hid C
      have hc0 := BX1.out.cell (i := 0) rfl
      have BN2 := Lib.hid (show Box W1 (w.heap.size + 1) 3 [.int .i64 m] from by have := BN1.out; rw [size_alloc] at this; exact this)
      have hlt1 := BN2.out.lt
      clear C e1 ha HBAD HARG HNE HEE
      go_wp2_with (go_at_call 76; refine CC.out.mono ?_; rintro e w2 ⟨rfl, rfl⟩; try dsimp only)
      clear hd1 hd2 hd3 hd4 hd5 hcn hc0
      have hmT : (m : Int) * (T : Int) = ((m * T : Nat) : Int) := by simp
      have hmT2 : m * T ≤ 36 := Nat.mul_le_mul (show m ≤ 9 by omega) (show T ≤ 4 by omega)
      have hmT0 : 0 ≤ (m : Int) * (T : Int) ∧ (m : Int) * (T : Int) ≤ 36 := by rw [hmT]; omega
      have HMT := Lib.hid hmT
      clear hmT hmT2
      go_loopw [10, 50] (fun x i wr => ∃ k : Nat, k ≤ gs.length ∧ i = .int .i64 k ∧ x = .int .i64 (dat m T gs k) ∧ Below W1.heap.size W1 wr) (fun _ i _ => gs.length - (intOf i).toNat)
      case atStart => exact ⟨0, Nat.zero_le _, rfl, rfl, Below.refl _ _⟩
      case round =>
        obtain ⟨k, hk, rfl, rfl, hbel⟩ := hrel
        have BEL := Lib.hid hbel
        have hsz := hbel.size
        have hcn := (BN2.out.under BEL.out (by omega)).cell (i := 0) rfl
        have hdl : dat m T gs k ≤ 36 * k := dat_small (by omega) (by omega) k
        clear hbel
        by_cases hlt : k < gs.length
        · obtain ⟨A, c, hA, _, _, _, hu, hr⟩ := ((KG.out.below B1.out).below BEL.out)
          injection hA with hA1 hA2 hA3
          subst hA1 hA3
          obtain ⟨b1', o1, g, rfl, hb1, hgk, hgo, ha1, ha2, ha3, ha4⟩ := gate_at hr hu hlt
          obtain ⟨hs1, hs5, hs0⟩ := dat_step (n := m) (t := T) hgk
          have hBG : Below W1.heap.size W1 (wr.alloc (.cells #[.int .i64 g.kind, .int .i64 g.a, .int .i64 g.b, .int .u64 g.n] 53)) := BEL.out.alloc hsz _
          have BG := Lib.hid hBG
          clear hr hu hgk hgo hb1 hBG
          by_cases hk1 : g.kind = 1
          · have e := Lib.hid (hs1 hk1)
            rw [hk1] at BG
            clear hs1 hs5 hs0
            go_wp2_with fail
            exact ⟨⟨k + 1, by omega, by go_num, by rw [e.out]; rfl, BG.out⟩, by simp [intOf] <;> omega⟩
          · by_cases hk5 : g.kind = 5
            · have e := Lib.hid (hs5 hk5)
              rw [hk5] at BG
              have hcn2 := (BN2.out.under BG.out (by omega)).cell (i := 0) rfl
              clear hs1 hs5 hs0 hcn
              go_wp2_with fail
              exact ⟨⟨k + 1, by omega, by go_num, by rw [e.out, HMT.out]; rfl, BG.out⟩, by simp [intOf] <;> omega⟩
            · have e := Lib.hid (hs0 hk1 hk5)
              clear hs1 hs5 hs0
              go_wp2_with fail
              exact ⟨⟨k + 1, by omega, by go_num, by rw [e.out], BG.out⟩, by simp [intOf] <;> omega⟩
        · obtain rfl : k = gs.length := by omega
          go_wp2_with fail
          exact HP.out _ _ ⟨rfl, B1.out.trans (BEL.out.mono (by omega))⟩
  · have HB := Lib.hid (show N = 0 ∧ E = circE gs os from by
      have e : crewE gs os n t = circE gs os := by unfold crewE; rw [if_neg h0]
      rw [HNE.out, HEE.out]; unfold needN; rw [e, if_neg h0]; exact ⟨rfl, rfl⟩)
    have hbb : (circE gs os != 0) = true := by rw [bne_iff_ne]; exact h0
    go_enter Try.func15, Try.ntmps15
    go_wp2_with fail
    refine (cInputs_any _ gs os _ (KC.out.below BB.out)).mono ?_
    rintro e W1 ⟨v, rfl, ho1, hb1⟩
    have B1 := Lib.hid (below_trans BB.out hb1 BB.out.size)
    clear hb1 ho1
    try dsimp only
    obtain ⟨q1, q2⟩ := HB.out
    subst q1 q2
    go_wp2_with fail
    exact HP.out _ _ ⟨rfl, B1.out⟩
end Go.Proofs.Ytcdeoccpbdncmaa
