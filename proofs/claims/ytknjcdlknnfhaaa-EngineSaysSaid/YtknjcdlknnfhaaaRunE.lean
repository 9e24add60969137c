/- A run that is refused: its errors. -/
import Derived.Test.YtknjcdlknnfhaaaEngU
namespace Go.Proofs.Ytknjcdlknnfhaaa
open Go.RowKit Croft

def runE2 (gs : List Gt) (os : List Int) (n t : Int) (li ld : Nat) : Int :=
  if crewE gs os n t = 0 then if li = (whoseL gs).length then if (ld : Int) = eNeedN gs os n t then 0 else 1 else 5 else crewE gs os n t
set_option maxRecDepth 100000 in
set_option maxHeartbeats 2000000 in
theorem eRun_bad (v vi vd : Value) (gs : List Gt) (os ins ds : List Int) (n t : Int) (w : World) (h : IsCirc w v gs os) (hi : IsNums w vi ins) (hd : IsNums w vd ds) (h0 : runE2 gs os n t ins.length ds.length ≠ 0) :
    Calls Try.prog 11 #[v, .int .i64 n, .int .i64 t, vi, vd] w fun e w' => e = .returned (.tuple #[.slice none 0 0, .slice none 0 0, .int .i64 (runE2 gs os n t ins.length ds.length)]) ∧ Below w.heap.size w w' := by
  have KC := Lib.hid h
  obtain ⟨vg, vo, rfl, hg, ho⟩ := h
  obtain ⟨A1, c1, rfl, hc1', hm1, hl1, hu1, hr1⟩ := hg
  obtain ⟨A2, c2, rfl, hc2', hm2, hl2, hu2, hr2⟩ := ho
  obtain ⟨A3, c3, rfl, hc3', hm3, hl3, hu3, hr3⟩ := hi
  obtain ⟨A4, c4, rfl, hc4', hm4, hl4, hu4, hr4⟩ := hd
  have BB := Lib.hid ((Below.refl w.heap.size w).alloc (Nat.le_refl _) (.cells #[.slice A1 gs.length c1, .slice A2 os.length c2] 25))
  have BX := Lib.hid (Box.new w 25 [.slice A1 gs.length c1, .slice A2 os.length c2])
  obtain ⟨R, hR⟩ : ∃ R, R = runE2 gs os n t ins.length ds.length := ⟨_, rfl⟩
  rw [← hR] at h0 ⊢
  suffices hgoal : ∀ Post : Ending → World → Prop, (∀ w', Below w.heap.size w w' → Post (.returned (.tuple #[.slice none 0 0, .slice none 0 0, .int .i64 R])) w') → Calls Try.prog 11 #[.agg #[.slice A1 gs.length c1, .slice A2 os.length c2], .int .i64 n, .int .i64 t, .slice A3 ins.length c3, .slice A4 ds.length c4] w Post from hgoal _ fun w' h => ⟨rfl, h⟩
  intro Post hp
  have HP := Lib.hid hp
  clear hp hu1 hr1 hm1 hu2 hr2 hm2 hu3 hr3 hm3 hu4 hr4 hm4
  obtain ⟨E, hE⟩ : ∃ E, E = crewE gs os n t := ⟨_, rfl⟩
  obtain ⟨K, hK⟩ : ∃ K, K = eNeedN gs os n t := ⟨_, rfl⟩
  have HE := Lib.hid hE
  have HK := Lib.hid hK
  by_cases hc : E = 0
  · have hck : circE gs os = 0 := by
      have := (crewE_zero.1 (hE.symm.trans hc)).1
      exact circE_zero.2 this
    have HC := Lib.hid hck
    have HI := Lib.hid (show inputsL gs os = whoseL gs from if_pos hck)
    have HR := Lib.hid (show R = if ins.length = (whoseL gs).length then if (ds.length : Int) = K then 0 else 1 else 5 by rw [hR]; unfold runE2; rw [if_pos (hE.symm.trans hc), ← hK])
    subst hc
    have H0 := Lib.hid h0
    clear hE hK hR h0 hck
    go_enter Try.func11, Try.ntmps11
    go_wp2_with fail
    refine (eNeed_any _ gs os n t _ (KC.out.below BB.out)).mono ?_
    rintro e W1 ⟨rfl, hb1⟩
    rw [← HE.out, ← HK.out]
    have B1 := Lib.hid (below_trans BB.out hb1 BB.out.size)
    have BX1 := Lib.hid (BX.out.below hb1)
    clear hb1
    try dsimp only
    have hc0 := BX1.out.cell (i := 0) rfl
    have hc0b := BX1.out.cell (i := 1) rfl
    go_wp2_with fail
    refine (cInputs_any _ gs os _ (KC.out.below B1.out)).mono ?_
    rintro e W2 ⟨v, rfl, ho1, hb2⟩
    rw [HI.out] at ho1
    rw [HC.out]
    obtain ⟨Aw, cw', hv, _, _⟩ := own_form ho1.1
    subst hv
    have B2 := Lib.hid (below_trans B1.out hb2 B1.out.size)
    clear hb2 ho1 hc0 hc0b
    try dsimp only
    by_cases h1 : ins.length = (whoseL gs).length
    · have hbi : ((ins.length : Int) != ((whoseL gs).length : Int)) = false := by rw [bne_eq_false_iff_eq]; omega
      have H1 := Lib.hid h1
      clear h1
      have hne : ¬ (ds.length : Int) = K := fun e => H0.out (by rw [HR.out, if_pos H1.out, if_pos e])
      have hbd : ((ds.length : Int) != K) = true := by rw [bne_iff_ne]; exact hne
      have HR1 := Lib.hid (show R = 1 by rw [HR.out, if_pos H1.out, if_neg hne])
      clear hne
      go_wp2_with fail
      go_ret3
      have hp := HP.out
      rw [HR1.out] at hp
      exact hp _ B2.out
    · have hbi : ((ins.length : Int) != ((whoseL gs).length : Int)) = true := by rw [bne_iff_ne]; omega
      have HR1 := Lib.hid (show R = 5 by rw [HR.out, if_neg h1])
      clear h1
      go_wp2_with fail
      go_ret3
      have hp := HP.out
      rw [HR1.out] at hp
      exact hp _ B2.out
  · have hb : (E != 0) = true := by rw [bne_iff_ne]; exact hc
    have HR := Lib.hid (show R = E by rw [hR]; unfold runE2; rw [if_neg (by rw [← hE]; exact hc), hE])
    rw [HR.out] at HP
    clear hE hK hR h0 hc
    go_enter Try.func11, Try.ntmps11
    go_wp2_with fail
    refine (eNeed_any _ gs os n t _ (KC.out.below BB.out)).mono ?_
    rintro e W1 ⟨rfl, hb1⟩
    rw [← HE.out]
    have B1 := Lib.hid (below_trans BB.out hb1 BB.out.size)
    clear hb1
    try dsimp only
    go_wp2_with fail
    go_ret3
    exact HP.out _ B1.out
end Go.Proofs.Ytknjcdlknnfhaaa
