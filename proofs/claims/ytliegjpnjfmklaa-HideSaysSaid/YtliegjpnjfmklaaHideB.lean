/- The document's blind polynomial: what it returns. -/
import Derived.Test.YtliegjpnjfmklaaHideR
namespace Go.Proofs.Ytliegjpnjfmklaa
open Go.RowKit Croft

theorem bl_lit' (z : Int) : toFs [1, ofF (- inv (toF z))] = blF z := by
  simp only [toFs, List.map, toF_ofF, toF_one, blF]
set_option maxRecDepth 100000 in
set_option maxHeartbeats 1000000 in
theorem rBlind_any (va : Value) (zs : List Int) (j : Nat) (w : World) (h1 : IsInts w va zs) (hp : partyB zs = true) :
    Calls Try.prog 51 #[va, .int .i64 j] w fun e w' => e = .returned (.int .u64 (ofF (co (blindP zs) j))) ∧ Below w.heap.size w w' := by
  have KA := Lib.hid h1
  have HP := Lib.hid hp
  have HL := Lib.hid (party_len hp)
  suffices hgoal : ∀ Post : Ending → World → Prop, (∀ e w', (e = .returned (.int .u64 (ofF (co (blindP zs) j))) ∧ Below w.heap.size w w') → Post e w') → Calls Try.prog 51 #[va, .int .i64 j] w Post from hgoal _ fun e w' h => h
  intro Post hpost
  have HPO := Lib.hid hpost
  obtain ⟨A1, c1, rfl, hc1, hm1, hl1, hu1, hr1⟩ := h1
  clear hu1 hr1 hm1 hp hpost
  have LO := Lib.hid (lit_own w w.heap.size [1] (by simp [U64]) (by simp) (Nat.le_refl _))
  go_enter Try.func51, Try.ntmps51
  go_wp2_with fail
  go_loopw [5, 6] (fun v i wr => ∃ k : Nat, k ≤ zs.length ∧ i = .int .i64 k ∧ OwnNums wr w.heap.size v (ofFs (blindP (zs.take k))) ∧ Below w.heap.size w wr) (fun _ i _ => zs.length - (intOf i).toNat)
  case atStart => exact ⟨0, Nat.zero_le _, rfl, LO.out, (Below.refl _ _).alloc (Nat.le_refl _) _⟩
  case round =>
    obtain ⟨k, hk, rfl, hown, hbel⟩ := hrel
    have KO := Lib.hid hown
    have BEL := Lib.hid hbel
    have hsz := hbel.size
    clear hown hbel LO
    by_cases hlt : k < zs.length
    · obtain ⟨A, c, hA, _, _, _, hu, hr⟩ := KA.out.below BEL.out
      injection hA with hA1 hA2 hA3
      subst hA1 hA3
      obtain ⟨b1, o1, z, rfl, hb1, hgk, hz64, hca⟩ := ints_at hr hu hlt
      have hz := party_in HP.out z (List.mem_of_getElem? hgk)
      have HT := Lib.hid (blind_take hgk)
      have HNZ := Lib.hid (small_ne hz)
      have HF := Lib.hid (blindP_facts (zs.take k) (fun y hy => party_ne HP.out y (List.mem_of_mem_take hy)))
      have hbl : (blindP (zs.take k)).length ≤ 10 := by rw [HF.out.2, List.length_take]; have := HL.out; omega
      have HBL := Lib.hid hbl
      obtain ⟨hz1, hz9⟩ := hz
      clear hu hr hgk hb1 hbl
      go_wp2_with fail
      refine (rInv_any _ _ (show U64 z from ⟨by omega, by omega⟩)).mono ?_
      rintro e w' ⟨rfl, rfl⟩
      try dsimp only
      go_wp2_with fail
      refine (rNeg_any _ _ (U64.of_ofF _)).mono ?_
      rintro e w' ⟨rfl, rfl⟩
      rw [toF_ofF]
      try dsimp only
      go_wp2_with fail
      have L1 := Lib.hid (lit_nums wr [1, ofF (- inv (toF z))] (by intro y hy; simp only [List.mem_cons, List.not_mem_nil, or_false] at hy; rcases hy with rfl | rfl <;> first | exact ⟨by omega, by omega⟩ | exact U64.of_ofF _) (by simp))
      have hb := (Below.refl wr.heap.size wr).alloc (Nat.le_refl _) (.cells (u64s [1, ofF (- inv (toF z))]).toArray 40)
      have KO2 := Lib.hid (KO.out.is.below hb)
      have B2 := Lib.hid (below_trans BEL.out hb hsz)
      clear hb
      change Calls _ _ _ (wr.alloc (.cells (u64s [1, ofF (- inv (toF z))]).toArray 40)) _
      generalize hW : wr.alloc (.cells (u64s [1, ofF (- inv (toF z))]).toArray 40) = W5 at *
      clear hW
      refine (rProduct_any _ _ _ _ _ KO2.out L1.out (by rw [ofFs_length]; have := HBL.out; omega) (by simp)).mono ?_
      rintro e W6 ⟨v6, rfl, ho, hb⟩
      rw [toFs_ofFs, bl_lit', HF.out.1, blF_normal HNZ.out, ← HT.out] at ho
      have K6 := Lib.hid (ho.less B2.out.size)
      have B6 := Lib.hid (below_trans B2.out hb B2.out.size)
      clear ho hb
      try dsimp only
      go_wp2_with fail
      exact ⟨⟨k + 1, by omega, by go_num, K6.out, B6.out⟩, by simp [intOf] <;> omega⟩
    · obtain rfl : k = zs.length := by omega
      have HTE := Lib.hid (show zs.take zs.length = zs from List.take_length)
      rw [HTE.out] at KO
      have HF := Lib.hid (blindP_facts zs (party_ne HP.out))
      obtain ⟨B, hB⟩ : ∃ B, B = blindP zs := ⟨_, rfl⟩
      rw [← hB] at KO HPO HF
      clear hB
      have hBl : B.length = zs.length + 1 := HF.out.2
      have hzl := HL.out
      obtain ⟨gp, cp, hv, hgp1, hgp2⟩ := own_slice KO.out.1 (by rw [ofFs_length]; omega)
      rw [ofFs_length] at hv
      subst hv
      have HBLn := Lib.hid hBl
      by_cases hjl : j < B.length
      · have hcell := KO.out.cell (ofFs_get (get_co hjl))
        have hB9 : B.length ≤ 10 := by omega
        clear hBl hzl
        go_wp2_with fail
        exact HPO.out _ _ ⟨rfl, BEL.out⟩
      · have hd1 : decide ((j : Int) < (B.length : Int)) = false := by simp; omega
        have hd2 : decide (j < B.length) = false := by simp; omega
        have HZ := Lib.hid (show co B j = 0 from co_of_le (by omega))
        clear hBl hzl
        go_wp2_with fail
        exact HPO.out _ _ ⟨by rw [HZ.out]; rfl, BEL.out⟩
end Go.Proofs.Ytliegjpnjfmklaa
