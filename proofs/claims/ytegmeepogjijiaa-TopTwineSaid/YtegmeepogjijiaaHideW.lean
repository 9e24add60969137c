/- Package hide: what each call returns. -/
import Derived.Test.YtegmeepogjijiaaHideF
import Derived.Test.YtegmeepogjijiaaHideP
import Derived.Test.YtegmeepogjijiaaFill
import Derived.Test.YtegmeepogjijiaaShamK
namespace Go.Proofs.Ytegmeepogjijiaa
open Go.RowKit Croft

theorem party_in {zs : List Int} (h : partyB zs = true) : ∀ z ∈ zs, 1 ≤ z ∧ z ≤ 9 := (partyB_true.1 h).1
theorem party_ne {zs : List Int} (h : partyB zs = true) : ∀ z ∈ zs, toF z ≠ 0 := fun z hz => small_ne (party_in h z hz)
theorem party_len {zs : List Int} (h : partyB zs = true) : zs.length ≤ 9 := by
  have h1 : AtsOk (zs.map fun z => (z, 0)) 9 := by
    unfold AtsOk
    obtain ⟨h2, h3⟩ := partyB_true.1 h
    refine ⟨fun s hs => ?_, by rw [List.map_map]; simpa [Function.comp_def] using h3⟩
    obtain ⟨z, hz, rfl⟩ := List.mem_map.1 hs
    exact h2 z hz
  have := h1.few
  simpa using this
theorem blind_take {zs : List Int} {k : Nat} {z : Int} (hg : zs[k]? = some z) : blindP (zs.take (k + 1)) = pmulS (blindP (zs.take k)) (blF z) := by
  rw [List.take_add_one, hg]
  exact blindP_snoc _ _
theorem F_zsub (x : F) : (0 : F) - x = - x := by grind
theorem bl_lit (z : Int) : toFs [1, ofF (toF 0 - inv (toF z))] = blF z := by
  simp only [toFs, List.map, toF_ofF, toF_one, toF_zero, blF, F_zsub]
set_option maxRecDepth 100000 in
set_option maxHeartbeats 1000000 in
theorem hBlind_any (va : Value) (zs : List Int) (n : Nat) (w : World) (h1 : IsInts w va zs) (hp : partyB zs = true) (hn : n ≤ 1000) :
    Calls Try.prog 94 #[va, .int .i64 n] w fun e w' => ∃ v, e = .returned v ∧ OwnNums w' w.heap.size v (fillL (ofFs (blindP zs)) n) ∧ Below w.heap.size w w' := by
  have KA := Lib.hid h1
  have HP := Lib.hid hp
  have HL := Lib.hid (party_len hp)
  suffices hgoal : ∀ Post : Ending → World → Prop, (∀ e w', (∃ v, e = .returned v ∧ OwnNums w' w.heap.size v (fillL (ofFs (blindP zs)) n) ∧ Below w.heap.size w w') → Post e w') → Calls Try.prog 94 #[va, .int .i64 n] w Post from hgoal _ fun e w' h => h
  intro Post hpost
  have HPO := Lib.hid hpost
  obtain ⟨A1, c1, rfl, hc1, hm1, hl1, hu1, hr1⟩ := h1
  clear hu1 hr1 hm1 hp hpost
  have LO := Lib.hid (lit_own w w.heap.size [1] (by simp [U64]) (by simp) (Nat.le_refl _))
  go_enter Try.func94, Try.ntmps94
  go_wp2_with fail
  go_loopw [5, 14] (fun v i wr => ∃ k : Nat, k ≤ zs.length ∧ i = .int .i64 k ∧ OwnNums wr w.heap.size v (ofFs (blindP (zs.take k))) ∧ Below w.heap.size w wr) (fun _ i _ => zs.length - (intOf i).toNat)
  case atStart => exact ⟨0, Nat.zero_le _, rfl, LO.out, (Below.refl _ _).alloc (Nat.le_refl _) _⟩
  case round =>
    obtain ⟨k, hk, rfl, hown, hbel⟩ := hrel
    have KO := Lib.hid hown
    have BEL := Lib.hid hbel
    have hsz := hbel.size
    clear hown hbel LO
    by_cases hlt : k < zs.length
    · obtain ⟨A, c, hA, _, _, _, hu, hr⟩ := KA.out.below BEL.out
      injection hA with hA1 hA2 hA3
      subst hA1 hA3
      obtain ⟨b1, o1, z, rfl, hb1, hgk, hz64, hca⟩ := ints_at hr hu hlt
      have hz := party_in HP.out z (List.mem_of_getElem? hgk)
      have HT := Lib.hid (blind_take hgk)
      have HNZ := Lib.hid (small_ne hz)
      have HF := Lib.hid (blindP_facts (zs.take k) (fun y hy => party_ne HP.out y (List.mem_of_mem_take hy)))
      have hbl : (blindP (zs.take k)).length ≤ 10 := by rw [HF.out.2, List.length_take]; have := HL.out; omega
      have HBL := Lib.hid hbl
      obtain ⟨hz1, hz9⟩ := hz
      clear hu hr hgk hb1 hbl
      go_wp2_with fail
      refine (fInv_any _ _ (by omega)).mono ?_
      rintro e w' ⟨rfl, rfl⟩
      try dsimp only
      go_wp2_with fail
      refine (fSub_any _ _ _ (by omega) (ofF_nonneg _)).mono ?_
      rintro e w' ⟨rfl, rfl⟩
      rw [toF_ofF]
      try dsimp only
      go_wp2_with fail
      have L1 := Lib.hid (lit_nums wr [1, ofF (toF 0 - inv (toF z))] (by intro y hy; simp only [List.mem_cons, List.not_mem_nil, or_false] at hy; rcases hy with rfl | rfl <;> first | exact ⟨by omega, by omega⟩ | exact U64.of_ofF _) (by simp))
      have hb := (Below.refl wr.heap.size wr).alloc (Nat.le_refl _) (.cells (u64s [1, ofF (toF 0 - inv (toF z))]).toArray 23)
      have KO2 := Lib.hid (KO.out.is.below hb)
      have B2 := Lib.hid (below_trans BEL.out hb hsz)
      clear hb
      change Calls _ _ _ (wr.alloc (.cells (u64s [1, ofF (toF 0 - inv (toF z))]).toArray 23)) _
      generalize hW : wr.alloc (.cells (u64s [1, ofF (toF 0 - inv (toF z))]).toArray 23) = W5 at *
      clear hW
      refine (pMul_small _ _ _ _ _ KO2.out L1.out (by rw [ofFs_length]; have := HBL.out; omega) (by simp)).mono ?_
      rintro e W6 ⟨v6, rfl, ho, hb⟩
      rw [toFs_ofFs, bl_lit, HF.out.1, blF_normal HNZ.out, ← HT.out] at ho
      have HF2 := (blindP_facts (zs.take (k + 1)) (fun y hy => party_ne HP.out y (List.mem_of_mem_take hy))).2
      have hl40 : (blindP (zs.take (k + 1))).length ≤ 40 := by rw [HF2, List.length_take]; have := HL.out; omega
      unfold mulRes at ho
      rw [if_neg (by omega)] at ho
      rw [toFs_ofFs, bl_lit, HF.out.1, blF_normal HNZ.out, ← HT.out, show mulErr (blindP (zs.take (k + 1))) = 0 from if_neg (by omega)]
      have K6 := Lib.hid (ho.less B2.out.size)
      have B6 := Lib.hid (below_trans B2.out hb B2.out.size)
      clear ho hb HF2 hl40
      try dsimp only
      go_wp2_with fail
      exact ⟨⟨k + 1, by omega, by go_num, K6.out, B6.out⟩, by simp [intOf] <;> omega⟩
    · obtain rfl : k = zs.length := by omega
      have HTE := Lib.hid (show zs.take zs.length = zs from List.take_length)
      rw [HTE.out] at KO
      have HF := Lib.hid (blindP_facts zs (party_ne HP.out))
      obtain ⟨xs, hxs⟩ : ∃ xs, xs = ofFs (blindP zs) := ⟨_, rfl⟩
      rw [← hxs] at KO HPO
      have hxl : xs.length = zs.length + 1 := by rw [hxs, ofFs_length]; exact HF.out.2
      have hzl := HL.out
      obtain ⟨gp, cp, hv, hgp1, hgp2⟩ := own_slice KO.out.1 (by omega)
      subst hv
      have HXS := Lib.hid hxs
      have HXL := Lib.hid hxl
      clear hxs hgp1 hgp2 hxl hzl
      go_wp2_with (refine wpList_make_nums rfl _ _ rfl wr.heap.size _ n rfl rfl rfl (by omega) (Nat.le_refl _) ?_)
      intro W1 ho hb
      have BX := Lib.hid ho.box
      have B1 := Lib.hid hb
      have KA1 := Lib.hid (KO.out.is.below hb)
      obtain ⟨Z, hZ⟩ : ∃ Z, Z = u64s (List.replicate n 0) := ⟨_, rfl⟩
      obtain ⟨C, hC⟩ : ∃ C, C = u64s (xs.take n) := ⟨_, rfl⟩
      rw [← hZ] at BX
      have HZ := Lib.hid hZ
      have HC := Lib.hid hC
      have HCL := Lib.hid (show C.length = Nat.min xs.length n by rw [hC, u64s_length, List.length_take]; exact Nat.min_comm _ _)
      clear ho hb hZ hC
      go_wp2_with (refine wpList_copy_splice (o := ⟨some 37, _, _, _, _, _⟩) rfl _ _ _ _ rfl 23 Try.underlying22 size_one (some ⟨wr.heap.size, 0, none⟩) (some ⟨gp, 0, none⟩) n n xs.length cp rfl rfl wr.heap.size 0 Z 23 BX.out C HCL.out ?c1 ?c2 ?c3 wr.heap.size wr B1.out (Nat.le_refl _) ?_)
      case c1 =>
        intro h0
        obtain ⟨A, c, hA, _, _, _, hu, hr⟩ := KA1.out
        injection hA with hA1 hA2 hA3
        subst hA1
        obtain ⟨b, o, hbo, hb, hc⟩ := hr.at_ (j := 0) (by rw [u64s_length, HXL.out]; omega)
        intro j v hj
        have hj2 := (List.getElem?_eq_some_iff.1 hj).1
        rw [HCL.out] at hj2
        have hjx : j < xs.length := Nat.lt_of_lt_of_le hj2 (Nat.min_le_left _ _)
        have hjn : j < n := Nat.lt_of_lt_of_le hj2 (Nat.min_le_right _ _)
        injection hbo with hbo
        injection hbo with hb1 hb2
        subst hb1 hb2
        have hcj := hc j (by rw [u64s_length]; exact hjx)
        rw [Nat.zero_add] at hcj
        rw [hcj, ← hj, HC.out, u64s_get, u64s_get, List.getElem?_take, if_pos hjn]
      case c2 => rw [HCL.out, HZ.out, u64s_length, List.length_replicate, Nat.zero_add]; exact Nat.min_le_right _ _
      case c3 => rw [HC.out]; exact u64s_one _
      intro W2 hB hBel
      have KB := Lib.hid (show Box W2 wr.heap.size 23 (u64s (fillL xs n)) from by
        have h := hB.out
        rw [HZ.out, HC.out, splice_fill] at h
        exact h)
      have B2 := Lib.hid (below_trans BEL.out hBel hsz)
      clear hB hBel
      go_wp2_with fail
      have h := KB.out.own (Nat.le_refl _) (by rw [fillL_length]; omega) (fillL_u64 (by rw [HXS.out]; exact ofF_u64s _) n)
      rw [fillL_length] at h
      exact HPO.out _ _ ⟨_, rfl, h.less hsz, B2.out⟩
end Go.Proofs.Ytegmeepogjijiaa
