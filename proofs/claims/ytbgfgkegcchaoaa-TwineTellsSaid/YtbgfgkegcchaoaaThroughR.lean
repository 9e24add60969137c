/- The document's way through points: what it returns. -/
import Derived.Test.YtbgfgkegcchaoaaThroughW
import Derived.Test.YtbgfgkegcchaoaaLagr
namespace Go.Proofs.Ytbgfgkegcchaoaa
open Go.RowKit Croft

theorem pts_get {l : List (Int × Int)} {k : Nat} {a y : Int} (h : l[k]? = some (a, y)) : (ptsF l)[k]? = some (toF a, toF y) := by unfold ptsF; rw [List.getElem?_map, h]; rfl
set_option maxRecDepth 100000 in
set_option maxHeartbeats 2000000 in
theorem rThrough_any (va : Value) (l : List (Int × Int)) (w : World) (h1 : IsShares w va l) (h : l.length ≤ 40) (hok : AtsOk l 2147483646) :
    Calls Try.prog 151 #[va] w fun e w' => ∃ v Q, e = .returned v ∧ Interp (ptsF l) Q ∧ OwnNums w' w.heap.size v (ofFs Q) ∧ Below w.heap.size w w' := by
  obtain ⟨A1, c1, rfl, hc1, hm1, hl1, hu1, hr1⟩ := h1
  have HOK := Lib.hid hok
  have HND := Lib.hid (pts_nodup hok)
  have hpl : (ptsF l).length = l.length := by simp [ptsF]
  have HPL := Lib.hid hpl
  clear hok hpl
  suffices hgoal : ∀ Post : Ending → World → Prop, (∀ e w', (∃ v Q, e = .returned v ∧ Interp (ptsF l) Q ∧ OwnNums w' w.heap.size v (ofFs Q) ∧ Below w.heap.size w w') → Post e w') → Calls Try.prog 151 #[.slice A1 l.length c1] w Post from hgoal _ fun e w' h => h
  intro Post hp
  have HP := Lib.hid hp
  clear hp
  go_enter Try.func151, Try.ntmps151
  go_wp2_with fail
  go_loopw [3, 4] (fun ov i wr => ∃ (k : Nat) (O : List F), k ≤ l.length ∧ i = .int .i64 k ∧ SumAt (ptsF l) k O ∧ OwnNums wr w.heap.size ov (ofFs O) ∧ Below w.heap.size w wr) (fun _ i _ => l.length - (intOf i).toNat)
  case atStart => exact ⟨0, [], Nat.zero_le _, rfl, SumAt.start _, OwnNums.nil _ _, Below.refl _ _⟩
  case round =>
    obtain ⟨i, O, hi, rfl, hsum, hown, hbel⟩ := hrel
    have HS := Lib.hid hsum
    have KO := Lib.hid hown
    have BEL := Lib.hid hbel
    have hsz := hbel.size
    have hr := hr1.below hbel
    have hr0 := Lib.hid hr1
    clear hsum hown hr1
    by_cases hlt : i < l.length
    · obtain ⟨b1, o1, ai, yi, rfl, hb1, hgi, hati, huyi, hc1', hc2⟩ := share_at hr hu1 hlt
      have HGI := Lib.hid hgi
      have HAI := Lib.hid (HOK.out.1 _ (List.mem_of_getElem? hgi))
      clear hr hgi hbel hc1'
      go_wp2_with fail
      have K1 := Lib.hid (show OwnNums (wr.alloc (.cells #[.int .u64 yi] 31)) w.heap.size (.slice (some ⟨wr.heap.size, 0, none⟩) 1 1) [yi] from lit_own wr w.heap.size [yi] (by simpa using huyi) (by simp) hsz)
      replace KO := Lib.hid (KO.out.alloc (.cells #[.int .u64 yi] 31))
      have hal := size_alloc wr (.cells #[.int .u64 yi] 31)
      replace BEL := Lib.hid (BEL.out.alloc hsz (.cells #[.int .u64 yi] 31))
      obtain ⟨wo, hwo⟩ : ∃ wo, wo = wr.alloc (.cells #[.int .u64 yi] 31) := ⟨_, rfl⟩
      rw [← hwo] at K1 KO BEL hal ⊢
      clear hwo hc2
      go_loopw [5, 6] (fun ov i' wr => ∃ (k : Nat) (zs : List Int), k ≤ l.length ∧ i' = .int .i64 k ∧ OneAt (ptsF l) i k (toFs zs) ∧ OwnNums wr w.heap.size ov zs ∧ OwnNums wr w.heap.size u3 (ofFs O) ∧ Below w.heap.size w wr) (fun _ i _ => l.length - (intOf i).toNat)
      case atStart => exact ⟨0, [yi], Nat.zero_le _, rfl, OneAt.start (pts_get HGI.out), K1.out, KO.out, BEL.out⟩
      case round =>
        obtain ⟨k, zs, hk, rfl, hone, hown, hown2, hbel⟩ := hrel
        clear K1 KO BEL
        have HE := Lib.hid hone
        have K1 := Lib.hid hown
        have KO := Lib.hid hown2
        have BEL := Lib.hid hbel
        have hsz2 := hbel.size
        have hr := hr0.out.below hbel
        have hlen := hone.len
        rw [toFs_length] at hlen
        clear hone hown hown2
        by_cases hlt2 : k < l.length
        · by_cases hki : k = i
          · subst hki
            clear hr hbel hlen
            go_wp2_with fail
            exact ⟨⟨k + 1, zs, by omega, by go_num, HE.out.skip, K1.out, KO.out, BEL.out⟩, by simp [intOf] <;> omega⟩
          · obtain ⟨b2, o2, ai', yi', hA, hb2, hgi2, hati2, huyi2, hd1, hd2⟩ := share_at hr hu1 hlt
            obtain ⟨b3, o3, ak, yk, hA3, hb3, hgk, hatk, huyk, hd3, hd4⟩ := share_at hr hu1 hlt2
            injection hA with hA
            injection hA with hA1 hA2
            subst hA1 hA2
            injection hA3 with hA3
            injection hA3 with hA4 hA5
            subst hA4 hA5
            have he3 : (ai', yi') = (ai, yi) := by have := HGI.out; rw [hgi2] at this; injection this
            injection he3 with he4 he5
            subst he4 he5
            have hbne : ((k : Int) == (i : Int)) = false := by rw [beq_eq_false_iff_ne]; omega
            have HGK := Lib.hid hgk
            have HKI := Lib.hid hki
            obtain ⟨ha1, ha2⟩ := HAI.out
            obtain ⟨hk1, hk2⟩ := HOK.out.1 _ (List.mem_of_getElem? hgk)
            dsimp only at ha1 ha2 hk1 hk2
            clear hr hbel hgi2 hgk hd2 hd4 hki hb2 hb3
            have hlz : zs.length ≤ 41 := by split at hlen <;> omega
            clear hlen
            go_wp2_with fail
            go_quiet (fail)
            have K2 := Lib.hid (K1.out.drewN nq)
            have KO2 := Lib.hid (KO.out.drewN nq)
            have BEL2 := Lib.hid (below_drewN BEL.out nq)
            clear K1 KO BEL
            obtain ⟨wo, hwo⟩ : ∃ wo, wo = wr.drewN nq := ⟨_, rfl⟩
            have hsz3 : w.heap.size ≤ wo.heap.size := by rw [hwo]; exact hsz2
            rw [← hwo] at K2 KO2 BEL2 ⊢
            clear hwo hsz2
            go_wp2_with fail
            have huk : U64 ak := ⟨by omega, by omega⟩
            have hui : U64 ai' := ⟨by omega, by omega⟩
            have HUK := Lib.hid huk
            have HUI := Lib.hid hui
            clear huk hui
            refine (rNeg_any _ _ HUK.out).mono ?_
            rintro e w' ⟨rfl, rfl⟩
            try dsimp only
            go_wp2_with fail
            refine (rAdd_any _ _ _ HUI.out (U64.of_ofF _)).mono ?_
            rintro e w' ⟨rfl, rfl⟩
            rw [toF_ofF]
            try dsimp only
            go_wp2_with fail
            refine (rInv_any _ _ (U64.of_ofF _)).mono ?_
            rintro e w' ⟨rfl, rfl⟩
            rw [toF_ofF]
            try dsimp only
            go_wp2_with fail
            refine (rNeg_any _ _ HUK.out).mono ?_
            rintro e w' ⟨rfl, rfl⟩
            try dsimp only
            go_wp2_with fail
            refine (rMul_any _ _ _ (U64.of_ofF _) (U64.of_ofF _)).mono ?_
            rintro e w' ⟨rfl, rfl⟩
            rw [toF_ofF, toF_ofF]
            try dsimp only
            go_wp2_with fail
            obtain ⟨u, hu⟩ : ∃ u, u = inv (toF ai' - toF ak) := ⟨_, rfl⟩
            have hneg : toF ai' + -toF ak = toF ai' - toF ak := by grind
            rw [hneg, ← hu]
            have HU := Lib.hid hu
            clear hu hneg
            refine (rProduct_any _ _ zs [ofF (-toF ak * u), ofF u] _ (by have h := K2.out.is.alloc (.cells #[.int .u64 (ofF (-toF ak * u)), .int .u64 (ofF u)] 31); exact h) (lit_own _ 0 [ofF (-toF ak * u), ofF u] (fun z hz => by simp at hz; rcases hz with rfl | rfl <;> exact U64.of_ofF _) (by simp) (Nat.zero_le _)).is (by omega) (by simp)).mono ?_
            rintro e W5 ⟨v5, rfl, ho, hb⟩
            rw [show toFs [ofF (-toF ak * u), ofF u] = [-toF ak * u, u] by simp only [toFs, List.map, toF_ofF]] at ho
            have K5 := Lib.hid (ho.less (base' := w.heap.size) (by rw [size_alloc]; omega))
            replace KO2 := Lib.hid ((KO2.out.alloc (.cells #[.int .u64 (ofF (-toF ak * u)), .int .u64 (ofF u)] 31)).below hb)
            replace BEL2 := Lib.hid (below_trans (BEL2.out.alloc hsz3 (.cells #[.int .u64 (ofF (-toF ak * u)), .int .u64 (ofF u)] 31)) hb (by rw [size_alloc]; omega))
            clear ho hb
            dsimp only
            go_wp2_with fail
            refine ⟨⟨k + 1, _, by omega, by go_num, ?_, K5.out, KO2.out, BEL2.out⟩, by simp [intOf] <;> omega⟩
            rw [toFs_ofFs, HU.out]
            exact HE.out.step HND.out (pts_get HGI.out) (pts_get HGK.out) HKI.out
        · have hkl : k = l.length := by omega
          subst hkl
          clear hr hbel hlen
          go_wp2_with fail
          refine (rSum_any _ _ _ _ _ KO.out.is K1.out.is).mono ?_
          rintro e W5 ⟨v5, rfl, ho, hb⟩
          rw [toFs_ofFs] at ho
          have K5 := Lib.hid (ho.less hsz2)
          replace BEL := Lib.hid (below_trans BEL.out hb hsz2)
          clear ho hb
          dsimp only
          go_wp2_with fail
          exact ⟨⟨i + 1, _, by omega, by go_num, HS.out.step (by rw [HPL.out]; exact hlt) (by rw [HPL.out]; exact HE.out), K5.out, BEL.out⟩, by simp [intOf] <;> omega⟩
    · clear hr hbel
      go_wp2_with fail
      obtain rfl : i = l.length := by omega
      have h1 := HS.out
      rw [← HPL.out] at h1
      exact HP.out _ _ ⟨_, _, rfl, h1.done, KO.out, BEL.out⟩
end Go.Proofs.Ytbgfgkegcchaoaa
