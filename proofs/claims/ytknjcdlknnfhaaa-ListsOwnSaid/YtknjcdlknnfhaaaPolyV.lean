/- Products and sums of polynomials: what each call returns. -/
import Derived.Test.YtknjcdlknnfhaaaPolyW
namespace Go.Proofs.Ytknjcdlknnfhaaa
open Go.RowKit Croft

theorem fsum_stop (A B : List F) (k i : Nat) (hi : A.length ≤ i) (h : i ≤ k + 1) : fsum i (fun p => co A p * co B (k - p)) = co (pmulS A B) k := by
  rw [co_mulS]
  symm
  exact fsum_more h (fun p hp _ => by rw [co_of_le (l := A) (by omega), F_zm])
theorem fsum_stop' (A B : List F) (k i : Nat) (h : i = k + 1) : fsum i (fun p => co A p * co B (k - p)) = co (pmulS A B) k := by rw [co_mulS, h]
theorem pmulS_take_next (A B : List F) {k : Nat} (hk : k < (pmulS A B).length) : ofFs ((pmulS A B).take (k + 1)) = ofFs ((pmulS A B).take k) ++ [ofF (co (pmulS A B) k)] := by
  rw [List.take_add_one, get_co hk]
  simp [ofFs]
set_option maxRecDepth 100000 in
theorem rProduct_any (va vb : Value) (xs ys : List Int) (w : World) (h1 : IsNums w va xs) (h2 : IsNums w vb ys) (hx : xs.length ≤ 1000000) (hy : ys.length ≤ 1000000) :
    Calls Try.prog 102 #[va, vb] w fun e w' => ∃ v, e = .returned v ∧ OwnNums w' w.heap.size v (ofFs (pmulS (pnorm (toFs xs)) (pnorm (toFs ys)))) ∧ Below w.heap.size w w' := by
  have KB := Lib.hid h2
  have hlx := pnorm_length (toFs xs)
  have hly := pnorm_length (toFs ys)
  rw [toFs_length] at hlx hly
  obtain ⟨A, hA⟩ : ∃ A, pnorm (toFs xs) = A := ⟨_, rfl⟩
  obtain ⟨B, hB⟩ : ∃ B, pnorm (toFs ys) = B := ⟨_, rfl⟩
  rw [hA] at hlx ⊢
  rw [hB] at hly ⊢
  have EA := Lib.hid hA
  have EB := Lib.hid hB
  clear hA hB
  go_enter Try.func102, Try.ntmps102
  go_wp2_with fail
  refine (rNormal_any _ _ _ h1).mono ?_
  rintro e w1 ⟨v1, rfl, ho1, hb1⟩
  replace KB := Lib.hid (KB.out.below hb1)
  rw [EA.out] at ho1
  have HO1 := Lib.hid ho1
  have HB1 := Lib.hid hb1
  clear ho1 hb1 h1 h2
  go_wp2_with fail
  refine (rNormal_any _ _ _ KB.out).mono ?_
  rintro e w2 ⟨v2, rfl, ho2, hb2⟩
  rw [EB.out] at ho2
  have HA := (HO1.out.is).below hb2
  have HBb := ho2.is
  have HB := Lib.hid (below_trans HB1.out hb2 HB1.out.size)
  clear HO1 HB1 KB ho2 hb2
  obtain ⟨A1, c1, rfl, hc1, hm1, hl1, hu1, hr1⟩ := HA
  obtain ⟨A2, c2, rfl, hc2, hm2, hl2, hu2, hr2⟩ := HBb
  rw [ofFs_length] at hc1 hl1 hc2 hl2
  rw [ofFs_length, ofFs_length]
  have hsz0 := HB.out.size
  by_cases ha : A.length = 0
  · have HE := Lib.hid (show pmulS A B = [] by unfold pmulS; rw [if_pos (.inl (List.eq_nil_of_length_eq_zero ha))])
    have he1 : ((A.length : Int) == 0) = true := by rw [beq_iff_eq]; omega
    clear ha
    go_wp2_with fail
    go_ret
    exact ⟨_, rfl, by rw [HE.out]; exact OwnNums.nil _ _, HB.out⟩
  by_cases hb : B.length = 0
  · have HE := Lib.hid (show pmulS A B = [] by unfold pmulS; rw [if_pos (.inr (List.eq_nil_of_length_eq_zero hb))])
    have he1 : ((A.length : Int) == 0) = false := by rw [beq_eq_false_iff_ne]; omega
    have he2 : ((B.length : Int) == 0) = true := by rw [beq_iff_eq]; omega
    clear ha hb
    go_wp2_with fail
    go_ret
    exact ⟨_, rfl, by rw [HE.out]; exact OwnNums.nil _ _, HB.out⟩
  have HL := Lib.hid (show (pmulS A B).length = A.length + B.length - 1 by
    rw [pmulS_length, if_neg (by rintro (h | h) <;> (subst h; simp at *))])
  have he1 : ((A.length : Int) == 0) = false := by rw [beq_eq_false_iff_ne]; omega
  have he2 : ((B.length : Int) == 0) = false := by rw [beq_eq_false_iff_ne]; omega
  have ha1 : 1 ≤ A.length := by omega
  have hb1 : 1 ≤ B.length := by omega
  clear ha hb
  go_wp2_with fail
  go_loopw [5, 6] (fun v i wr => ∃ k : Nat, k ≤ A.length + B.length - 1 ∧ i = .int .i64 k ∧ OwnNums wr w2.heap.size v (ofFs ((pmulS A B).take k)) ∧ Below w2.heap.size w2 wr) (fun _ i _ => A.length + B.length - 1 - (intOf i).toNat)
  case atStart => exact ⟨0, Nat.zero_le _, rfl, OwnNums.nil _ _, Below.refl _ _⟩
  case round =>
    obtain ⟨k, hk, rfl, hown, hbel2⟩ := hrel
    have k1 := hr1.below hbel2
    have k2 := hr2.below hbel2
    have HO := Lib.hid hown
    have HBE2 := Lib.hid hbel2
    have hsz2 := hbel2.size
    clear hown hbel2 hr1 hr2
    by_cases hlt : k < A.length + B.length - 1
    · have hk1 : (k : Int) < (A.length : Int) + (B.length : Int) - 1 := by omega
      obtain ⟨wo, hwo⟩ : ∃ wo, wo = wr := ⟨_, rfl⟩
      subst hwo
      go_wp2_with fail
      go_loopw [7, 8] (fun n i wr => ∃ (p nd : Nat), p ≤ A.length ∧ p ≤ k + 1 ∧ i = .int .i64 p ∧ n = .int .u64 (ofF (fsum p (fun q => co A q * co B (k - q)))) ∧ wr = wo.drewN nd) (fun _ i _ => k + 1 - (intOf i).toNat)
      case atStart => exact ⟨0, 0, Nat.zero_le _, Nat.zero_le _, rfl, rfl, rfl⟩
      case round =>
        obtain ⟨p, nd, hp1, hp2, rfl, rfl, hw⟩ := hrel
        have j1 := k1.drewn hw
        have j2 := k2.drewn hw
        have HW := Lib.hid hw
        clear hw k1 k2
        by_cases hpk : p ≤ k
        · by_cases hpa : p < A.length
          · by_cases hkb : k - p < B.length
            · obtain ⟨b1, o1, x, rfl, hb1, hx, hux, hcx⟩ := nums_at j1 hu1 (show p < (ofFs A).length by rw [ofFs_length]; exact hpa)
              obtain ⟨b2, o2, y, rfl, hb2, hy, huy, hcy⟩ := nums_at j2 hu2 (show k - p < (ofFs B).length by rw [ofFs_length]; exact hkb)
              have HX := Lib.hid (show co A p = toF x by have := co_toFs hx; rwa [toFs_ofFs] at this)
              have HY := Lib.hid (show co B (k - p) = toF y by have := co_toFs hy; rwa [toFs_ofFs] at this)
              have e1 : ((k : Int) - (p : Int)).toNat = k - p := by omega
              have hkb2 : (k : Int) - (p : Int) < (B.length : Int) := by omega
              have hkb3 : 0 ≤ (k : Int) - (p : Int) := by omega
              clear hx hy j1 j2 hb1 hb2
              go_wp2_with fail
              go_quiet ((first | exact quietL (rMul_any _ _ _ hux huy) | exact quietL (rAdd_any _ _ _ (U64.of_ofF _) (U64.of_ofF _))))
              go_wp2_with fail
              simp only [toF_ofF]
              refine ⟨⟨p + 1, _, by omega, by omega, by go_num, ?_, drewn_more HW.out _⟩, by simp [intOf] <;> omega⟩
              rw [fsum, HX.out, HY.out]
            · have hkb2 : ¬ (k : Int) - (p : Int) < (B.length : Int) := by omega
              have HY := Lib.hid (show co B (k - p) = 0 from co_of_le (by omega))
              clear j1 j2 hkb
              go_wp2_with fail
              refine ⟨⟨p + 1, _, by omega, by omega, by go_num, ?_, HW.out⟩, by simp [intOf] <;> omega⟩
              rw [fsum, HY.out, F_mz, F_az]
          · have HK := Lib.hid (fsum_stop A B k p (by omega) hp2)
            clear j1 j2
            have HOr := Lib.hid (HO.out.drewn HW.out)
            have hszr : wo.heap.size ≤ wr.heap.size := (below_drewn (B := 0) HW.out).size
            go_wp2_with (at_builtin; refine wpList_push rfl _ _ rfl w2.heap.size _ _ (ofF (fsum p (fun q => co A q * co B (k - q)))) wr.heap.size 1 rfl (HOr.out.alloc _) rfl (new_cell _ _ _) (U64.of_ofF _) (by rw [ofFs_length]; simp only [List.length_take]; omega) (by simp; omega) ?_)
            intro v' w' hown' hbel'
            go_wp2_with fail
            refine ⟨⟨k + 1, by omega, by go_num, ?_, ((HBE2.out.trans (below_drewn HW.out)).alloc (by omega) _).trans hbel'⟩, by simp [intOf] <;> omega⟩
            rw [pmulS_take_next A B (by rw [HL.out]; exact hlt), ← HK.out]; exact hown'
        · have HK := Lib.hid (fsum_stop' A B k p (by omega))
          clear j1 j2
          have HOr := Lib.hid (HO.out.drewn HW.out)
          have hszr : wo.heap.size ≤ wr.heap.size := (below_drewn (B := 0) HW.out).size
          go_wp2_with (at_builtin; refine wpList_push rfl _ _ rfl w2.heap.size _ _ (ofF (fsum p (fun q => co A q * co B (k - q)))) wr.heap.size 1 rfl (HOr.out.alloc _) rfl (new_cell _ _ _) (U64.of_ofF _) (by rw [ofFs_length]; simp only [List.length_take]; omega) (by simp; omega) ?_)
          intro v' w' hown' hbel'
          go_wp2_with fail
          refine ⟨⟨k + 1, by omega, by go_num, ?_, ((HBE2.out.trans (below_drewn HW.out)).alloc (by omega) _).trans hbel'⟩, by simp [intOf] <;> omega⟩
          rw [pmulS_take_next A B (by rw [HL.out]; exact hlt), ← HK.out]; exact hown'
    · have hk1 : ¬ (k : Int) < (A.length : Int) + (B.length : Int) - 1 := by omega
      go_wp2_with fail
      go_ret
      have e : k = (pmulS A B).length := by rw [HL.out]; omega
      exact ⟨_, rfl, by have := HO.out.less HB.out.size; rwa [e, List.take_length] at this, below_trans HB.out HBE2.out HB.out.size⟩
end Go.Proofs.Ytknjcdlknnfhaaa
