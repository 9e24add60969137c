/- Package poly's product, the reference's sum: what each call returns. -/
import Derived.Test.YtljpangeodgbkaaDoorPolyV
namespace Go.Proofs.YtljpangeodgbkaaDoor
open Go.RowKit Croft

theorem co_out {A : List F} {k : Nat} (h : A.length ≤ k) : co A k = 0 := co_of_le h
def sumL (A B : List F) (k : Nat) : List F := (List.range k).map fun i => co A i + co B i
theorem sumL_next (A B : List F) (k : Nat) : ofFs (sumL A B (k + 1)) = ofFs (sumL A B k) ++ [ofF (co A k + co B k)] := by
  simp [sumL, List.range_succ, ofFs]
theorem sumL_norm (A B : List F) (k : Nat) (hA : A.length ≤ k) (hB : B.length ≤ k) : pnorm (sumL A B k) = pnorm (padd A B) := by
  apply pnorm_ext
  intro i
  rw [co_add]
  rcases Nat.lt_or_ge i k with h | h
  · exact co_get (by simp [sumL, h])
  · rw [co_of_le (by simp [sumL]; exact h), co_of_le (l := A) (by omega), co_of_le (l := B) (by omega), F_az]
theorem ofFs_set (l : List F) (k : Nat) (a : F) : (ofFs l).set k (ofF a) = ofFs (l.set k a) := by simp [ofFs, List.map_set]
theorem pmulS_none {A B : List F} (h : A.length = 0 ∨ B.length = 0) : pmulS A B = [] := by
  unfold pmulS
  rw [if_pos]
  exact h.imp List.eq_nil_of_length_eq_zero List.eq_nil_of_length_eq_zero
set_option maxRecDepth 100000 in
theorem pmul_any (va vb : Value) (xs ys : List Int) (w : World) (h1 : IsNums w va xs) (h2 : IsNums w vb ys) (hx : xs.length ≤ 1000000) (hy : ys.length ≤ 1000000) :
    Calls Tryd.prog 97 #[va, vb] w fun e w' => ∃ v, e = .returned v ∧ OwnNums w' w.heap.size v (ofFs (pmulS (toFs xs) (toFs ys))) ∧ Below w.heap.size w w' := by
  obtain ⟨A1, c1, rfl, hc1, hm1, hl1, hu1, hr1⟩ := h1
  obtain ⟨A2, c2, rfl, hc2, hm2, hl2, hu2, hr2⟩ := h2
  by_cases ha : xs.length = 0
  · have HE := Lib.hid (pmulS_none (A := toFs xs) (B := toFs ys) (.inl (by rw [toFs_length]; exact ha)))
    have he1 : ((xs.length : Int) == 0) = true := by rw [beq_iff_eq]; omega
    clear ha
    go_enter Tryd.func97, Tryd.ntmps97
    go_wp2_with fail
    go_ret
    exact ⟨_, rfl, by rw [HE.out]; exact OwnNums.nil _ _, Below.refl _ _⟩
  by_cases hb : ys.length = 0
  · have HE := Lib.hid (pmulS_none (A := toFs xs) (B := toFs ys) (.inr (by rw [toFs_length]; exact hb)))
    have he1 : ((xs.length : Int) == 0) = false := by rw [beq_eq_false_iff_ne]; omega
    have he2 : ((ys.length : Int) == 0) = true := by rw [beq_iff_eq]; omega
    clear ha hb
    go_enter Tryd.func97, Tryd.ntmps97
    go_wp2_with fail
    go_ret
    exact ⟨_, rfl, by rw [HE.out]; exact OwnNums.nil _ _, Below.refl _ _⟩
  have HF := Lib.hid (mulL_full (toFs xs) (toFs ys) (by rintro h; have := congrArg List.length h; rw [toFs_length] at this; exact ha this) (by rintro h; have := congrArg List.length h; rw [toFs_length] at this; exact hb this))
  have he1 : ((xs.length : Int) == 0) = false := by rw [beq_eq_false_iff_ne]; omega
  have he2 : ((ys.length : Int) == 0) = false := by rw [beq_eq_false_iff_ne]; omega
  obtain ⟨N, hN⟩ : ∃ N, N = (toFs xs).length + (toFs ys).length - 1 := ⟨_, rfl⟩
  have hN1 : N + 1 ≤ xs.length + ys.length := by rw [hN, toFs_length, toFs_length]; omega
  have hN2 : xs.length + ys.length ≤ N + 1 := by rw [hN, toFs_length, toFs_length]; omega
  have HZ := Lib.hid (mulL_zero (toFs xs) (toFs ys))
  have HN := Lib.hid hN
  clear ha hb hN
  go_enter Tryd.func97, Tryd.ntmps97
  go_wp2_with (refine wpList_make_nums rfl _ _ rfl w.heap.size _ N rfl rfl (by omega) (by omega) (Nat.le_refl _) ?_)
  intro w1 ho1 hb1
  have HO1 := Lib.hid (show OwnNums w1 w.heap.size (.slice (some ⟨w.heap.size, 0, none⟩) N N) (ofFs (mulL (toFs xs) (toFs ys) 0 0)) by
    rw [HZ.out, ← HN.out]
    have : ofFs (List.replicate N 0) = List.replicate N 0 := by simp [ofFs, ofF_zero]
    rw [this]; exact ho1)
  have HB1 := Lib.hid hb1
  clear ho1 hb1
  go_wp2_with fail
  go_loopw [27] (fun i wr => ∃ k : Nat, k ≤ xs.length ∧ i = .int .i64 k ∧ OwnNums wr w.heap.size (.slice (some ⟨w.heap.size, 0, none⟩) N N) (ofFs (mulL (toFs xs) (toFs ys) k 0)) ∧ Below w.heap.size w wr) (fun i _ => xs.length - (intOf i).toNat)
  case atStart => exact ⟨0, Nat.zero_le _, rfl, HO1.out, HB1.out⟩
  case round =>
    obtain ⟨k, hk, rfl, hown, hbel⟩ := hrel
    have HO := Lib.hid hown
    have HBE := Lib.hid hbel
    clear HO1 HB1
    by_cases hlt : k < xs.length
    · obtain ⟨b1, o1, x, rfl, hb1, hx1, hux, hcx⟩ := nums_at (hr1.below hbel) hu1 hlt
      have HX := Lib.hid (co_toFs hx1)
      have hx0 := hux.1
      obtain ⟨wo, hwo⟩ : ∃ wo, wo = wr := ⟨_, rfl⟩
      subst hwo
      clear hx1 hb1 hown hbel hr1
      go_wp2_with fail
      clear hcx
      go_loopw [34] (fun i wr => ∃ j : Nat, j ≤ ys.length ∧ i = .int .i64 j ∧ OwnNums wr w.heap.size (.slice (some ⟨w.heap.size, 0, none⟩) N N) (ofFs (mulL (toFs xs) (toFs ys) k j)) ∧ Below w.heap.size w wr) (fun i _ => ys.length - (intOf i).toNat)
      case atStart => exact ⟨0, Nat.zero_le _, rfl, HO.out, HBE.out⟩
      case round =>
        obtain ⟨j, hj, rfl, hown, hbel⟩ := hrel
        by_cases hlt2 : j < ys.length
        · obtain ⟨b2, o2, y, rfl, hb2, hy1, huy, hcy⟩ := nums_at (hr2.below hbel) hu2 hlt2
          have hy0 := huy.1
          have hkj : k + j < N := by omega
          have hcell := hown.cell (ofFs_get (mulL_get (toFs xs) (toFs ys) k j (i := k + j) (by rw [← HN.out]; exact hkj)))
          have hfr := hown.frozen (k + j)
          have HS := Lib.hid (hown.set_ (k + j) (U64.of_ofF (mulG (toFs xs) (toFs ys) k j (k + j) + toF x * toF y)))
          rw [ofFs_set, ← HX.out, ← co_toFs hy1, mulL_set] at HS
          rw [HX.out, co_toFs hy1] at HS
          have HB2 := Lib.hid (hbel.setCell (p := ⟨w.heap.size, k + j, none⟩) (Nat.le_refl _) (.int .u64 (ofF (mulG (toFs xs) (toFs ys) k j (k + j) + toF x * toF y))))
          clear hy1 hb2 hown hbel hr2 HO HBE
          generalize mulG (toFs xs) (toFs ys) k j (k + j) = G at *
          go_wp2_with fail
          refine wp_region_quiet_tail 15 (by kernel_rfl) (by kernel_rfl) ?_
          simp only [List.take_succ_cons, List.take_zero, List.drop_succ_cons, List.drop_zero]
          repeat (go_big_quiet_step ((first | exact quietL (fMul_any _ _ _ hx0 hy0) | exact quietL (fAdd_any _ _ _ (ofF_nonneg _) (ofF_nonneg _)))))
          refine wpQuiet_nil ?_
          intro nq
          go_wp2_with fail
          simp only [toF_ofF]
          refine ⟨⟨j + 1, by omega, by go_num, HS.out.drewN nq, below_drewN HB2.out nq⟩, by simp [intOf]; omega⟩
        · have HO2 := Lib.hid hown
          have HB2 := Lib.hid hbel
          clear hown hbel
          go_wp2_with fail
          refine ⟨⟨k + 1, by omega, by go_num, ?_, HB2.out⟩, by simp [intOf]; omega⟩
          obtain rfl : j = ys.length := by omega
          rw [← mulL_next, toFs_length]; exact HO2.out
    · clear hown hbel
      go_wp2_with fail
      go_ret
      obtain rfl : k = xs.length := by omega
      have h := HO.out
      rw [← toFs_length xs, HF.out] at h
      exact ⟨_, rfl, h, HBE.out⟩
end Go.Proofs.YtljpangeodgbkaaDoor
