/- Package poly, and the reference's polynomials: what each call returns. -/
import Derived.Test.YtljpangeodgbkaaDoorLists
namespace Go.Proofs.YtljpangeodgbkaaDoor
open Go.RowKit Croft

theorem peval_nil' (l : List F) (x : F) : ofF (peval (l.drop l.length) x) = 0 := by rw [List.drop_length]; rfl
theorem pAt_any (va : Value) (zs : List Int) (x : Int) (w : World) (h1 : IsNums w va zs) (hx : 0 ≤ x) :
    Calls Tryd.prog 80 #[va, .int .u64 x] w fun e w' => e = .returned (.int .u64 (ofF (peval (toFs zs) (toF x)))) ∧ ∃ n, w' = w.drewN n := by
  obtain ⟨A1, c1, rfl, hc1, hm1, hl1, hu1, hr1⟩ := h1
  go_enter Tryd.func80, Tryd.ntmps80
  go_wp2_with fail
  go_loopw [5, 6] (fun o i wr => ∃ (ii : Int) (n : Nat), -1 ≤ ii ∧ ii < zs.length ∧ i = .int .i64 ii ∧ o = .int .u64 (ofF (peval ((toFs zs).drop (ii + 1).toNat) (toF x))) ∧ wr = w.drewN n) (fun _ i _ => (intOf i + 1).toNat)
  case atStart =>
    refine ⟨(zs.length : Int) - 1, 0, by omega, by omega, rfl, ?_, rfl⟩
    rw [show ((zs.length : Int) - 1 + 1).toNat = zs.length by omega, ← toFs_length zs, peval_nil']
  case round =>
    obtain ⟨ii, n, hi1, hi2, rfl, rfl, hw⟩ := hrel
    have hr := hr1.drewn hw
    have HW := Lib.hid hw
    clear hw hr1
    by_cases h0 : 0 ≤ ii
    · obtain ⟨j, rfl⟩ := Int.eq_ofNat_of_zero_le h0
      have hlt : j < zs.length := by omega
      obtain ⟨b1, o1, z, rfl, hb1, hz, huz, hcz⟩ := nums_at hr hu1 hlt
      have HZ := Lib.hid hz
      have hz0 := huz.1
      have e1 : ((j : Int) + 1).toNat = j + 1 := by omega
      have HD := Lib.hid (peval_drop (toFs_get hz) (toF x))
      rw [e1]
      clear hz hr hb1 e1
      go_wp2_with fail
      go_quiet ((first | exact quietL (fMul_any _ _ _ (ofF_nonneg _) hx) | exact quietL (fAdd_any _ _ _ (ofF_nonneg _) hz0)))
      go_wp2_with fail
      simp only [toF_ofF]
      refine ⟨⟨(j : Int) - 1, _, by omega, by omega, by go_num, ?_, drewn_more HW.out _⟩, by simp [intOf] <;> omega⟩
      rw [show ((j : Int) - 1 + 1).toNat = j by omega, HD.out]
      congr 2; grind
    · go_wp2_with fail
      go_ret
      obtain rfl : ii = -1 := by omega
      exact ⟨rfl, n, HW.out⟩
theorem co_toFs {zs : List Int} {j : Nat} {z : Int} (h : zs[j]? = some z) : co (toFs zs) j = toF z := co_get (toFs_get h)
theorem ofF_ne {a : F} (h : a ≠ 0) : (ofF a != 0) = true := by rw [bne_iff_ne]; exact fun e => h (ofF_eq_zero.1 e)
theorem ofF_ne' {a : F} (h : a ≠ 0) : (ofF a == 0) = false := by rw [beq_eq_false_iff_ne]; exact fun e => h (ofF_eq_zero.1 e)
/-- normal numbers, one more -/
theorem ofFs_take {zs : List Int} {k : Nat} {z : Int} (h : zs[k]? = some z) : ofFs ((toFs zs).take (k + 1)) = ofFs ((toFs zs).take k) ++ [ofF (toF z)] := by
  rw [List.take_add_one, toFs_get h]
  simp [ofFs]
theorem ofFs_u64 (l : List F) : ∀ z ∈ ofFs l, U64 z := ofF_u64s l
theorem pNormal_any (va : Value) (zs : List Int) (w : World) (h1 : IsNums w va zs) :
    Calls Tryd.prog 98 #[va] w fun e w' => ∃ v, e = .returned v ∧ OwnNums w' w.heap.size v (ofFs (pnorm (toFs zs))) ∧ Below w.heap.size w w' := by
  obtain ⟨A1, c1, rfl, hc1, hm1, hl1, hu1, hr1⟩ := h1
  have hm1' : c1 ≤ 9223372036854775807 := by unfold maxLen at hm1; exact hm1
  go_enter Tryd.func98, Tryd.ntmps98
  go_wp2_with fail
  go_loop [3] (fun i => ∃ m : Nat, m ≤ zs.length ∧ i = .int .i64 m ∧ (∀ j, m ≤ j → co (toFs zs) j = 0)) (fun i => (intOf i).toNat)
  case atStart => exact ⟨zs.length, Nat.le_refl _, rfl, fun j hj => co_of_le (by rw [toFs_length]; exact hj)⟩
  case round =>
    obtain ⟨m, hm, rfl, hz⟩ := hrel
    have HZ := Lib.hid hz
    clear hz
    have fin : (m = 0 ∨ co (toFs zs) (m - 1) ≠ 0) → pnorm (toFs zs) = (toFs zs).take m := fun h => pnorm_cut _ m (by rw [toFs_length]; exact hm) HZ.out h
    by_cases h0 : m = 0
    · have FIN := Lib.hid (fin (.inl h0))
      clear fin
      subst h0
      go_wp2_with fail
      go_loopw [4, 26] (fun v i wr => i = .int .i64 0 ∧ v = .slice none 0 0 ∧ wr = w) (fun _ _ _ => 0)
      case atStart => exact ⟨rfl, rfl, rfl⟩
      case round =>
        obtain ⟨rfl, rfl, rfl⟩ := hrel
        go_wp2_with fail
        go_ret
        exact ⟨_, rfl, by rw [FIN.out]; exact OwnNums.nil _ _, Below.refl _ _⟩
    · obtain ⟨j, rfl⟩ : ∃ j, m = j + 1 := ⟨m - 1, by omega⟩
      obtain ⟨b1, o1, z, rfl, hb1, hz, huz, hcz⟩ := nums_at hr1 hu1 (show j < zs.length by omega)
      have hz0 := huz.1
      by_cases hz1 : toF z = 0
      · have hzz : ofF (toF z) = 0 := by rw [hz1]; rfl
        have HZ2 := Lib.hid (show ∀ i, j ≤ i → co (toFs zs) i = 0 from fun i hi => by
          rcases Nat.lt_or_ge j i with h | h
          · exact HZ.out i h
          · obtain rfl : i = j := by omega
            rw [co_toFs hz, hz1])
        clear hz1 hz fin h0 hr1
        go_wp2_with fail
        refine (fNorm_any _ _ hz0).mono ?_
        rintro e w' ⟨rfl, rfl⟩
        rw [hzz]
        go_wp2_with fail
        refine ⟨⟨j, by omega, by go_num, HZ2.out⟩, by simp [intOf] <;> omega⟩
      · have hne := ofF_ne' hz1
        have FIN := Lib.hid (fin (.inr (by rw [show j + 1 - 1 = j by omega, co_toFs hz]; exact hz1)))
        clear fin hz1 hz h0
        go_wp2_with fail
        refine (fNorm_any _ _ hz0).mono ?_
        rintro e w' ⟨rfl, rfl⟩
        clear hcz huz hz0
        go_wp2_with fail
        go_loopw [4, 26] (fun v i wr => ∃ k : Nat, k ≤ j + 1 ∧ i = .int .i64 k ∧ OwnNums wr w.heap.size v (ofFs ((toFs zs).take k)) ∧ Below w.heap.size w wr) (fun _ i _ => j + 1 - (intOf i).toNat)
        case atStart => exact ⟨0, Nat.zero_le _, rfl, OwnNums.nil _ _, Below.refl _ _⟩
        case round =>
          obtain ⟨k, hk, rfl, hown, hbel⟩ := hrel
          have hsz := hbel.size
          by_cases hlt : k < j + 1
          · obtain ⟨b2, o2, y, hA, hb2, hy, huy, hcy⟩ := nums_at (hr1.below hbel) hu1 (show k < zs.length by omega)
            injection hA with hA
            injection hA with hA1 hA2
            subst hA1 hA2
            have hy0 := huy.1
            have HO := Lib.hid hown
            have HBE := Lib.hid hbel
            have HT := Lib.hid (ofFs_take hy)
            clear hy hr1 hb2 hown hbel
            go_wp2_with fail
            refine (fNorm_any _ _ hy0).mono ?_
            rintro e w' ⟨rfl, rfl⟩
            go_wp2_with (at_builtin; refine wpList_push rfl _ _ rfl w.heap.size _ _ (ofF (toF y)) wr.heap.size 1 rfl (HO.out.alloc _) rfl (new_cell _ _ _) (U64.of_ofF _) (by rw [ofFs_length]; simp only [List.length_take, toFs_length]; omega) (by simp; omega) ?_)
            intro v' w' hown' hbel'
            go_wp2_with fail
            refine ⟨⟨k + 1, by omega, by go_num, by rw [HT.out]; exact hown', (HBE.out.alloc hsz _).trans hbel'⟩, by simp [intOf] <;> omega⟩
          · go_wp2_with fail
            go_ret
            obtain rfl : k = j + 1 := by omega
            exact ⟨_, rfl, by rw [FIN.out]; exact hown, hbel⟩
def powN (x : F) (k : Nat) : F := x ^ k
end Go.Proofs.YtljpangeodgbkaaDoor
