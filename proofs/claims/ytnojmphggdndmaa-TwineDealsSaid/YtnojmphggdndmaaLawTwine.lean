/- The law TwineDeals, walked. -/
import Derived.Test.YtnojmphggdndmaaTwineZ
namespace Go.Proofs.Ytnojmphggdndmaa
open Go.RowKit Croft

theorem twineDeals_a (secret t : Int) (vd : Value) (ds : List Int) (n : Int) (w : World) (h1 : IsNums w vd ds) (ht : ¬ (0 ≤ t ∧ t ≤ 4)) :
    Calls Try.prog 9 #[.int .u64 secret, .int .i64 t, vd, .int .i64 n] w fun e w' => e = .returned (.bool true) ∧ Below w.heap.size w w' := by
  have HT := Lib.hid ht
  obtain ⟨A1, c1, rfl, hc1, hm1, hl1, hu1, hr1⟩ := h1
  clear ht hu1 hr1 hm1
  go_enter Try.func9, Try.ntmps9
  go_wp2_with fail
  refine (pNeed_bad _ _ HT.out).mono ?_
  rintro e w' ⟨rfl, rfl⟩
  try dsimp only
  go_wp2_with fail
  refine (pDeal2_badt _ _ _ _ _ HT.out).mono ?_
  rintro e W1 ⟨v, vs, rfl, ho, hb⟩
  obtain ⟨A, c, hv, _, _⟩ := own_form ho.outer
  subst hv
  simp only [List.length_nil]
  try dsimp only
  have BEL := Lib.hid hb
  clear ho hb
  go_wp2_with fail
  refine (rIn_any _ _ _ _).mono ?_
  rintro e w' ⟨rfl, rfl⟩
  rw [decide_eq_false HT.out]
  try dsimp only
  go_wp2_with fail
  go_ret
  exact ⟨rfl, BEL.out⟩
set_option maxRecDepth 100000 in
theorem twineDeals_b (secret t : Int) (vd : Value) (ds : List Int) (n : Int) (w : World) (h1 : IsNums w vd ds) (ht : 0 ≤ t ∧ t ≤ 4) (h : ¬ ((ds.length : Int) = needN t ∧ t + 1 ≤ n ∧ n ≤ 9)) :
    Calls Try.prog 9 #[.int .u64 secret, .int .i64 t, vd, .int .i64 n] w fun e w' => e = .returned (.bool true) ∧ Below w.heap.size w w' := by
  have HT := Lib.hid ht
  have KD := Lib.hid h1
  have H := Lib.hid h
  obtain ⟨A1, c1, rfl, hc1, hm1, hl1, hu1, hr1⟩ := h1
  obtain ⟨N, hN⟩ : ∃ N, N = needN t := ⟨_, rfl⟩
  rw [← hN] at h
  have HN := Lib.hid hN
  have ht1 := ht.1
  have ht2 := ht.2
  have hnn : (N != N) = false := by simp
  by_cases k1 : (ds.length : Int) = N
  · have b1 : ((ds.length : Int) != N) = false := by rw [bne_eq_false_iff_eq]; exact k1
    have h2 : ¬ (t + 1 ≤ n ∧ n ≤ 9) := fun hh => h ⟨k1, hh⟩
    have H2 := Lib.hid h2
    clear h h2 ht hN hu1 hr1 hm1 k1
    go_enter Try.func9, Try.ntmps9
    go_wp2_with fail
    refine (pNeed_ok _ _ HT.out).mono ?_
    rintro e w' ⟨rfl, rfl⟩
    rw [← HN.out]
    try dsimp only
    go_wp2_with fail
    refine (pDeal2_bad _ _ _ _ _ _ KD.out HT.out H.out).mono ?_
    rintro e W1 ⟨v, vs, rfl, ho, hb⟩
    obtain ⟨A, c, hv, _, _⟩ := own_form ho.outer
    subst hv
    simp only [List.length_nil]
    try dsimp only
    have BEL := Lib.hid hb
    clear ho hb
    go_wp2_with fail
    refine (rIn_any _ _ _ _).mono ?_
    rintro e w' ⟨rfl, rfl⟩
    rw [decide_eq_true HT.out]
    try dsimp only
    go_wp2_with fail
    refine (rTwoNeed_ok _ _ HT.out).mono ?_
    rintro e w' ⟨rfl, rfl⟩
    rw [← HN.out]
    try dsimp only
    go_wp2_with fail
    refine (rIn_any _ _ _ _).mono ?_
    rintro e w' ⟨rfl, rfl⟩
    rw [decide_eq_false H2.out]
    try dsimp only
    go_wp2_with fail
    go_ret
    exact ⟨rfl, BEL.out⟩
  · have b1 : ((ds.length : Int) != N) = true := by rw [bne_iff_ne]; exact k1
    clear h ht hN hu1 hr1 hm1 k1
    go_enter Try.func9, Try.ntmps9
    go_wp2_with fail
    refine (pNeed_ok _ _ HT.out).mono ?_
    rintro e w' ⟨rfl, rfl⟩
    rw [← HN.out]
    try dsimp only
    go_wp2_with fail
    refine (pDeal2_bad _ _ _ _ _ _ KD.out HT.out H.out).mono ?_
    rintro e W1 ⟨v, vs, rfl, ho, hb⟩
    obtain ⟨A, c, hv, _, _⟩ := own_form ho.outer
    subst hv
    simp only [List.length_nil]
    try dsimp only
    have BEL := Lib.hid hb
    clear ho hb
    go_wp2_with fail
    refine (rIn_any _ _ _ _).mono ?_
    rintro e w' ⟨rfl, rfl⟩
    rw [decide_eq_true HT.out]
    try dsimp only
    go_wp2_with fail
    refine (rTwoNeed_ok _ _ HT.out).mono ?_
    rintro e w' ⟨rfl, rfl⟩
    rw [← HN.out]
    try dsimp only
    go_wp2_with fail
    go_ret
    exact ⟨rfl, BEL.out⟩
set_option maxRecDepth 100000 in
theorem twineDeals_c (secret : Int) (t n : Nat) (vd : Value) (ds : List Int) (w : World) (hs : U64 secret) (h1 : IsNums w vd ds) (ht : t ≤ 4) (hl : (ds.length : Int) = needN t) (hn1 : t + 1 ≤ n) (hn2 : n ≤ 9) :
    Calls Try.prog 9 #[.int .u64 secret, .int .i64 t, vd, .int .i64 n] w fun e w' => e = .returned (.bool true) ∧ Below w.heap.size w w' := by
  have HT := Lib.hid (show 0 ≤ (t : Int) ∧ (t : Int) ≤ 4 by omega)
  have H2 := Lib.hid (show (t : Int) + 1 ≤ n ∧ (n : Int) ≤ 9 by omega)
  have KD := Lib.hid h1
  have HL := Lib.hid hl
  obtain ⟨A1, c1, rfl, hc1, hm1, hl1, hu1, hr1⟩ := h1
  obtain ⟨N, hN⟩ : ∃ N, N = needN t := ⟨_, rfl⟩
  rw [← hN] at hl
  have HN := Lib.hid hN
  have hnn : (N != N) = false := by simp
  have b1 : ((ds.length : Int) != N) = false := by rw [bne_eq_false_iff_eq]; exact hl
  clear hl hN hu1 hr1 hm1
  go_enter Try.func9, Try.ntmps9
  go_wp2_with fail
  refine (pNeed_ok _ _ HT.out).mono ?_
  rintro e w' ⟨rfl, rfl⟩
  rw [← HN.out]
  try dsimp only
  go_wp2_with fail
  refine (pDeal2_ok _ t n _ _ _ hs KD.out ht HL.out hn1 hn2).mono ?_
  rintro e W1 ⟨v, vs, rfl, ho, hb⟩
  have K1 := Lib.hid ho.is
  have BEL := Lib.hid hb
  have hsz := hb.size
  clear ho hb
  try dsimp only
  go_wp2_with fail
  refine (rIn_any _ _ _ _).mono ?_
  rintro e w' ⟨rfl, rfl⟩
  rw [decide_eq_true HT.out]
  try dsimp only
  go_wp2_with fail
  refine (rTwoNeed_ok _ _ HT.out).mono ?_
  rintro e w' ⟨rfl, rfl⟩
  rw [← HN.out]
  try dsimp only
  go_wp2_with fail
  refine (rIn_any _ _ _ _).mono ?_
  rintro e w' ⟨rfl, rfl⟩
  rw [decide_eq_true H2.out]
  try dsimp only
  go_wp2_with fail
  refine (rTwoDeal_ok _ t n _ _ _ hs (KD.out.below BEL.out) ht HL.out hn2).mono ?_
  rintro e W2 ⟨v2, vs2, rfl, ho, hb⟩
  have K2 := Lib.hid ho.is
  replace K1 := Lib.hid (K1.out.below hb)
  replace BEL := Lib.hid (below_trans BEL.out hb hsz)
  clear ho hb
  try dsimp only
  go_wp2_with fail
  refine (sameRows_any _ _ _ _ K1.out K2.out).mono ?_
  rintro e W3 ⟨rfl, hb⟩
  replace BEL := Lib.hid (below_trans BEL.out hb BEL.out.size)
  clear hb
  try dsimp only
  go_wp2_with fail
  go_ret
  exact ⟨rfl, BEL.out⟩
theorem twineDeals_any (secret t : Int) (vd : Value) (ds : List Int) (n : Int) (w : World) (hs : U64 secret) (h1 : IsNums w vd ds) :
    Calls Try.prog 9 #[.int .u64 secret, .int .i64 t, vd, .int .i64 n] w fun e w' => e = .returned (.bool true) ∧ Below w.heap.size w w' := by
  by_cases ht : 0 ≤ t ∧ t ≤ 4
  · by_cases h : (ds.length : Int) = needN t ∧ t + 1 ≤ n ∧ n ≤ 9
    · obtain ⟨tn, rfl⟩ := Int.eq_ofNat_of_zero_le ht.1
      obtain ⟨nn, rfl⟩ := Int.eq_ofNat_of_zero_le (show 0 ≤ n by omega)
      exact twineDeals_c secret tn nn vd ds w hs h1 (by omega) h.1 (by omega) (by omega)
    · exact twineDeals_b secret t vd ds n w h1 ht h
  · exact twineDeals_a secret t vd ds n w h1 ht
end Go.Proofs.Ytnojmphggdndmaa
