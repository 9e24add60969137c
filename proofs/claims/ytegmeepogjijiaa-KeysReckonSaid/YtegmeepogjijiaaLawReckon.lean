/- The law KeysReckon, walked. -/
import Derived.Test.YtegmeepogjijiaaKeyM
import Derived.Deep.CutRange
import Derived.Deep.CutBlock
namespace Go.Proofs.Ytegmeepogjijiaa
open Go.RowKit Go.Maps Croft

theorem nine_shared : Shared 1 0 (toFs (ofFs (sumD 1 (genP 0 [9]) 1))) (toF 9) := by
  have h := genP_shared (N := 1) (T := 0) [9]
  have e : (fsum 1 fun i => toF (([9] : List Int).getD (i * (0 + 1)) 0)) = toF 9 := by decide +kernel
  rwa [e] at h
theorem nine_ofF : ofF (toF 9) = 9 := by decide +kernel
set_option maxRecDepth 100000 in
set_option maxHeartbeats 4000000 in
theorem keysReckon_any (t n : Int) (vd vf : Value) (ds fs : List Int) (av bv : Int) (w : World) (h1 : IsNums w vd ds) (h2 : IsNums w vf fs) (ha : U64 av) (hb : U64 bv) :
    Calls Try.prog 3 #[.int .i64 t, .int .i64 n, vd, vf, .int .u64 av, .int .u64 bv] w fun e w' => e = .returned (.bool true) ∧ Below w.heap.size w w' := by
  have hmm := @run_makeMap Try.prog
  have KD := Lib.hid h1
  have KF := Lib.hid h2
  have HA := Lib.hid ha
  have HB := Lib.hid hb
  have hav := ha.1
  have hbv := hb.1
  clear h1 h2
  suffices hgoal : ∀ Post : Ending → World → Prop, (∀ w', Below w.heap.size w w' → Post (.returned (.bool true)) w') → Calls Try.prog 3 #[.int .i64 t, .int .i64 n, vd, vf, .int .u64 av, .int .u64 bv] w Post from hgoal _ fun w' h => ⟨rfl, h⟩
  intro Post hpo
  have HP := Lib.hid hpo
  clear hpo ha hb
  go_enter Try.func3, Try.ntmps3
  go_wp2_with fail
  refine (kNew_ok 1 0 _ (by omega) (by omega) (by omega) (by omega)).mono ?_
  rintro e W1 ⟨kb0, mb0, V0, rfl, hk1, hb1⟩
  have K1 := Lib.hid hk1
  have B1 := Lib.hid hb1
  have hs1 := hb1.size
  clear hk1 hb1
  try dsimp only
  go_wp2_with fail
  have L90 := lit_nums W1 [9] (by intro z hz; simp only [List.mem_cons, List.not_mem_nil, or_false] at hz; subst hz; exact ⟨by omega, by omega⟩) (by simp)
  simp only [u64s, List.map_cons, List.map_nil, List.length_cons, List.length_nil] at L90
  have hb := (Below.refl W1.heap.size W1).alloc (Nat.le_refl _) (.cells #[Value.int .u64 9] 23)
  have L9 := Lib.hid L90
  have K2 := Lib.hid (K1.out.below hb)
  have B2 := Lib.hid (B1.out.alloc hs1 (.cells #[Value.int .u64 9] 23))
  clear L90 hb K1 B1
  generalize hW : W1.alloc (.cells #[Value.int .u64 9] 23) = W2 at *
  clear hW
  refine (kGen_any _ [9] _ K2.out L9.out (by rfl) (by omega) (by omega) (by omega) (by omega)).mono ?_
  intro e W3 h3
  rw [if_neg (by omega)] at h3
  obtain ⟨rfl, ⟨V3, hk3⟩, hn3⟩ := h3
  have hwk : w.heap.size ≤ kb0 := K2.out.le
  have hwm : w.heap.size ≤ mb0 := K2.out.store.le
  have B3 := Lib.hid (below_near B2.out hn3 hwk hwm B2.out.size)
  have K3 := Lib.hid hk3
  clear hk3 hn3 K2 B2 L9
  try dsimp only
  go_wp2_with fail
  refine (kOpen_ok 1 _ (toF 9) _ K3.out (by unfold I64; omega) (by unfold upd; rw [if_pos (by rfl)]) nine_shared (by omega) (by omega) (by omega)).mono ?_
  rintro e W4 ⟨rfl, hb4⟩
  rw [nine_ofF]
  have B4 := Lib.hid (below_trans B3.out hb4 B3.out.size)
  clear hb4 K3 B3 hwk hwm
  try dsimp only
  go_wp2_with fail
  refine (kCrew_any t n _).mono ?_
  rintro e w' ⟨⟨T, N, hT, hN1, hN2, rfl⟩, rfl⟩
  try dsimp only
  go_wp2_with fail
  refine (kNew_ok N T _ hT (by omega) hN2 hN1).mono ?_
  rintro e W5 ⟨kb, mb, V5, rfl, hk5, hb5⟩
  have K5 := Lib.hid hk5
  have B5 := Lib.hid (below_trans B4.out hb5 B4.out.size)
  have BS := Lib.hid B4.out.size
  clear hk5 hb5 B4
  obtain ⟨m0, hm0⟩ : ∃ m0 : Nat, N * (T + 1) = m0 := ⟨_, rfl⟩
  obtain ⟨m1, hm1⟩ : ∃ m1 : Nat, N * T = m1 := ⟨_, rfl⟩
  have hmul0 : (N : Int) * ((T : Int) + 1) = (m0 : Int) := by rw [← hm0]; simp
  have hmul1 : (N : Int) * (T : Int) = (m1 : Int) := by rw [← hm1]; simp
  have hm0b : m0 ≤ 45 := by rw [← hm0]; exact Nat.le_trans (Nat.mul_le_mul hN2 (show T + 1 ≤ 5 by omega)) (by omega)
  have hm1b : m1 ≤ 36 := by rw [← hm1]; exact Nat.le_trans (Nat.mul_le_mul hN2 hT) (by omega)
  have hwr1 : IntKind.i64.wrap (m1 : Int) = (m1 : Int) := IntWalk.i64_in _ (by omega)
  have HM0 := Lib.hid hm0
  have HM1 := Lib.hid hm1
  clear hm0 hm1
  try dsimp only
  go_wp2_with fail
  refine (kFilled_any _ ds m0 _ (KD.out.below B5.out) (by omega)).mono ?_
  rintro e W6 ⟨vd0, rfl, ho, hb6⟩
  have D0 := Lib.hid ho.is
  have K6 := Lib.hid (K5.out.below hb6)
  have B6 := Lib.hid (below_trans B5.out hb6 B5.out.size)
  clear ho hb6 K5 B5
  try dsimp only
  go_wp2_with fail
  refine (kGen_any _ _ _ K6.out D0.out (by rw [fillL_length, HM0.out]) hT hN2 (by omega) (by omega)).mono ?_
  intro e W7 h7
  rw [if_neg (by omega)] at h7
  obtain ⟨rfl, ⟨V7, hk7⟩, hn7⟩ := h7
  obtain ⟨l1, hl1⟩ : ∃ l1, l1 = ofFs (sumD N (genP T (fillL ds m0)) N) := ⟨_, rfl⟩
  rw [← hl1] at hk7
  obtain ⟨x1, hs1⟩ : ∃ x1, Shared N T (toFs l1) x1 := ⟨_, by rw [hl1]; exact genP_shared _⟩
  have SH1 := Lib.hid hs1
  have hwk : w.heap.size ≤ kb := Nat.le_trans BS.out K6.out.le
  have hwm : w.heap.size ≤ mb := Nat.le_trans BS.out K6.out.store.le
  have B7 := Lib.hid (below_near B6.out hn7 hwk hwm B6.out.size)
  have K7 := Lib.hid (show KeysIs W7 W4.heap.size kb mb N T 1 1 (upd (fun _ => none) 1 (some l1)) V7 from hk7)
  clear hk7 hn7 hl1 hs1 D0 K6 B6
  try dsimp only
  go_wp2_with fail
  refine (kFilled_any _ fs m0 _ (KF.out.below B7.out) (by omega)).mono ?_
  rintro e W8 ⟨vf0, rfl, ho, hb8⟩
  have D0 := Lib.hid ho.is
  have K8 := Lib.hid (K7.out.below hb8)
  have B8 := Lib.hid (below_trans B7.out hb8 B7.out.size)
  clear ho hb8 K7 B7
  try dsimp only
  go_wp2_with fail
  refine (kGen_any _ _ _ K8.out D0.out (by rw [fillL_length, HM0.out]) hT hN2 (by omega) (by omega)).mono ?_
  intro e W9 h9
  rw [if_neg (by omega)] at h9
  obtain ⟨rfl, ⟨V9, hk9⟩, hn9⟩ := h9
  obtain ⟨l2, hl2⟩ : ∃ l2, l2 = ofFs (sumD N (genP T (fillL fs m0)) N) := ⟨_, rfl⟩
  rw [← hl2] at hk9
  obtain ⟨x2, hs2⟩ : ∃ x2, Shared N T (toFs l2) x2 := ⟨_, by rw [hl2]; exact genP_shared _⟩
  have SH2 := Lib.hid hs2
  have B9 := Lib.hid (below_near B8.out hn9 hwk hwm B8.out.size)
  have K9 := Lib.hid (show KeysIs W9 W4.heap.size kb mb N T 2 2 (upd (upd (fun _ => none) 1 (some l1)) 2 (some l2)) V9 from hk9)
  have A9 := Lib.hid (show AllShared N T (upd (upd (fun _ => none) 1 (some l1)) 2 (some l2)) (updX (updX (fun _ => 0) 1 x1) 2 x2) from
    AllShared.put (AllShared.put (fun z zs h => by cases h) SH1.out) SH2.out)
  clear hk9 hn9 hl2 hs2 D0 K8 B8
  try dsimp only
  go_wp2_with fail
  refine (kOpen_ok 1 l1 x1 _ K9.out (by unfold I64; omega) rfl SH1.out hT (by omega) hN2).mono ?_
  rintro e W10 ⟨rfl, hb10⟩
  have K10 := Lib.hid (K9.out.below hb10)
  have B10 := Lib.hid (below_trans B9.out hb10 B9.out.size)
  clear hb10 K9 B9
  try dsimp only
  go_wp2_with fail
  refine (kOpen_ok 2 l2 x2 _ K10.out (by unfold I64; omega) rfl SH2.out hT (by omega) hN2).mono ?_
  rintro e W11 ⟨rfl, hb11⟩
  have K11 := Lib.hid (K10.out.below hb11)
  have B11 := Lib.hid (below_trans B10.out hb11 B10.out.size)
  clear hb11 K10 B10
  try dsimp only
  go_wp2_with fail
  refine (kTweak_ok 1 av l1 _ K11.out (by unfold I64; omega) rfl HA.out (by omega) hN2 (by omega)).mono ?_
  intro e W12 h12
  obtain ⟨rfl, ⟨V12, hk12⟩, hn12⟩ := h12.new (by omega)
  obtain ⟨S3, hS3⟩ : ∃ S3, S3 = upd (upd (upd (fun _ => none) 1 (some l1)) 2 (some l2)) 3 (some (l1.map fun y => ofF (toF y + toF av))) := ⟨_, rfl⟩
  have K12 := Lib.hid (show KeysIs W12 W4.heap.size kb mb N T 3 3 S3 V12 by rw [hS3]; exact hk12)
  have HS3 := Lib.hid (show S3 1 = some l1 ∧ S3 2 = some l2 ∧ (S3 3).isSome = true by rw [hS3]; exact ⟨rfl, rfl, rfl⟩)
  have A12 := Lib.hid (show AllShared N T S3 (updX (updX (updX (fun _ => 0) 1 x1) 2 x2) 3 (x1 + toF av)) by rw [hS3]; exact A9.out.put (tweak_shared l1 _ SH1.out))
  have B12 := Lib.hid (below_near B11.out hn12 hwk hwm B11.out.size)
  clear h12 hk12 hn12 hS3 K11 B11 A9
  try dsimp only
  go_wp2_with fail
  refine (kCombine_ok 1 2 av bv l1 l2 _ K12.out (by unfold I64; omega) (by unfold I64; omega) HS3.out.1 HS3.out.2.1 HA.out HB.out (by omega) hN2 (by omega)).mono ?_
  intro e W13 h13
  obtain ⟨rfl, ⟨V13, hk13⟩, hn13⟩ := h13.new (by omega)
  obtain ⟨S4, hS4⟩ : ∃ S4, S4 = upd S3 4 (some (zipS (· + ·) (l1.map fun z => ofF (toF z * toF av)) (l2.map fun z => ofF (toF z * toF bv)))) := ⟨_, rfl⟩
  have K13 := Lib.hid (show KeysIs W13 W4.heap.size kb mb N T 4 4 S4 V13 by rw [hS4]; exact hk13)
  have HS4 := Lib.hid (show S4 1 = some l1 ∧ S4 2 = some l2 ∧ (S4 3).isSome = true ∧ (S4 4).isSome = true by rw [hS4]; exact ⟨HS3.out.1, HS3.out.2.1, HS3.out.2.2, rfl⟩)
  have A13 := Lib.hid (show AllShared N T S4 (updX (updX (updX (updX (fun _ => 0) 1 x1) 2 x2) 3 (x1 + toF av)) 4 (toF av * x1 + toF bv * x2)) by rw [hS4]; exact A12.out.put (by rw [swap_sum]; exact combine_shared l1 l2 _ _ SH1.out SH2.out))
  have B13 := Lib.hid (below_near B12.out hn13 hwk hwm B12.out.size)
  clear h13 hk13 hn13 hS4 K12 B12 A12 HS3
  try dsimp only
  go_wp2_with fail
  refine (kFilled_any _ ds m1 _ (KD.out.below B13.out) (by omega)).mono ?_
  rintro e W14 ⟨vd1, rfl, ho, hb14⟩
  have D1 := Lib.hid ho.is
  have K14 := Lib.hid (K13.out.below hb14)
  have B14 := Lib.hid (below_trans B13.out hb14 B13.out.size)
  clear ho hb14 K13 B13
  try dsimp only
  go_wp2_with fail
  refine (kMultiply_ok 1 2 vd1 (fillL ds m1) l1 l2 _ K14.out (by unfold I64; omega) (by unfold I64; omega) HS4.out.1 HS4.out.2.1 D1.out (by rw [fillL_length, HM1.out]) hT hN1 hN2 (by omega)).mono ?_
  intro e W15 h15
  obtain ⟨rfl, ⟨V15, hk15⟩, hn15⟩ := h15.new (by omega)
  obtain ⟨S5, hS5⟩ : ∃ S5, S5 = upd S4 5 (some (ofFs (mulOut N T (toFs l1) (toFs l2) (toFs (fillL ds m1))))) := ⟨_, rfl⟩
  have K15 := Lib.hid (show KeysIs W15 W4.heap.size kb mb N T 5 5 S5 V15 by rw [hS5]; exact hk15)
  have HS5 := Lib.hid (show S5 1 = some l1 ∧ S5 2 = some l2 ∧ (S5 3).isSome = true ∧ (S5 4).isSome = true ∧ (S5 5).isSome = true by rw [hS5]; exact ⟨HS4.out.1, HS4.out.2.1, HS4.out.2.2.1, HS4.out.2.2.2, rfl⟩)
  have A15 := Lib.hid (show AllShared N T S5 (updX (updX (updX (updX (updX (fun _ => 0) 1 x1) 2 x2) 3 (x1 + toF av)) 4 (toF av * x1 + toF bv * x2)) 5 (x1 * x2)) by rw [hS5]; exact A13.out.put (multiply_shared l1 l2 _ SH1.out SH2.out hN1 hN2))
  have B15 := Lib.hid (below_near B14.out hn15 hwk hwm B14.out.size)
  obtain ⟨X, hX⟩ : ∃ X, X = updX (updX (updX (updX (updX (fun _ => 0) 1 x1) 2 x2) 3 (x1 + toF av)) 4 (toF av * x1 + toF bv * x2)) 5 (x1 * x2) := ⟨_, rfl⟩
  rw [← hX] at A15
  have HX1 := Lib.hid (show x1 = X 1 by rw [hX]; rfl)
  have HX2 := Lib.hid (show x2 = X 2 by rw [hX]; rfl)
  have HX3 := Lib.hid (show X 3 = X 1 + toF av by rw [← HX1.out, hX]; rfl)
  have HX4 := Lib.hid (show X 4 = toF av * X 1 + toF bv * X 2 by rw [← HX1.out, ← HX2.out, hX]; rfl)
  have HX5 := Lib.hid (show X 5 = X 1 * X 2 by rw [← HX1.out, ← HX2.out, hX]; rfl)
  clear h15 hk15 hn15 hS5 K14 B14 A13 HS4 D1 hX
  rw [HX1.out, HX2.out]
  try dsimp only
  go_wp2_with fail
  refine (kFilled_any _ ds m1 _ (KD.out.below B15.out) (by omega)).mono ?_
  rintro e W16 ⟨vd2, rfl, ho, hb16⟩
  have D2 := Lib.hid ho.is
  have K16 := Lib.hid (K15.out.below hb16)
  have B16 := Lib.hid (below_trans B15.out hb16 B15.out.size)
  clear ho hb16 K15 B15
  try dsimp only
  go_wp2_with fail
  refine (kRefresh_ok 2 vd2 (fillL ds m1) l2 _ K16.out (by unfold I64; omega) HS5.out.2.1 D2.out (by rw [fillL_length, HM1.out]) hT (by omega) hN2).mono ?_
  rintro e W17 ⟨rfl, ⟨V17, hk17⟩, hn17⟩
  have A17 := Lib.hid (A15.out.turn (refP_shared (fillL ds m1) l2 (A15.out _ _ HS5.out.2.1)))
  obtain ⟨S6, hS6⟩ : ∃ S6, S6 = upd S5 2 (some (ofFs (List.zipWith (· + ·) (toFs l2) (sumD N (refP T (fillL ds m1)) N)))) := ⟨_, rfl⟩
  rw [← hS6] at hk17 A17
  have HIN := Lib.hid (show ∀ z : Int, 1 ≤ z → z ≤ 5 → (S6 z).isSome = true by
    intro z h1 h5
    rw [hS6]
    rcases (show z = 1 ∨ z = 2 ∨ z = 3 ∨ z = 4 ∨ z = 5 by omega) with rfl | rfl | rfl | rfl | rfl
    · exact (congrArg Option.isSome HS5.out.1).trans rfl
    · rfl
    · exact HS5.out.2.2.1
    · exact HS5.out.2.2.2.1
    · exact HS5.out.2.2.2.2)
  have K17 := Lib.hid hk17
  have B17 := Lib.hid (below_near B16.out hn17 hwk hwm B16.out.size)
  clear hk17 hn17 hS6 K16 B16 A15 HS5 D2
  try dsimp only
  go_wp2_with fail
  refine mapLit (X := X) (kg := 1) (kh := 2) (kw := 3) (kc := 4) (km := 5) (av := av) (bv := bv) (by kernel_rfl) (by kernel_rfl) (by kernel_rfl) ⟨show 204 < 240 by decide, rfl, rfl, rfl, rfl, rfl, rfl, rfl, rfl, rfl, HX3.out, HX4.out, HX5.out, HA.out.1, HB.out.1⟩ ⟨by decide, by unfold I64; omega⟩ ?_
  intro W18 hp18 hb18
  obtain ⟨pb, hpb⟩ : ∃ pb, pb = W17.heap.size := ⟨_, rfl⟩
  rw [← hpb] at hp18
  have P18 := Lib.hid hp18
  have K18 := Lib.hid (K17.out.below hb18)
  have B18 := Lib.hid (below_trans B17.out hb18 B17.out.size)
  obtain ⟨D, hD, hD2, hD3, hD4⟩ := hp18
  have OWN := Lib.hid hD
  have HAS := Lib.hid hD3
  have AT := Lib.hid hD4
  have b18s := hb18.size
  have hpbl : pb < W18.heap.size := P18.out.lt
  simp [List.range, List.range.loop, dstK, valK, Act.put]
  rw [← hpb]
  clear hb18 K17 B17 hD hD3 hD4 hD2 hmm hpb
  go_wp2_with (first | (at_range; refine wpList_range_own _ rfl _ 40 rfl 3 23 ilaw Try.underlying40 _ pb 5 D rfl OWN.out ?_; intro w6 hrg6 hg6 hs6) | go_in)
  go_frame
  have B6 := Lib.hid (show Below W18.heap.size W18 w6 from (Below.refl _ _).grown hg6 (Nat.le_refl _) (fun k h => by cases h))
  have RG := Lib.hid hrg6
  clear hg6 hrg6 hs6
  go_loopw [207] (fun _ wq => ∃ (left : Lit → Bool) (cnt : Nat), wq.ranges Try.prog 3 (plainElem Try.prog 23) pb W18.heap.size 5 D left cnt ∧ (∀ kl, left kl = true → Maps.has D kl = true) ∧ Below W18.heap.size W18 wq) (fun _ wq => wq.rangeLeft pb W18.heap.size)
  case atStart => exact ⟨_, _, RG.out, fun kl h => h, B6.out⟩
  case round =>
    obtain ⟨left, cnt, hrg, hlf, hbq⟩ := hrel
    have RQ := Lib.hid hrg
    have HLF := Lib.hid hlf
    have BQ := Lib.hid hbq
    have hbqs := hbq.size
    clear hrg hlf hbq RG B6
    go_wp2_with (first | (at_next; refine wpList_next_ranges_ii _ rfl _ rfl 3 23 .i64 .u64 ilaw Try.underlying3 Try.underlying23 pb W18.heap.size 5 _ _ _ rfl RQ.out ?_ ?_) | go_in)
    · intro _ hl0
      have K19 := Lib.hid (K18.out.below BQ.out)
      have P19 := Lib.hid (P18.out.below BQ.out)
      have B19 := Lib.hid (below_trans B18.out BQ.out B18.out.size)
      obtain ⟨l9, hl9⟩ := Option.isSome_iff_exists.1 (HIN.out 1 (by omega) (by omega))
      clear hl0 RQ HLF BQ K18 P18 B18
      go_wp2_with (at_len; refine wpList_len_plain rfl _ rfl rfl P19.out ?_)
      refine (kDrop_ok 1 l9 _ K19.out (by unfold I64; omega) hl9).mono ?_
      rintro e W20 ⟨rfl, hk20, hn20⟩
      have K20 := Lib.hid hk20
      have B20 := Lib.hid (below_near B19.out hn20 hwk hwm B19.out.size)
      clear hk20 hn20 K19 B19 P19
      try dsimp only
      go_wp2_with fail
      refine (kDrop_none 1 _ K20.out (by unfold I64; omega) (by unfold upd; rw [if_pos rfl]; simp)).mono ?_
      rintro e W21 ⟨rfl, hb21⟩
      have B21 := Lib.hid (below_trans B20.out hb21 B20.out.size)
      clear hb21 K20 B20
      try dsimp only
      go_wp2_with fail
      exact HP.out _ B21.out
    · intro x c w7 cnt1 hwx hwc hlx hat hrg1 hlt1 hg1 hs1 hen
      have hx64 := I64.of_wf' hwx
      have hsx : (keysS 1 2 3 4 5 true true true true true x).isSome = true := by rw [← HAS.out x]; exact HLF.out _ hlx
      have hx5 : 1 ≤ x ∧ x ≤ 5 := by
        unfold keysS at hsx
        split at hsx
        · rename_i h; omega
        · cases hsx
      obtain ⟨l0, hl0⟩ := Option.isSome_iff_exists.1 (HIN.out x hx5.1 hx5.2)
      have B7 := Lib.hid (show Below W18.heap.size W18 w7 from BQ.out.grown hg1 BQ.out.size (fun k h => by injection h with h; omega))
      have hc : c = ofF (X x) := by
        have := (AT.out x (.lit (.int .u64 0)) hsx).symm.trans (hat _)
        simp only [DataW.lit.injEq, Lit.int.injEq, true_and] at this
        exact this.symm
      subst hc
      have C7 := Lib.hid (kOpen_ok x l0 (X x) w7 (K18.out.below B7.out) hx64 hl0 (A17.out _ _ hl0) hT (by omega) hN2)
      have RG1 := Lib.hid hrg1
      have HLX := Lib.hid hlx
      clear hat hrg1 hlx hg1 hs1 hl0 hsx hwx hwc hx5
      go_wp2_with fail
      refine C7.out.mono ?_
      rintro e w8 ⟨rfl, hb8⟩
      have B8 := Lib.hid (below_trans B7.out hb8 B7.out.size)
      have RG8 := Lib.hid (RG1.out.kept (show w7.grownBy w8 none from ⟨hb8.os, hb8.tape, hb8.output, hb8.size, fun k hk _ => hb8.block k hk⟩) (fun e => by cases e) (fun e => by cases e))
      clear hb8
      try dsimp only
      go_wp2_with fail
      go_roundw
      case rel => exact ⟨_, cnt1, RG8.out, fun kl h => HLF.out kl (by rw [Bool.and_eq_true] at h; exact h.1), B8.out⟩
      case measure => rw [RG8.out.left_eq, RQ.out.left_eq]; exact hlt1
end Go.Proofs.Ytegmeepogjijiaa
