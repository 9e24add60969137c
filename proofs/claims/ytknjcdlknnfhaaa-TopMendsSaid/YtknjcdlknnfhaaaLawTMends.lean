/- The law TopMends, walked. -/
import Derived.Test.YtknjcdlknnfhaaaMendP
import Derived.Test.YtknjcdlknnfhaaaTopT
import Derived.Deep.CutRange
namespace Go.Proofs.Ytknjcdlknnfhaaa
open Go.RowKit Croft

theorem rRest_val (n : Int) (m : Nat) (hm : 0 < m) (hm2 : m ≤ 1000) :
    ∃ r : Nat, r < m ∧ ∀ w, Calls Try.prog 33 #[.int .i64 n, .int .i64 m] w fun e w' => e = .returned (.int .i64 r) ∧ w = w' := by
  have h1 : n.tmod m < m := Int.tmod_lt_of_pos n (by omega)
  have h2 : -(m : Int) < n.tmod m := Int.lt_tmod_of_pos n (by omega)
  have hb : ((m : Int) == 0) = false := by rw [beq_eq_false_iff_ne]; omega
  obtain ⟨r, hr⟩ : ∃ r, n.tmod m = r := ⟨_, rfl⟩
  by_cases h3 : r < 0
  · obtain ⟨r', hr'⟩ : ∃ r' : Nat, r + m = r' := ⟨(r + m).toNat, by omega⟩
    refine ⟨r', by omega, fun w => ?_⟩
    go_enter Try.func33, Try.ntmps33
    go_wp2_with fail
    go_ret
    exact ⟨by rw [← hr']; rfl, rfl⟩
  · obtain ⟨r', rfl⟩ : ∃ r' : Nat, r = r' := ⟨r.toNat, by omega⟩
    refine ⟨r', by omega, fun w => ?_⟩
    go_enter Try.func33, Try.ntmps33
    go_wp2_with fail
    go_ret
    exact ⟨rfl, rfl⟩
set_option maxRecDepth 100000 in
set_option maxHeartbeats 2000000 in
theorem topMends_any (secret : Int) (vd vb : Value) (ds : List Int) (bent : List (Int × Int)) (t n : Int) (w : World) (hs : U64 secret) (h1 : IsNums w vd ds) (h2 : IsShares w vb bent) :
    Calls Try.prog 5 #[.int .u64 secret, vd, .int .i64 t, .int .i64 n, vb] w fun e w' => e = .returned (.bool true) ∧ Below w.heap.size w w' := by
  have KD := Lib.hid h1
  have KB := Lib.hid h2
  have hs1 := hs.1
  obtain ⟨A5, c5, rfl, hc5, hm5, hl5, hu5, hr5⟩ := h2
  suffices hgoal : ∀ Post : Ending → World → Prop, (∀ w', Below w.heap.size w w' → Post (.returned (.bool true)) w') → Calls Try.prog 5 #[.int .u64 secret, vd, .int .i64 t, .int .i64 n, .slice A5 bent.length c5] w Post from hgoal _ fun w' h => ⟨rfl, h⟩
  intro Post hpo
  have HP := Lib.hid hpo
  clear hpo h1 hm5 hu5 hr5
  go_enter Try.func5, Try.ntmps5
  go_wp2_with fail
  refine (tSaid_any _).mono ?_
  rintro e W1 ⟨rfl, hb⟩
  have B1 := Lib.hid hb
  clear hb
  try dsimp only
  go_wp2_with fail
  refine (tCrew_any t n _).mono ?_
  rintro e w' ⟨⟨T, N, hT, hN1, hN2, rfl⟩, rfl⟩
  try dsimp only
  go_wp2_with fail
  refine (tFilled_any _ ds T _ (KD.out.below B1.out) (by omega)).mono ?_
  rintro e W3 ⟨vf, rfl, ho, hb⟩
  have B3 := Lib.hid (below_trans B1.out hb B1.out.size)
  have hdl := fillL_length ds T
  generalize fillL ds T = D at *
  have KF := Lib.hid ho.is
  have HDL := Lib.hid hdl
  clear ho hb hdl
  try dsimp only
  go_wp2_with fail
  refine (sDeal_ok secret _ D N _ hs KF.out (by rw [HDL.out]; exact hT) (by rw [HDL.out]; omega) hN2).mono ?_
  rintro e W4 ⟨va, rfl, ho, hb⟩
  have B4 := Lib.hid (below_trans B3.out hb B3.out.size)
  obtain ⟨p, hp⟩ : ∃ p, p = toFs (secret :: D) := ⟨_, rfl⟩
  have HPL := Lib.hid (show p.length ≤ T + 1 by rw [hp, toFs_length, List.length_cons, HDL.out]; omega)
  have HP0 := Lib.hid (show peval p 0 = toF secret by rw [hp]; exact peval_cons0 _ _)
  rw [← hp] at ho
  obtain ⟨zs, hzs⟩ : ∃ zs, zs = ofFs (deal N p) := ⟨_, rfl⟩
  have HZG := Lib.hid (show ∀ i, i < N → zs[i]? = some (ofF (peval p (pt i))) from fun i hi => by
    rw [hzs]
    unfold ofFs
    rw [List.getElem?_map, get_co (by rw [deal_length]; exact hi), deal_co p hi]
    rfl)
  have HZL := Lib.hid (show zs.length = N by rw [hzs, ofFs_length, deal_length])
  have HZ0 := Lib.hid (show badL p (shL zs) = [] by rw [hzs]; exact badL_start N p hN2)
  rw [← hzs] at ho
  have KA := Lib.hid ho.is
  obtain ⟨Aa, ca, hva, _, _⟩ := own_form ho.1
  rw [HZL.out] at hva
  subst hva
  have hs4 := B4.out.size
  clear ho hb hp hzs KF B1 B3
  obtain ⟨q, hq⟩ : ∃ q : Nat, q = (N - T - 1) / 2 := ⟨_, rfl⟩
  obtain ⟨m, hm⟩ : ∃ m, m = mostW T N := ⟨_, rfl⟩
  have HM := Lib.hid hm
  have hm4 : m ≤ 4 := by rw [hm]; unfold mostW; omega
  have hqi : ((N : Int) - (T : Int) - 1).tdiv 2 = (q : Int) := by
    rw [Int.tdiv_eq_ediv_of_nonneg (by omega)]; omega
  have hmin : min (4 : Int) (q : Int) = (m : Int) := by rw [hm]; unfold mostW; omega
  have hqb : q ≤ 9 := by omega
  clear hm hq
  try dsimp only
  go_wp2_with fail
  go_loopw [13, 44] (fun v i wr => ∃ k : Nat, k ≤ N ∧ i = .int .i64 k ∧ OwnShares wr W4.heap.size v (shL (zs.take k)) ∧ Below W4.heap.size W4 wr) (fun _ i _ => N - (intOf i).toNat)
  case atStart => exact ⟨0, Nat.zero_le _, rfl, OwnShares.nil _ _, Below.refl _ _⟩
  case round =>
    obtain ⟨k, hk, rfl, hown, hbel⟩ := hrel
    have KO := Lib.hid hown
    have BEL := Lib.hid hbel
    have hsz := hbel.size
    clear hown hbel
    by_cases hlt : k < N
    · obtain ⟨A, c, hA, _, _, _, hu, hr⟩ := KA.out.below BEL.out
      rw [HZL.out] at hA
      injection hA with hA1 hA2 hA3
      subst hA1 hA3
      obtain ⟨b1, o1, z, rfl, hb1, hgk, huz, hca⟩ := nums_at hr hu (k := k) (by rw [HZL.out]; exact hlt)
      have HT := Lib.hid (shL_next hgk)
      have hsl : (shL (zs.take k)).length = k := by rw [shL_length, List.length_take, HZL.out]; omega
      have HSL := Lib.hid hsl
      clear hr hu hgk hb1 hsl hA2
      go_wp2_with (at_builtin; go_loud (refine wpList_push_share rfl _ _ rfl W4.heap.size _ _ ((k : Int) + 1) z wr.heap.size 1 rfl (KO.out.alloc _) rfl (pair_cell0 _ _ _ _) (pair_cell1 _ _ _ _) (by unfold I64; omega) huz (by rw [HSL.out]; omega) (by rw [size_alloc]; omega) ?_))
      intro v' w5 hown' hbel'
      rw [← HT.out] at hown'
      have K5 := Lib.hid hown'
      have B5 := Lib.hid ((BEL.out.alloc hsz (.cells #[.int .i64 ((k : Int) + 1), .int .u64 z] 66)).trans hbel')
      clear hown' hbel'
      go_wp2_with fail
      exact ⟨⟨k + 1, by omega, by go_num, K5.out, B5.out⟩, by simp [intOf] <;> omega⟩
    · obtain rfl : k = N := by omega
      have HTK := Lib.hid (show zs.take k = zs from List.take_of_length_le (by rw [HZL.out]; exact Nat.le_refl _))
      rw [HTK.out] at KO
      obtain ⟨g, c, hv, hg, hg5⟩ := own_slice KO.out.1 (by rw [shL_length, HZL.out]; omega)
      rw [shL_length, HZL.out] at hv
      subst hv
      have K1 := Lib.hid KO.out
      have B5 := Lib.hid BEL.out
      clear KO BEL
      go_wp2_with fail
      obtain ⟨wo, hwo⟩ : ∃ wo, wo = wr := ⟨_, rfl⟩
      subst hwo
      go_loopw [59] (fun i wr => ∃ (j : Nat) (A : List Int), j ≤ bent.length ∧ i = .int .i64 j ∧ A.length = k ∧ OwnShares wr W4.heap.size (.slice (some ⟨g, 0, none⟩) k c) (shL A) ∧ (badL p (shL A)).length ≤ min j m ∧ Below W4.heap.size W4 wr) (fun i _ => bent.length - (intOf i).toNat)
      case atStart => exact ⟨0, zs, Nat.zero_le _, rfl, HZL.out, K1.out, by rw [HZ0.out]; exact Nat.zero_le _, B5.out⟩
      case round =>
        obtain ⟨j, A, hj, rfl, hAl, hown, hbad, hbel⟩ := hrel
        have HAL := Lib.hid hAl
        have KO := Lib.hid hown
        have HBAD := Lib.hid hbad
        have BEL := Lib.hid hbel
        have hsz := hbel.size
        clear hown hbel hAl hbad K1 B5
        by_cases hlt : j < bent.length
        · obtain ⟨A', c', hA, _, _, _, hu, hr⟩ := KB.out.below (below_trans B4.out BEL.out B4.out.size)
          injection hA with hA1 hA2 hA3
          subst hA1 hA3
          clear hA2
          obtain ⟨b1, o1, at_, y, rfl, hb1, hgk, hat, huy, hca, hcb⟩ := share_at hr hu hlt
          clear hr hu hb1 hgk
          obtain ⟨r, hr, hrest⟩ := rRest_val at_ k (by omega) (by omega)
          have HREST := Lib.hid hrest
          clear hrest
          have BX := Lib.hid (Box.new wr 66 [.int .i64 at_, .int .u64 y])
          have hb2 : Below W4.heap.size W4 (wr.alloc (.cells #[.int .i64 at_, .int .u64 y] 66)) := BEL.out.alloc hsz _
          have KO2 := Lib.hid (KO.out.alloc (.cells #[.int .i64 at_, .int .u64 y] 66))
          have B2 := Lib.hid hb2
          clear hb2
          have hmm : (q < 4 ∧ m = q) ∨ (4 ≤ q ∧ m = 4) := by omega
          clear hmin
          by_cases hjm : j < m
          · have HJM := Lib.hid hjm
            have hj4 : j < 4 := by omega
            have hjq : j < q := by omega
            clear hjm
            rcases hmm with ⟨hq4, hmq⟩ | ⟨hq4, hmq⟩
            all_goals
              clear hmq
              go_upto_region 17 with fail
              obtain ⟨w2, hw2⟩ : ∃ w2, w2 = wr.alloc (.cells #[.int .i64 at_, .int .u64 y] 66) := ⟨_, rfl⟩
              rw [← hw2] at KO2 B2 ⊢
              replace BX := Lib.hid (show Box w2 wr.heap.size 66 [.int .i64 at_, .int .u64 y] by rw [hw2]; exact BX.out)
              obtain ⟨cb', hcb'⟩ : ∃ c, c = wr.heap.size := ⟨_, rfl⟩
              rw [← hcb'] at BX ⊢
              have hs2 := B2.out.size
              have g0 := BX.out.cell (i := 0) rfl
              have g1 := BX.out.cell (i := 1) rfl
              have hx := List.getElem?_eq_getElem (show r < A.length by rw [HAL.out]; exact hr)
              have HX := Lib.hid hx
              have hcell := KO2.out.cellY (shL_get hx)
              have hfrz := KO2.out.frozen (r * 2 + 1)
              clear hx hw2 hcb' hca hcb KO
              go_wp2_with fail
              refine wp_region_quiet_tail 9 (by kernel_rfl) (by kernel_rfl) ?_
              simp only [List.take_succ_cons, List.take_zero, List.drop_succ_cons, List.drop_zero]
              repeat (go_big_quiet_step ((exact quietL (HREST.out _))))
              refine wpQuiet_nil ?_
              intro nq
              have K3 := (show OwnShares (w2.drewN nq) W4.heap.size (.slice (some ⟨g, 0, none⟩) k c) (shL A) from ⟨KO2.out.1, KO2.out.2⟩).setY (shL_get HX.out) huy
              rw [shL_set HX.out] at K3
              have B3 := Lib.hid ((below_drewN B2.out nq).setCell (p := ⟨g, r * 2 + 1, none⟩) hg (.int .u64 y))
              have KL3 := Lib.hid K3
              have HB3 := Lib.hid (show (badL p (shL (A.set r y))).length ≤ min (j + 1) m by
                have h1 := badL_set p y (A := A) (r := r) (by rw [HAL.out]; exact hr)
                have h2 := HBAD.out
                have h3 := HJM.out
                omega)
              clear K3
              go_upto_region 18 with fail
              clear hcell hfrz
              go_wp2_with fail
              exact ⟨⟨j + 1, A.set r y, by omega, by go_num, by rw [List.length_set, HAL.out], KL3.out, HB3.out, B3.out⟩, by simp [intOf] <;> omega⟩
          · rcases hmm with ⟨hq4, hmq⟩ | ⟨hq4, hmq⟩
            · have hjq : ¬ j < q := by omega
              have HMB := Lib.hid (show (badL p (shL A)).length ≤ min (j + 1) m by have := HBAD.out; omega)
              clear hmq hjm
              go_wp2_with fail
              exact ⟨⟨j + 1, A, by omega, by go_num, HAL.out, KO2.out, HMB.out, B2.out⟩, by simp [intOf] <;> omega⟩
            · have hjq : ¬ j < 4 := by omega
              have HMB := Lib.hid (show (badL p (shL A)).length ≤ min (j + 1) m by have := HBAD.out; omega)
              clear hmq hjm
              go_wp2_with fail
              exact ⟨⟨j + 1, A, by omega, by go_num, HAL.out, KO2.out, HMB.out, B2.out⟩, by simp [intOf] <;> omega⟩
        · obtain rfl : j = bent.length := by omega
          have HAG := Lib.hid (show ∀ i, i < k → ∃ z, A[i]? = some z ∧ (shL A)[i]? = some ((i : Int) + 1, z) from fun i hi => ⟨A[i]'(by rw [HAL.out]; exact hi), List.getElem?_eq_getElem _, shL_get (List.getElem?_eq_getElem _)⟩)
          obtain ⟨L, hL⟩ : ∃ L, L = shL A := ⟨_, rfl⟩
          have HL := Lib.hid hL
          have HLL := Lib.hid (show L.length = k by rw [hL, shL_length, HAL.out])
          rw [← hL] at KO HAG
          clear hL
          go_wp2_with fail
          obtain ⟨wq, hwq⟩ : ∃ wq, wq = wr := ⟨_, rfl⟩
          subst hwq
          go_loopw [18, 84] (fun v i wr => ∃ q : Nat, q ≤ k ∧ i = .int .i64 q ∧ OwnInts wr wq.heap.size v (badL p (L.take q)) ∧ Below wq.heap.size wq wr) (fun _ i _ => k - (intOf i).toNat)
          case atStart => exact ⟨0, Nat.zero_le _, rfl, OwnInts.nil _ _, Below.refl _ _⟩
          case round =>
            obtain ⟨q, hq, rfl, hown, hbel⟩ := hrel
            have KW := Lib.hid hown
            have BW := Lib.hid hbel
            have hszw := hbel.size
            clear hown hbel
            by_cases hlt : q < k
            · obtain ⟨A', c', hA, _, _, _, hu, hr⟩ := KA.out.below (BEL.out.trans (BW.out.mono hsz))
              rw [HZL.out] at hA
              injection hA with hA1 hA2 hA3
              subst hA1 hA3
              obtain ⟨b1, o1, z, rfl, hb1, hgk, huz, hca⟩ := nums_at hr hu (k := q) (by rw [HZL.out]; exact hlt)
              rw [HZG.out q hlt] at hgk
              obtain rfl := Option.some.inj hgk
              obtain ⟨y, hy1, hy2⟩ := HAG.out q hlt
              have HBN := Lib.hid (badL_next (Q := p) hy2)
              have KLq := KO.out.is.below BW.out
              obtain ⟨A2, c2, hA, _, _, _, hu2, hr2⟩ := KLq
              rw [HLL.out] at hA
              injection hA with hB1 hB2 hB3
              subst hB1 hB3
              obtain ⟨b3, o3, at3, y3, he3, hb3, hgk3, hat3, huy3, hca3, hcb3⟩ := share_at hr2 hu2 (k := q) (by rw [HLL.out]; exact hlt)
              injection he3 with he3
              injection he3 with he4 he5
              subst he4 he5
              rw [hy2] at hgk3
              obtain ⟨rfl, rfl⟩ := Prod.mk.inj (Option.some.inj hgk3)
              have hyz := huy3.1
              have HBL := Lib.hid (Nat.le_trans (badL_length p (L.take q)) (by rw [List.length_take]; exact Nat.min_le_left _ _))
              simp only [Nat.zero_add] at hca3 hcb3
              clear hr hu hgk hb1 hA2 hB2 hr2 hu2 hgk3 hb3 huz hy1 hy2
              go_wp2_with fail
              refine (fNorm_any _ _ hyz).mono ?_
              rintro e w' ⟨rfl, rfl⟩
              try dsimp only
              by_cases hbd : toF y = peval p (pt q)
              · have hbb : (ofF (toF y) != ofF (peval p (pt q))) = false := by rw [hbd]; simp
                have HTK := Lib.hid (show badL p (L.take (q + 1)) = badL p (L.take q) by rw [HBN.out, if_neg (by rw [Classical.not_not]; exact hbd.symm), List.append_nil])
                clear hbd
                go_wp2_with fail
                exact ⟨⟨q + 1, by omega, by go_num, by rw [HTK.out]; exact KW.out, BW.out⟩, by simp [intOf] <;> omega⟩
              · have hbb : (ofF (toF y) != ofF (peval p (pt q))) = true := by rw [bne_iff_ne]; exact fun e => hbd (ofF_inj e)
                have HTK := Lib.hid (show badL p (L.take (q + 1)) = badL p (L.take q) ++ [(q : Int) + 1] by rw [HBN.out, if_pos (fun e => hbd e.symm)])
                clear hbd
                go_wp2_with (at_builtin; go_loud (refine wpList_push_int4 rfl _ _ rfl wq.heap.size _ _ ((q : Int) + 1) wr.heap.size 1 rfl (KW.out.alloc _) rfl (new_cell _ _ _) (by unfold I64; omega) (by have := HBL.out; omega) (by rw [size_alloc]; omega) ?_))
                intro v8 w8 ho8 hb8 hg8 _
                rw [← HTK.out] at ho8
                have KW8 := Lib.hid ho8
                have BW8 := Lib.hid ((BW.out.alloc hszw (.cells #[.int .i64 ((q : Int) + 1)] 3)).trans hb8)
                clear ho8 hb8 hg8
                go_wp2_with fail
                exact ⟨⟨q + 1, by omega, by go_num, KW8.out, BW8.out⟩, by simp [intOf] <;> omega⟩
            · obtain rfl : q = k := by omega
              have HTK := Lib.hid (show L.take q = L from List.take_of_length_le (by rw [HLL.out]; exact Nat.le_refl _))
              rw [HTK.out] at KW
              have B9 := Lib.hid (below_trans B4.out (BEL.out.trans (BW.out.mono hsz)) B4.out.size)
              have KL9 := Lib.hid (show IsShares wr _ (shL A) by rw [← HL.out]; exact KO.out.is.below BW.out)
              rw [HL.out] at KW
              go_wp2_with fail
              refine (mendsT HAL.out (by rw [← HM.out]; have := HBAD.out; omega) HPL.out hT hN1 hN2 _ _ KL9.out).mono ?_
              rintro e W9 ⟨vb9, rfl, ho, hb⟩
              rw [HP0.out]
              have K9 := Lib.hid ho.is
              have KS9 := Lib.hid (KW.out.is.below hb)
              have B10 := Lib.hid (below_trans B9.out hb B9.out.size)
              clear ho hb
              try dsimp only
              go_wp2_with fail
              refine (fNorm_any _ _ hs1).mono ?_
              rintro e w' ⟨rfl, rfl⟩
              try dsimp only
              go_wp2_with fail
              refine (equali_any _ _ _ _ _ K9.out KS9.out).mono ?_
              rintro e w' ⟨rfl, nd, rfl⟩
              rw [decide_eq_true rfl]
              try dsimp only
              go_wp2_with fail
              exact HP.out _ (below_drewN B10.out _)
end Go.Proofs.Ytknjcdlknnfhaaa
