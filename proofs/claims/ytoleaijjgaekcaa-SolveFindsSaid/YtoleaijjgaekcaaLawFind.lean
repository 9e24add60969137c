/- Equations that are made of values are solved. -/
import Derived.Test.YtoleaijjgaekcaaFindW
import Derived.Test.YtoleaijjgaekcaaSolT
import Derived.Test.YtoleaijjgaekcaaHolds
import Derived.Test.YtoleaijjgaekcaaCircT
import Derived.Test.YtoleaijjgaekcaaShamK
namespace Go.Proofs.Ytoleaijjgaekcaa
open Go.RowKit Croft

theorem solE_ok {L : List (List Int)} {n : Nat} (h1 : 1 ≤ n) (h2 : n ≤ 20) (hm : L.length ≤ 20) (hl : ∀ r ∈ L, r.length = n + 1) : solE L n = 0 := by
  unfold solE
  rw [if_pos (by omega), if_neg (by omega), if_neg]
  rw [List.any_eq_true]
  rintro ⟨r, hr, h⟩
  unfold lenP at h
  rw [bne_iff_ne] at h
  have := hl r hr
  omega
theorem solve_fits (va : Value) (L : List (List Int)) (n : Nat) (w : World) (h1 : IsNumss w va L) (hv1 : 1 ≤ n) (hv20 : n ≤ 20) (hm20 : L.length ≤ 20) (hlen : ∀ r ∈ L, r.length = n + 1) {y : Nat → F} (hy : Meets L.length n (mx L) y) :
    Calls Try.prog 13 #[va, .int .i64 n] w fun e w' => ∃ M ls, Red (mx L) M L.length (n + 1) n ls ∧ ListRes w e w' (ofFs (solF M ls n)) 0 := by
  refine (sSolve_ok va L n w h1 (solE_ok hv1 hv20 hm20 hlen) hv1 hv20 hm20 hlen).mono ?_
  rintro e w' ⟨rows, ls, hr, h⟩
  rcases h with ⟨⟨r, a, b, c⟩, _⟩ | ⟨_, h⟩
  · exact absurd (hr.fits hy r a b) c
  · exact ⟨_, ls, hr, h⟩
theorem set_co {l : List Int} {n k : Nat} {y : Int} (hn : n < l.length) : co (toFs (l.set n y)) k = if k = n then toF y else co (toFs l) k := by
  unfold co toFs
  rw [List.getD_eq_getElem?_getD, List.getD_eq_getElem?_getD, List.getElem?_map, List.getElem?_map]
  by_cases h : k = n
  · subst h
    rw [if_pos rfl, List.getElem?_set_self hn]; rfl
  · rw [if_neg h, List.getElem?_set_ne (Ne.symm h)]
theorem more_ker {L : List (List Int)} {lr : List Int} {r n : Nat} (hlr : L[r]? = some lr) (z : Nat → F) : Ker L.length (n + 1) (mx L) z ↔ Ker (L ++ [lr]).length (n + 1) (mx (L ++ [lr])) z := by
  have e : (fun c => co (toFs lr) c) = mx L r := by funext c; rw [mx_get hlr]
  rw [mx_more, e, List.length_append]
  exact ker_more (List.getElem?_eq_some_iff.1 hlr).1 _ z
theorem solve_more (va : Value) (L : List (List Int)) (lr : List Int) (n r : Nat) (z b : Int) (w : World) (h1 : IsNumss w va (L ++ [lr.set n (ofF (toF z + toF b))])) (hv1 : 1 ≤ n) (hv20 : n ≤ 20) (hm20 : L.length + 1 ≤ 20) (hlen : ∀ q ∈ L, q.length = n + 1) (hlr : L[r]? = some lr) (hz : lr[n]? = some z) {y : Nat → F} (hy : Meets L.length n (mx L) y) :
    Calls Try.prog 13 #[va, .int .i64 n] w fun e w' => ∃ v err, e = .returned (.tuple #[v, .int .i64 err]) ∧ ((toF b = 0 ∧ err = 0) ∨ (toF b ≠ 0 ∧ err = 4)) ∧ Below w.heap.size w w' := by
  have hrl := (List.getElem?_eq_some_iff.1 hlr).1
  have hll := hlen lr (List.mem_of_getElem? hlr)
  have hco : ∀ k, co (toFs (lr.set n (ofF (toF z + toF b)))) k = if k = n then toF z + toF b else co (toFs lr) k := fun k => by
    rw [set_co (by omega), toF_ofF]
  have hzn : co (toFs lr) n = toF z := co_toFs hz
  have h2l : (lr.set n (ofF (toF z + toF b))).length = lr.length := List.length_set
  obtain ⟨lr2, hlr2⟩ : ∃ l, l = lr.set n (ofF (toF z + toF b)) := ⟨_, rfl⟩
  rw [← hlr2] at h1 hco h2l
  clear hlr2
  have hlen2 : ∀ q ∈ L ++ [lr2], q.length = n + 1 := fun q hq => by
    rcases List.mem_append.1 hq with h | h
    · exact hlen q h
    · rw [List.mem_singleton] at h; subst h; rw [h2l]; exact hll
  have hm2 : (L ++ [lr2]).length ≤ 20 := by rw [List.length_append]; exact hm20
  by_cases hb : toF b = 0
  · have hy2 : Meets (L ++ [lr2]).length n (mx (L ++ [lr2])) y := meets_of fun q hq => by
      rcases List.mem_append.1 hq with h | h
      · exact of_meets hy q h
      · rw [List.mem_singleton] at h
        subst h
        have h2 := of_meets hy lr (List.mem_of_getElem? hlr)
        rw [hco n, if_pos rfl, hb, F_az, ← hzn, ← h2]
        exact fsum_congr fun k hk => by rw [hco k, if_neg (by omega)]
    refine (solve_fits va _ n w h1 hv1 hv20 hm2 hlen2 hy2).mono ?_
    rintro e w' ⟨M, ls, _, v, rfl, _, hbel⟩
    exact ⟨v, 0, rfl, .inl ⟨hb, rfl⟩, hbel⟩
  · refine (sSolve_ok va _ n w h1 (solE_ok hv1 hv20 hm2 hlen2) hv1 hv20 hm2 hlen2).mono ?_
    rintro e w' ⟨rows, ls, hr, h⟩
    rcases h with ⟨_, v, rfl, _, hbel⟩ | ⟨hzero, _⟩
    · exact ⟨v, 4, rfl, .inr ⟨hb, rfl⟩, hbel⟩
    · have hs := hr.sol hzero
      rw [mx_more, List.length_append] at hs
      have h := more_wrong hrl (x := fun c => co (toFs (lr2)) c) (fun j hj => by rw [hco j, if_neg (by omega), mx_get hlr]) hs
      rw [hco n, if_pos rfl, mx_get hlr, hzn] at h
      have h0 : toF b = 0 := by
        have e1 : ∀ x y : F, x + y = x → y = 0 := fun x y h => by grind
        exact e1 _ _ h
      exact absurd h0 hb
theorem lit_numss (w : World) : IsNumss (((w.alloc (.cells #[.int .u64 1, .int .u64 1, .int .u64 5] 24)).alloc (.cells #[.int .u64 1, .int .u64 2147483646, .int .u64 1] 24)).alloc (.cells #[.slice (some ⟨w.heap.size, 0, none⟩) 3 3, .slice (some ⟨w.heap.size + 1, 0, none⟩) 3 3] 23)) (.slice (some ⟨w.heap.size + 1 + 1, 0, none⟩) 2 2) litR := by
  have a1 := lit_nums w [1, 1, 5] (by unfold U64; simp) (by simp)
  have a2 := lit_nums (w.alloc (.cells #[.int .u64 1, .int .u64 1, .int .u64 5] 24)) [1, 2147483646, 1] (by unfold U64; simp) (by simp)
  have b2 := a1.alloc (.cells #[.int .u64 1, .int .u64 2147483646, .int .u64 1] 24)
  rw [size_alloc] at a2
  have hx := Box.new ((w.alloc (.cells #[.int .u64 1, .int .u64 1, .int .u64 5] 24)).alloc (.cells #[.int .u64 1, .int .u64 2147483646, .int .u64 1] 24)) 23 [.slice (some ⟨w.heap.size, 0, none⟩) 3 3, .slice (some ⟨w.heap.size + 1, 0, none⟩) 3 3]
  rw [size_alloc, size_alloc] at hx
  exact ⟨_, 2, _, rfl, Nat.le_refl _, by unfold maxLen; omega, by decide, flat_cell hx, ((AllNums.nil _).snoc (b2.alloc _)).snoc (a2.alloc _)⟩
set_option maxRecDepth 100000 in
set_option maxHeartbeats 2000000 in
theorem solveFinds_any (va vv : Value) (rows0 : List (List Int)) (zs : List Int) (i by_ : Int) (w : World) (h1 : IsNumss w va rows0) (h2 : IsNums w vv zs) (hby : U64 by_) :
    Calls Try.prog 3 #[va, vv, .int .i64 i, .int .u64 by_] w fun e w' => e = .returned (.bool true) ∧ Below w.heap.size w w' := by
  have KA := Lib.hid h1
  have KV := Lib.hid h2
  have hby0 := hby.1
  obtain ⟨A1, c1, vs1, rfl, hc1, hm1, hl1, hr1, ha1⟩ := h1
  have LN := Lib.hid (lit_numss w)
  have HB1 := Lib.hid ((((Below.refl w.heap.size w).alloc (Nat.le_refl _) (.cells #[.int .u64 1, .int .u64 1, .int .u64 5] 24)).alloc (by simp) (.cells #[.int .u64 1, .int .u64 2147483646, .int .u64 1] 24)).alloc (by simp; omega) (.cells #[.slice (some ⟨w.heap.size, 0, none⟩) 3 3, .slice (some ⟨w.heap.size + 1, 0, none⟩) 3 3] 23))
  clear hr1 ha1 hm1 h2 hby
  suffices hgoal : ∀ Post : Ending → World → Prop, (∀ w', Below w.heap.size w w' → Post (.returned (.bool true)) w') → Calls Try.prog 3 #[.slice A1 rows0.length c1, vv, .int .i64 i, .int .u64 by_] w Post from hgoal _ fun w' h => ⟨rfl, h⟩
  intro Post hp
  have HP := Lib.hid hp
  clear hp
  go_enter Try.func3, Try.ntmps3
  go_wp2_with fail
  refine (solve_fits _ litR 2 _ LN.out (by omega) (by omega) (by decide) (by decide) lit_meets).mono ?_
  rintro e W1 ⟨M, ls, hred, v1, rfl, ho1, hb1⟩
  rw [lit_sol hred] at ho1
  have KX := Lib.hid ho1.is
  have B1 := Lib.hid (below_trans HB1.out hb1 HB1.out.size)
  clear ho1 hb1 hred LN HB1
  try dsimp only
  go_wp2_with fail
  have L1 := lit_nums W1 [3, 2] (by unfold U64; simp) (by simp)
  refine (equal_any _ _ [3, 2] [3, 2] _ (KX.out.alloc _) L1).mono ?_
  rintro e W2 ⟨rfl, nd, hW2⟩
  have h21 : decide ([(3 : Int), 2] = [3, 2]) = true := rfl
  rw [h21]
  have B2 := Lib.hid (show Below w.heap.size w W2 by rw [hW2]; exact below_drewN (B1.out.alloc B1.out.size _) _)
  clear hW2 L1 h21 KX
  try dsimp only
  go_wp2_with fail
  refine (kShort_any _ zs 8 _ (KV.out.below B2.out) (by omega)).mono ?_
  rintro e W3 ⟨v3, rfl, h3, rfl⟩
  obtain ⟨V, hV⟩ : ∃ V, V = zs.take (8 : Int).toNat := ⟨_, rfl⟩
  rw [← hV] at h3
  have hV8 : V.length ≤ 8 := by rw [hV, List.length_take]; exact Nat.min_le_left _ _
  have KV3 := Lib.hid h3
  obtain ⟨A2, c2, rfl, hc2, hm2, hl2, hu2, hr2⟩ := h3
  clear hu2 hr2 hm2 hV
  try dsimp only
  by_cases hn0 : V.length = 0
  · have hz : ((V.length : Int) == 0) = true := by rw [beq_iff_eq]; omega
    go_wp2_with fail
    exact HP.out _ B2.out
  have hz : ((V.length : Int) == 0) = false := by rw [beq_eq_false_iff_ne]; omega
  obtain ⟨q, hq⟩ : ∃ q : Nat, q = min 8 rows0.length := ⟨_, rfl⟩
  have hq8 : q ≤ 8 := by omega
  have hqr : q ≤ rows0.length := by omega
  have HQ := Lib.hid hq
  clear hq
  go_wp2_with fail
  all_goals
    try have hqa : rows0.length ≤ q := by have := HQ.out; omega
    try have hqb : 8 ≤ q := by have := HQ.out; omega
    clear hc1
    obtain ⟨n, hn⟩ : ∃ n, n = V.length := ⟨_, rfl⟩
    have hn1 : 1 ≤ n := by omega
    have hn8 : n ≤ 8 := by omega
    rw [← hn] at hc2 hl2 KV3 ⊢
    have HVL := Lib.hid hn.symm
    clear hn hn0 hV8 hz
    go_loopw [12, 52] (fun vl x wr => ∃ (k : Nat) (vs : List Value), k ≤ q ∧ x = .int .i64 k ∧ Grid wr W2.heap.size vl vs (rowsV n V (rows0.take k)) ∧ Below W2.heap.size W2 wr) (fun _ x _ => q - (intOf x).toNat)
    case atStart => exact ⟨0, [], Nat.zero_le _, rfl, Grid.nil _ _, Below.refl _ _⟩
    case round =>
      obtain ⟨k, vs, hk, rfl, hgr, hbel⟩ := hrel
      have KG := Lib.hid hgr
      have BEL := Lib.hid hbel
      have hszb := hbel.size
      clear hgr hbel
      by_cases hlt : k < q
      · have hdk : decide ((k : Int) < (q : Int)) = true := by simp; omega
        obtain ⟨A, c, vs', hA, _, _, _, hr, ha⟩ := (KA.out.below B2.out).below BEL.out
        injection hA with hA1 hA2 hA3
        subst hA1 hA3
        clear hA2
        obtain ⟨b1', o1, x, r, rfl, hb1, _, hrk, hxr, hcx⟩ := numss_at hr ha (k := k) (by omega)
        have HRK := Lib.hid hrk
        have KR := Lib.hid hxr
        have HU := Lib.hid hxr.u64
        obtain ⟨Ar, cr, rfl, hcr, _, hlr, _, _⟩ := hxr
        clear hr ha hrk hb1
        go_wp2_with (refine wpList_make_nums rfl _ _ rfl wr.heap.size _ n rfl rfl rfl (by omega) (Nat.le_refl _) ?_)
        intro W4 ho hb
        have BX := Lib.hid ho.box
        have BE4 := Lib.hid hb
        have KR4 := Lib.hid (KR.out.below hb)
        obtain ⟨Z, hZ⟩ : ∃ Z, Z = u64s (List.replicate n 0) := ⟨_, rfl⟩
        obtain ⟨C, hC⟩ : ∃ C, C = u64s (r.take n) := ⟨_, rfl⟩
        rw [← hZ] at BX
        have HZ := Lib.hid hZ
        have HC := Lib.hid hC
        have HCL := Lib.hid (show C.length = Nat.min r.length n by rw [hC, u64s_length, List.length_take]; exact Nat.min_comm _ _)
        clear ho hb hZ hC
        go_wp2_with (refine wpList_copy_splice (o := ⟨some 60, _, _, _, _, _⟩) rfl _ _ _ _ rfl 24 Try.underlying23 size_one (some ⟨wr.heap.size, 0, none⟩) Ar n n r.length cr rfl rfl wr.heap.size 0 Z 24 BX.out C HCL.out ?c1 ?c2 ?c3 wr.heap.size wr BE4.out (Nat.le_refl _) ?_)
        case c1 =>
          intro h0
          obtain ⟨A, c, hA, _, _, _, hu, hr⟩ := KR4.out
          injection hA with hA1 hA2 hA3
          subst hA1
          have hxl : 0 < r.length := by
            rw [HCL.out] at h0
            exact Nat.lt_of_lt_of_le h0 (Nat.min_le_left _ _)
          obtain ⟨b, o, rfl, hb, hc⟩ := hr.at_ (j := 0) (by rw [u64s_length]; exact hxl)
          refine ⟨_, rfl, fun j v hj => ?_⟩
          have hj2 := (List.getElem?_eq_some_iff.1 hj).1
          rw [HCL.out] at hj2
          have hjx : j < r.length := Nat.lt_of_lt_of_le hj2 (Nat.min_le_left _ _)
          have hjn : j < n := Nat.lt_of_lt_of_le hj2 (Nat.min_le_right _ _)
          rw [add_addr, hc j (by rw [u64s_length]; exact hjx), ← hj, HC.out, u64s_get, u64s_get, List.getElem?_take, if_pos hjn]
        case c2 => rw [HCL.out, HZ.out, u64s_length, List.length_replicate, Nat.zero_add]; exact Nat.min_le_right _ _
        case c3 => rw [HC.out]; exact u64s_one _
        intro W5 hB hBel
        have KF := Lib.hid (show OwnNums W5 wr.heap.size (.slice (some ⟨wr.heap.size, 0, none⟩) n n) (fillL r n) from by
          have h := hB
          rw [HZ.out, HC.out, splice_fill] at h
          have h2 := (show Box W5 wr.heap.size 24 (u64s (fillL r n)) from h).own (Nat.le_refl _) (by rw [fillL_length]; omega) (fillL_u64 HU.out n)
          rw [fillL_length] at h2
          exact h2)
        have B5 := Lib.hid hBel
        clear hB hBel hcx BX
        go_wp2_with fail
        obtain ⟨wo, hwo⟩ : ∃ wo, wo = wr := ⟨_, rfl⟩
        subst hwo
        have KV5 := Lib.hid ((KV3.out.below BEL.out).below B5.out)
        go_loopw [16, 63] (fun s x wr => ∃ (p nd : Nat), p ≤ n ∧ x = .int .i64 p ∧ s = .int .u64 (ofF (fsum p fun k => co (toFs (fillL r n)) k * co (toFs V) k)) ∧ wr = W5.drewN nd) (fun _ x _ => n - (intOf x).toNat)
        case atStart => exact ⟨0, 0, Nat.zero_le _, rfl, rfl, rfl⟩
        case round =>
          obtain ⟨p, nd5, hp, rfl, rfl, hw⟩ := hrel
          have HW := Lib.hid hw
          by_cases hlt5 : p < n
          · have hdp : decide ((p : Int) < (n : Int)) = true := by simp; omega
            obtain ⟨z, hz⟩ : ∃ z, (fillL r n)[p]? = some z := ⟨_, List.getElem?_eq_getElem (by rw [fillL_length]; exact hlt5)⟩
            have hcz := (KF.out.drewn hw).cell hz
            have hz0 := (fillL_u64 HU.out n z (List.mem_of_getElem? hz)).1
            obtain ⟨A, c, hA, _, _, _, hu, hr⟩ := KV5.out.drewn hw
            rw [HVL.out] at hA
            injection hA with hA1 hA2 hA3
            subst hA1 hA3
            clear hA2
            obtain ⟨b5, o5, y, rfl, hb5, hy, huy, hcy⟩ := nums_at hr hu (k := p) (by rw [HVL.out]; exact hlt5)
            have hy0 := huy.1
            have HSUM := Lib.hid (show ofF ((fsum p fun k => co (toFs (fillL r n)) k * co (toFs V) k) + toF z * toF y) = ofF (fsum (p + 1) fun k => co (toFs (fillL r n)) k * co (toFs V) k) by
              rw [fsum, co_toFs hz, co_toFs hy])
            obtain ⟨sp, hsp⟩ : ∃ sp, sp = fsum p fun k => co (toFs (fillL r n)) k * co (toFs V) k := ⟨_, rfl⟩
            rw [← hsp] at HSUM ⊢
            clear hr hu hz hb5 hy huy hsp hw
            go_wp2_with fail
            refine wp_region_quiet_tail 11 (by kernel_rfl) (by kernel_rfl) ?_
            simp only [List.take_succ_cons, List.take_zero, List.drop_succ_cons, List.drop_zero]
            repeat (go_big_quiet_step ((first | exact quietL (fMul_any _ _ _ hz0 hy0) | exact quietL (fAdd_any _ _ _ (ofF_nonneg _) (ofF_nonneg _)))))
            refine wpQuiet_nil ?_
            intro nq
            go_wp2_with fail
            simp only [toF_ofF]
            exact ⟨⟨p + 1, _, by omega, by go_num, by rw [HSUM.out], drewn_more HW.out nq⟩, by simp [intOf] <;> omega⟩
          · obtain rfl : n = p := by omega
            clear HW
            subst hw
            have hdp : decide ((n : Int) < (n : Int)) = false := by simp
            have hsz5 := B5.out.size
            have hfl : (fillL r n).length + 1 ≤ 17592186043904 := by rw [fillL_length]; omega
            have HFL := Lib.hid hfl
            clear hfl
            go_wp2_with (at_builtin; go_loud (refine wpList_push rfl _ _ (by rfl) wo.heap.size _ _ (ofF (fsum n fun k => co (toFs (fillL r n)) k * co (toFs V) k)) W5.heap.size 1 (by rfl) ((KF.out.drewN nd5).alloc _) (by rfl) (new_cell _ _ _) (U64.of_ofF _) HFL.out (by rw [size_alloc]; show wo.heap.size ≤ W5.heap.size + 1; omega) ?_))
            intro v6 w6 ho6 hb6
            have hrow6 : OwnNums w6 wo.heap.size v6 (rowV n V r) := ho6
            obtain ⟨A6, c6, hv6, _, _⟩ := own_form hrow6.1
            rw [rowV_length] at hv6
            subst hv6
            have B56 : Below wo.heap.size wo w6 := ((below_drewN B5.out nd5).alloc (by show wo.heap.size ≤ W5.heap.size; omega) _).trans hb6
            have KG6 := Lib.hid (KG.out.below B56)
            have KR6 := Lib.hid hrow6
            have HFAR := Lib.hid (show ∀ (k : Nat) (z : Value) (b : Nat), vs[k]? = some z → z.ownBlock = some b → (Value.slice A6 (n + 1) c6).ownBlock ≠ some b from fun k z b hz hzb hb => by
              have h1 := (hrow6.1.lt b hb).1
              have hk := (List.getElem?_eq_some_iff.1 hz).1
              rw [KG.out.vlen] at hk
              have h2 := ((KG.out.row k z _ hz (List.getElem?_eq_getElem hk)).1.lt b hzb).2
              omega)
            have BE6 := Lib.hid (BEL.out.trans (B56.mono (by omega)))
            have hsz6 := BE6.out.size
            have HTK := Lib.hid (show rowsV n V (rows0.take k) ++ [rowV n V r] = rowsV n V (rows0.take (k + 1)) by
              unfold rowsV
              rw [List.take_add_one, HRK.out, List.map_append]; rfl)
            have HLN := Lib.hid (show (rowsV n V (rows0.take k)).length + 1 ≤ 5864062014805 by unfold rowsV; rw [List.length_map, List.length_take]; omega)
            clear ho6 hb6 hrow6 B56 KF KV5 KR KR4 B5 BE4 hsz5
            go_wp2_with (at_builtin; go_loud (refine wpList_push_row4 rfl _ _ (by rfl) W2.heap.size _ vs (rowsV n V (rows0.take k)) (.slice A6 (n + 1) c6) (rowV n V r) w6.heap.size 1 (by rfl) (KG6.out.alloc _) (by rfl) (new_cell _ _ _) ((KR6.out.less hszb).alloc _) HFAR.out HLN.out (by rw [size_alloc]; omega) ?_))
            intro v7 w7 hg7 hb7 _ _
            rw [HTK.out] at hg7
            have KG7 := Lib.hid hg7
            have BE7 := Lib.hid ((BE6.out.alloc hsz6 (.cells #[.slice A6 (n + 1) c6] 23)).trans hb7)
            clear hg7 hb7
            go_wp2_with fail
            exact ⟨⟨k + 1, _, by omega, by go_num, KG7.out, BE7.out⟩, by simp [intOf] <;> omega⟩
      · obtain rfl : q = k := by omega
        have hdk : decide ((q : Int) < (q : Int)) = false := by simp
        obtain ⟨L, hL⟩ : ∃ L, L = rowsV n V (rows0.take q) := ⟨_, rfl⟩
        rw [← hL] at KG
        have HLEN := Lib.hid (show ∀ r ∈ L, r.length = n + 1 by rw [hL]; exact rowsV_len n V _)
        have HH := Lib.hid (show ∀ r ∈ L, fsum n (fun k => co (toFs r) k * co (toFs V) k) = co (toFs r) n by rw [hL]; exact rowsV_holds n V _)
        have hLm : L.length ≤ 8 := by rw [hL]; unfold rowsV; rw [List.length_map, List.length_take]; omega
        clear hL KA
        have HY := Lib.hid (meets_of HH.out)
        obtain ⟨m, hm⟩ : ∃ m, m = L.length := ⟨_, rfl⟩
        rw [← hm] at hLm
        have HM := Lib.hid hm.symm
        obtain ⟨Al, cl, hvl, hcl, _⟩ := own_form KG.out.outer
        rw [← hm] at hvl hcl
        subst hvl
        clear hm
        have B3 := Lib.hid (below_trans B2.out BEL.out B2.out.size)
        have KV4 := Lib.hid (KV3.out.below BEL.out)
        have hm5 : m ≤ 5864062014805 := by omega
        clear BEL B1 KV3
        go_wp2_with fail
        refine (solve_fits _ L n _ KG.out.is hn1 (by omega) (by rw [HM.out]; omega) HLEN.out HY.out).mono ?_
        rintro e W6 ⟨M6, ls6, hred6, vx, rfl, ho6, hb6⟩
        have R6 := Lib.hid hred6
        have KX6 := Lib.hid ho6
        have B6 := Lib.hid (below_trans B3.out hb6 B3.out.size)
        have KG6 := Lib.hid (KG.out.below hb6)
        have KV6 := Lib.hid (KV4.out.below hb6)
        have hsz6 := hb6.size
        clear ho6 hb6 hred6 KV4 B3 KG
        try dsimp only
        go_wp2_with fail
        refine (sRank_ok _ L n _ KG6.out.is (solE_ok hn1 (by omega) (by rw [HM.out]; omega) HLEN.out) hn1 (by omega) (by rw [HM.out]; omega) HLEN.out).mono ?_
        rintro e W7 ⟨rows7, ls7, rfl, hred7, hb7⟩
        have R7 := Lib.hid hred7
        have hrk1 : ls7.length ≤ m := by have := hred7.len; rw [HM.out] at this; exact this
        have hrk2 : ls7.length ≤ n := inc_few hred7.inc hred7.lt
        obtain ⟨rk, hrk⟩ : ∃ rk, rk = ls7.length := ⟨_, rfl⟩
        rw [← hrk] at hrk1 hrk2 ⊢
        have HRK := Lib.hid hrk
        have B7 := Lib.hid (below_trans B6.out hb7 B6.out.size)
        have KX7 := Lib.hid (KX6.out.below hb7)
        have KG7 := Lib.hid (KG6.out.below hb7)
        have KV7 := Lib.hid (KV6.out.below hb7)
        clear hb7 hred7 hrk KX6 KG6 KV6 B6
        have CH := Lib.hid (rHolds_ok (.slice Al m cl) vx L (ofFs (solF M6 ls6 n)) n W7 KG7.out.is KX7.out.is (by rw [ofFs_length]; simp [solF]) (by omega) (by rw [HM.out]; omega) HLEN.out (by
          have h := of_meets (R6.out.sol (R6.out.fits HY.out))
          intro r hr
          rw [← h r hr]
          exact fsum_congr fun k hk => by rw [toFs_ofFs, solF_co hk]))
        have hmin1 : ¬ ((rk : Int) > min (n : Int) (m : Int)) := by omega
        have hmin2 : decide ((rk : Int) > min (n : Int) (m : Int)) = false := by simp only [decide_eq_false_iff_not]; exact hmin1
        have hg1 : decide ((rk : Int) > (n : Int)) = false := by simp; omega
        have hg2 : decide ((rk : Int) > (m : Int)) = false := by simp; omega
        clear hmin1
        try dsimp only
        go_wp2_with fail
        refine CH.out.mono ?_
        rintro e W8 ⟨rfl, nd8, hW8⟩
        have hb8 : Below W7.heap.size W7 W8 := by rw [hW8]; exact below_drewN (Below.refl _ _) _
        have B8 := Lib.hid (below_trans B7.out hb8 B7.out.size)
        have KX8 := Lib.hid (KX7.out.below hb8)
        have KG8 := Lib.hid (KG7.out.below hb8)
        have KV8 := Lib.hid (KV7.out.below hb8)
        clear hb8 hW8 CH KX7 KG7 KV7 B7
        have hrk0 : m = 0 → rk = 0 := fun h => by omega
        by_cases hm0 : m = 0
        · have hb0 : ((m : Int) == 0) = true := by rw [beq_iff_eq]; omega
          have hb1 : ((rk : Int) == 0) = true := by rw [beq_iff_eq]; have := hrk0 hm0; omega
          have hb2 : ((rk : Int) == (n : Int)) = false := by rw [beq_eq_false_iff_ne]; have := hrk0 hm0; omega
          clear hrk0
          try dsimp only
          go_wp2_with fail
          all_goals exact HP.out _ B8.out
        have hb0 : ((m : Int) == 0) = false := by rw [beq_eq_false_iff_ne]; omega
        clear hrk0
        by_cases hfull : rk = n
        · have hb1 : ((rk : Int) == (n : Int)) = true := by rw [beq_iff_eq]; omega
          have HONLY := Lib.hid (show ∀ k, k < n → ySol M6 ls6 n k = co (toFs V) k from fun k hk => R6.out.only (by rw [R6.out.leads_eq R7.out (fun _ => Iff.rfl), ← HRK.out]; exact hfull) HY.out k hk)
          clear hfull
          obtain ⟨gx, cx, hvx, _, _⟩ := own_slice KX8.out.1 (by rw [ofFs_length]; simp [solF]; omega)
          rw [show (ofFs (solF M6 ls6 n)).length = n by rw [ofFs_length]; simp [solF]] at hvx
          subst hvx
          try dsimp only
          go_wp2_with fail
          all_goals
            go_loopw [123] (fun x wr => ∃ k nd : Nat, k ≤ n ∧ x = .int .i64 k ∧ wr = W8.drewN nd) (fun x _ => n - (intOf x).toNat)
            case atStart => exact ⟨0, 0, Nat.zero_le _, rfl, rfl⟩
            case round =>
              obtain ⟨k, nd9, hk, rfl, hw9⟩ := hrel
              have HW9 := Lib.hid hw9
              by_cases hlt9 : k < n
              · have hdk9 : decide ((k : Int) < (n : Int)) = true := by simp; omega
                obtain ⟨A, c, hA, _, _, _, hu, hr⟩ := KV8.out.drewn hw9
                rw [HVL.out] at hA
                injection hA with hA1 hA2 hA3
                subst hA1 hA3
                clear hA2
                obtain ⟨bv, ov, y, rfl, hbv, hy, huy, hcy⟩ := nums_at hr hu (k := k) (by rw [HVL.out]; exact hlt9)
                have hy0 := huy.1
                have hcx9 : wr.cell? ⟨gx, k, none⟩ = some (.int .u64 (ofF (toF y))) := by
                  have h := (KX8.out.drewn hw9).cell (j := k) (ofFs_get (get_co (l := solF M6 ls6 n) (by simp [solF]; exact hlt9)))
                  rw [solF_co hlt9, HONLY.out k hlt9, co_toFs hy] at h
                  exact h
                clear hr hu hbv hy huy hw9
                go_wp2_with fail
                go_quiet ((exact quietL (fNorm_any _ _ hy0)))
                go_wp2_with fail
                exact ⟨⟨k + 1, _, by omega, by go_num, drewn_more HW9.out nq⟩, by simp [intOf] <;> omega⟩
              · obtain rfl : n = k := by omega
                have hdk9 : decide ((n : Int) < (n : Int)) = false := by simp
                have hb9 : Below W8.heap.size W8 wr := by rw [hw9]; exact below_drewN (Below.refl _ _) _
                have KX9 := Lib.hid (KX8.out.below hb9)
                have KG9 := Lib.hid (KG8.out.below hb9)
                have B9 := Lib.hid (below_trans B8.out hb9 B8.out.size)
                clear hb9 hw9 HW9 KX8 KG8 KV8 B8
                have HLT9 := Lib.hid (show ∀ (k : Nat) (z : Value) (b : Nat), vs[k]? = some z → z.ownBlock = some b → b < wr.heap.size from fun k z b hz hzb => by
                  have hk := (List.getElem?_eq_some_iff.1 hz).1
                  rw [KG9.out.vlen] at hk
                  exact ((KG9.out.row k z _ hz (List.getElem?_eq_getElem hk)).1.lt b hzb).2)
                go_wp2_with fail
                obtain ⟨gl, clx, hvl, hgl1, hgl2⟩ := own_slice KG9.out.outer (by rw [HM.out]; omega)
                rw [HM.out] at hvl
                injection hvl with hvl1 _ hvl3
                subst hvl1 hvl3
                have hsW := B9.out.size
                have hsW2 : W2.heap.size ≤ wr.heap.size := by omega
                refine (rRest_any i m _ (by omega) (by omega)).mono ?_
                rintro e w' ⟨⟨r, hr, rfl⟩, rfl⟩
                obtain ⟨x, hx⟩ : ∃ x, vs[r]? = some x := ⟨_, List.getElem?_eq_getElem (by rw [KG9.out.vlen, HM.out]; exact hr)⟩
                obtain ⟨lr, hlr⟩ : ∃ lr, L[r]? = some lr := ⟨_, List.getElem?_eq_getElem (by rw [HM.out]; exact hr)⟩
                have HROW := Lib.hid (KG9.out.row r x lr hx hlr)
                have hcx := KG9.out.cell hx
                have HLRL := Lib.hid (HLEN.out lr (List.mem_of_getElem? hlr))
                have HLR := Lib.hid hlr
                clear hx hlr
                try dsimp only
                go_wp2_with fail
                refine (nClone_any _ lr _ HROW.out.is (by rw [HLRL.out]; omega)).mono ?_
                rintro e W10 ⟨vm, rfl, ho10, hb10⟩
                obtain ⟨Am, cm, hvm, _, _⟩ := own_form ho10.1
                rw [HLRL.out] at hvm
                subst hvm
                have KM10 := Lib.hid ho10
                have KX10 := Lib.hid (KX9.out.below hb10)
                have KG10 := Lib.hid (KG9.out.below hb10)
                have B10 := Lib.hid (below_trans B9.out hb10 hsW)
                have hs10 := hb10.size
                have HFAR := Lib.hid (show ∀ (k : Nat) (z : Value) (b : Nat), vs[k]? = some z → z.ownBlock = some b → (Value.slice Am (n + 1) cm).ownBlock ≠ some b from fun k z b hz hzb hb => by
                  have h1 := (ho10.1.lt b hb).1
                  have hk := (List.getElem?_eq_some_iff.1 hz).1
                  rw [KG9.out.vlen] at hk
                  have h2 := ((KG9.out.row k z _ hz (List.getElem?_eq_getElem hk)).1.lt b hzb).2
                  omega)
                clear ho10 hb10 hcx HROW KX9 KG9 B9
                try dsimp only
                go_wp2_with fail
                refine (gClone_any W2.heap.size gl cl m vs L _ KG10.out HM.out.symm (by omega)).mono ?_
                rintro e W11 ⟨vc, rfl, hg11, hb11, hov11⟩
                have KC11 := Lib.hid hg11
                have HB11 := Lib.hid hb11
                have HOV11 := Lib.hid hov11
                have KM11 := Lib.hid (KM10.out.below hb11)
                have hs11 := hb11.size
                clear hg11 hb11 hov11
                try dsimp only
                go_wp2_with (at_builtin; go_loud (refine wpList_push_row4 rfl _ _ (by rfl) W2.heap.size _ vs L (.slice Am (n + 1) cm) lr W11.heap.size 1 (by rfl) (KC11.out.alloc _) (by rfl) (new_cell _ _ _) ((KM11.out.less hsW2).alloc _) HFAR.out (by rw [HM.out]; omega) (by rw [size_alloc]; omega) ?_))
                intro v12 W12 hg12 _ hgr12 _
                have BB12 : Below W10.heap.size W10 W12 := (HB11.out.alloc hs11 (.cells #[.slice Am (n + 1) cm] 23)).trans ((Below.refl _ _).grown hgr12 (by rw [size_alloc]; omega) HOV11.out)
                have KC12 := Lib.hid hg12
                have KM12 := Lib.hid (KM10.out.below BB12)
                have KX12 := Lib.hid (KX10.out.below BB12)
                have KG12 := Lib.hid (KG10.out.below BB12)
                have B12 := Lib.hid (below_trans B10.out BB12 B10.out.size)
                have hs12 := BB12.size
                clear hg12 hgr12 BB12 KC11 HB11 HOV11 KM11 KM10 KX10 KG10 B10
                have HLEN2 := Lib.hid (show ∀ q ∈ L ++ [lr], q.length = n + 1 from fun q hq => by
                  rcases List.mem_append.1 hq with h | h
                  · exact HLEN.out q h
                  · rw [List.mem_singleton] at h; subst h; exact HLRL.out)
                have HY2 := Lib.hid (meets_of (n := n) (L := L ++ [lr]) (y := co (toFs V)) (fun q hq => by
                  rcases List.mem_append.1 hq with h | h
                  · exact HH.out q h
                  · rw [List.mem_singleton] at h; subst h; exact HH.out q (List.mem_of_getElem? HLR.out)))
                go_wp2_with fail
                refine (solve_fits _ (L ++ [lr]) n _ KC12.out.is hn1 (by omega) (by rw [List.length_append, HM.out]; simp; omega) HLEN2.out HY2.out).mono ?_
                rintro e W13 ⟨M13, ls13, hred13, vy, rfl, ho13, hb13⟩
                rw [← solF_eq (R6.out.sol_eq hred13 (more_ker HLR.out) HY.out)] at ho13
                have KY13 := Lib.hid ho13.is
                have KX13 := Lib.hid (KX12.out.is.below hb13)
                have KM13 := Lib.hid (KM12.out.below hb13)
                have KG13 := Lib.hid (KG12.out.below hb13)
                have B13 := Lib.hid (below_trans B12.out hb13 B12.out.size)
                have hs13 := hb13.size
                clear hred13 ho13 hb13 KC12 KM12 KX12 KG12 B12 HLEN2 HY2
                try dsimp only
                go_wp2_with fail
                refine (equal_any _ _ _ _ _ KX13.out KY13.out).mono ?_
                rintro e W14 ⟨rfl, nd14, hW14⟩
                rw [decide_eq_true rfl]
                have hb14 : Below W13.heap.size W13 W14 := by rw [hW14]; exact below_drewN (Below.refl _ _) _
                have KM14 := Lib.hid (KM13.out.below hb14)
                have KG14 := Lib.hid (KG13.out.below hb14)
                have B14 := Lib.hid (below_trans B13.out hb14 B13.out.size)
                have hs14 := hb14.size
                clear hb14 hW14 KX13 KY13 KM13 KG13 B13
                try dsimp only
                go_wp2_with fail
                refine (nClone_any _ lr _ KM14.out.is (by rw [HLRL.out]; omega)).mono ?_
                rintro e W15 ⟨vm2, rfl, ho15, hb15⟩
                obtain ⟨gm, cm2, hvm2, hgm1, hgm2⟩ := own_slice ho15.1 (by rw [HLRL.out]; omega)
                rw [HLRL.out] at hvm2
                subst hvm2
                obtain ⟨z, hz⟩ : ∃ z, lr[n]? = some z := ⟨_, List.getElem?_eq_getElem (by rw [HLRL.out]; omega)⟩
                have hcz := ho15.cell hz
                have hfz := ho15.frozen n
                have hz0 := (ho15.2.2 z (List.mem_of_getElem? hz)).1
                have HZ := Lib.hid hz
                have KM16 := Lib.hid (ho15.set_ n (U64.of_ofF (toF z + toF by_)))
                have hb16 : Below W14.heap.size W14 (W15.setCell ⟨gm, n, none⟩ (.int .u64 (ofF (toF z + toF by_)))) := hb15.setCell (p := ⟨gm, n, none⟩) hgm1 _
                have KG16 := Lib.hid (KG14.out.below hb16)
                have B16 := Lib.hid (below_trans B14.out hb16 B14.out.size)
                have hs16 := hb16.size
                clear ho15 hb15 hb16 hz KM14 KG14 B14
                try dsimp only
                go_wp2_with fail
                refine (fAdd_any _ _ _ hz0 hby0).mono ?_
                rintro e w' ⟨rfl, rfl⟩
                try dsimp only
                go_wp2_with fail
                obtain ⟨lr2, hlr2⟩ : ∃ l, l = lr.set n (ofF (toF z + toF by_)) := ⟨_, rfl⟩
                rw [← hlr2] at KM16
                have HLR2 := Lib.hid hlr2
                have HL2L := Lib.hid (show lr2.length = n + 1 by rw [hlr2, List.length_set]; exact HLRL.out)
                clear hlr2 hcz hfz
                refine (gClone_any W2.heap.size gl cl m vs L _ KG16.out HM.out.symm (by omega)).mono ?_
                rintro e W17 ⟨vc2, rfl, hg17, hb17, hov17⟩
                have KC17 := Lib.hid hg17
                have HB17 := Lib.hid hb17
                have HOV17 := Lib.hid hov17
                have KM17 := Lib.hid (KM16.out.below hb17)
                have B17 := Lib.hid (below_trans B16.out hb17 B16.out.size)
                have hs17 := hb17.size
                have hs214 : W2.heap.size ≤ W14.heap.size := by omega
                have HFAR2 := Lib.hid (show ∀ (k : Nat) (z : Value) (b : Nat), vs[k]? = some z → z.ownBlock = some b → (Value.slice (some ⟨gm, 0, none⟩) (n + 1) cm2).ownBlock ≠ some b from fun k z b hz hzb hb => by
                  have hb : gm = b := by simpa [Value.ownBlock] using hb
                  have h3 := HLT9.out k z b hz hzb
                  omega)
                clear hg17 hb17 hov17 KM16 KG16 B16
                try dsimp only
                go_wp2_with (at_builtin; go_loud (refine wpList_push_row4 rfl _ _ (by rfl) W2.heap.size _ vs L (.slice (some ⟨gm, 0, none⟩) (n + 1) cm2) lr2 W17.heap.size 1 (by rfl) (KC17.out.alloc _) (by rfl) (new_cell _ _ _) ((KM17.out.less hs214).alloc _) HFAR2.out (by rw [HM.out]; omega) (by rw [size_alloc]; omega) ?_))
                intro v18 W18 hg18 hb18 _ _
                have KC18 := Lib.hid hg18
                have B18 := Lib.hid ((B17.out.alloc B17.out.size (.cells #[.slice (some ⟨gm, 0, none⟩) (n + 1) cm2] 23)).trans (hb18.mono B2.out.size))
                clear hg18 hb18 KC17 HB17 HOV17 KM17 B17
                go_wp2_with fail
                rw [HLR2.out] at KC18
                refine (solve_more _ L lr n r z by_ _ KC18.out.is hn1 (by omega) (by rw [HM.out]; omega) HLEN.out HLR.out HZ.out HY.out).mono ?_
                rintro e W19 ⟨v19, err, rfl, herr, hb19⟩
                have B19 := Lib.hid (below_trans B18.out hb19 B18.out.size)
                clear hb19 KC18 B18
                rcases herr with ⟨hb0', rfl⟩ | ⟨hb0', rfl⟩
                · have hnb : (ofF (toF by_) != 0) = false := by rw [hb0']; rfl
                  clear hb0'
                  try dsimp only
                  go_wp2_with fail
                  refine (fNorm_any _ _ hby0).mono ?_
                  rintro e w' ⟨rfl, rfl⟩
                  try dsimp only
                  go_wp2_with fail
                  exact HP.out _ B19.out
                · have hnb : (ofF (toF by_) != 0) = true := by
                    rw [bne_iff_ne]
                    intro h
                    have := congrArg toF h
                    rw [toF_ofF, toF_zero] at this
                    exact hb0' this
                  clear hb0'
                  try dsimp only
                  go_wp2_with fail
                  refine (fNorm_any _ _ hby0).mono ?_
                  rintro e w' ⟨rfl, rfl⟩
                  try dsimp only
                  go_wp2_with fail
                  exact HP.out _ B19.out
        · have hb1 : ((rk : Int) == (n : Int)) = false := by rw [beq_eq_false_iff_ne]; omega
          have HLT9 := Lib.hid (show ∀ (k : Nat) (z : Value) (b : Nat), vs[k]? = some z → z.ownBlock = some b → b < W8.heap.size from fun k z b hz hzb => by
            have hk := (List.getElem?_eq_some_iff.1 hz).1
            rw [KG8.out.vlen] at hk
            exact ((KG8.out.row k z _ hz (List.getElem?_eq_getElem hk)).1.lt b hzb).2)
          have KX9 := Lib.hid KX8.out
          have KG9 := Lib.hid KG8.out
          have B9 := Lib.hid B8.out
          clear KX8 KG8 B8
          try dsimp only
          go_wp2_with fail
          all_goals
            obtain ⟨gl, clx, hvl, hgl1, hgl2⟩ := own_slice KG9.out.outer (by rw [HM.out]; omega)
            rw [HM.out] at hvl
            injection hvl with hvl1 _ hvl3
            subst hvl1 hvl3
            have hsW := B9.out.size
            have hsW2 : W2.heap.size ≤ W8.heap.size := by omega
            refine (rRest_any i m _ (by omega) (by omega)).mono ?_
            rintro e w' ⟨⟨r, hr, rfl⟩, rfl⟩
            obtain ⟨x, hx⟩ : ∃ x, vs[r]? = some x := ⟨_, List.getElem?_eq_getElem (by rw [KG9.out.vlen, HM.out]; exact hr)⟩
            obtain ⟨lr, hlr⟩ : ∃ lr, L[r]? = some lr := ⟨_, List.getElem?_eq_getElem (by rw [HM.out]; exact hr)⟩
            have HROW := Lib.hid (KG9.out.row r x lr hx hlr)
            have hcx := KG9.out.cell hx
            have HLRL := Lib.hid (HLEN.out lr (List.mem_of_getElem? hlr))
            have HLR := Lib.hid hlr
            clear hx hlr
            try dsimp only
            go_wp2_with fail
            refine (nClone_any _ lr _ HROW.out.is (by rw [HLRL.out]; omega)).mono ?_
            rintro e W10 ⟨vm, rfl, ho10, hb10⟩
            obtain ⟨Am, cm, hvm, _, _⟩ := own_form ho10.1
            rw [HLRL.out] at hvm
            subst hvm
            have KM10 := Lib.hid ho10
            have KX10 := Lib.hid (KX9.out.below hb10)
            have KG10 := Lib.hid (KG9.out.below hb10)
            have B10 := Lib.hid (below_trans B9.out hb10 hsW)
            have hs10 := hb10.size
            have HFAR := Lib.hid (show ∀ (k : Nat) (z : Value) (b : Nat), vs[k]? = some z → z.ownBlock = some b → (Value.slice Am (n + 1) cm).ownBlock ≠ some b from fun k z b hz hzb hb => by
              have h1 := (ho10.1.lt b hb).1
              have hk := (List.getElem?_eq_some_iff.1 hz).1
              rw [KG9.out.vlen] at hk
              have h2 := ((KG9.out.row k z _ hz (List.getElem?_eq_getElem hk)).1.lt b hzb).2
              omega)
            clear ho10 hb10 hcx HROW KX9 KG9 B9
            try dsimp only
            go_wp2_with fail
            refine (gClone_any W2.heap.size gl cl m vs L _ KG10.out HM.out.symm (by omega)).mono ?_
            rintro e W11 ⟨vc, rfl, hg11, hb11, hov11⟩
            have KC11 := Lib.hid hg11
            have HB11 := Lib.hid hb11
            have HOV11 := Lib.hid hov11
            have KM11 := Lib.hid (KM10.out.below hb11)
            have hs11 := hb11.size
            clear hg11 hb11 hov11
            try dsimp only
            go_wp2_with (at_builtin; go_loud (refine wpList_push_row4 rfl _ _ (by rfl) W2.heap.size _ vs L (.slice Am (n + 1) cm) lr W11.heap.size 1 (by rfl) (KC11.out.alloc _) (by rfl) (new_cell _ _ _) ((KM11.out.less hsW2).alloc _) HFAR.out (by rw [HM.out]; omega) (by rw [size_alloc]; omega) ?_))
            intro v12 W12 hg12 _ hgr12 _
            have BB12 : Below W10.heap.size W10 W12 := (HB11.out.alloc hs11 (.cells #[.slice Am (n + 1) cm] 23)).trans ((Below.refl _ _).grown hgr12 (by rw [size_alloc]; omega) HOV11.out)
            have KC12 := Lib.hid hg12
            have KM12 := Lib.hid (KM10.out.below BB12)
            have KX12 := Lib.hid (KX10.out.below BB12)
            have KG12 := Lib.hid (KG10.out.below BB12)
            have B12 := Lib.hid (below_trans B10.out BB12 B10.out.size)
            have hs12 := BB12.size
            clear hg12 hgr12 BB12 KC11 HB11 HOV11 KM11 KM10 KX10 KG10 B10
            have HLEN2 := Lib.hid (show ∀ q ∈ L ++ [lr], q.length = n + 1 from fun q hq => by
              rcases List.mem_append.1 hq with h | h
              · exact HLEN.out q h
              · rw [List.mem_singleton] at h; subst h; exact HLRL.out)
            have HY2 := Lib.hid (meets_of (n := n) (L := L ++ [lr]) (y := co (toFs V)) (fun q hq => by
              rcases List.mem_append.1 hq with h | h
              · exact HH.out q h
              · rw [List.mem_singleton] at h; subst h; exact HH.out q (List.mem_of_getElem? HLR.out)))
            go_wp2_with fail
            refine (solve_fits _ (L ++ [lr]) n _ KC12.out.is hn1 (by omega) (by rw [List.length_append, HM.out]; simp; omega) HLEN2.out HY2.out).mono ?_
            rintro e W13 ⟨M13, ls13, hred13, vy, rfl, ho13, hb13⟩
            rw [← solF_eq (R6.out.sol_eq hred13 (more_ker HLR.out) HY.out)] at ho13
            have KY13 := Lib.hid ho13.is
            have KX13 := Lib.hid (KX12.out.is.below hb13)
            have KM13 := Lib.hid (KM12.out.below hb13)
            have KG13 := Lib.hid (KG12.out.below hb13)
            have B13 := Lib.hid (below_trans B12.out hb13 B12.out.size)
            have hs13 := hb13.size
            clear hred13 ho13 hb13 KC12 KM12 KX12 KG12 B12 HLEN2 HY2
            try dsimp only
            go_wp2_with fail
            refine (equal_any _ _ _ _ _ KX13.out KY13.out).mono ?_
            rintro e W14 ⟨rfl, nd14, hW14⟩
            rw [decide_eq_true rfl]
            have hb14 : Below W13.heap.size W13 W14 := by rw [hW14]; exact below_drewN (Below.refl _ _) _
            have KM14 := Lib.hid (KM13.out.below hb14)
            have KG14 := Lib.hid (KG13.out.below hb14)
            have B14 := Lib.hid (below_trans B13.out hb14 B13.out.size)
            have hs14 := hb14.size
            clear hb14 hW14 KX13 KY13 KM13 KG13 B13
            try dsimp only
            go_wp2_with fail
            refine (nClone_any _ lr _ KM14.out.is (by rw [HLRL.out]; omega)).mono ?_
            rintro e W15 ⟨vm2, rfl, ho15, hb15⟩
            obtain ⟨gm, cm2, hvm2, hgm1, hgm2⟩ := own_slice ho15.1 (by rw [HLRL.out]; omega)
            rw [HLRL.out] at hvm2
            subst hvm2
            obtain ⟨z, hz⟩ : ∃ z, lr[n]? = some z := ⟨_, List.getElem?_eq_getElem (by rw [HLRL.out]; omega)⟩
            have hcz := ho15.cell hz
            have hfz := ho15.frozen n
            have hz0 := (ho15.2.2 z (List.mem_of_getElem? hz)).1
            have HZ := Lib.hid hz
            have KM16 := Lib.hid (ho15.set_ n (U64.of_ofF (toF z + toF by_)))
            have hb16 : Below W14.heap.size W14 (W15.setCell ⟨gm, n, none⟩ (.int .u64 (ofF (toF z + toF by_)))) := hb15.setCell (p := ⟨gm, n, none⟩) hgm1 _
            have KG16 := Lib.hid (KG14.out.below hb16)
            have B16 := Lib.hid (below_trans B14.out hb16 B14.out.size)
            have hs16 := hb16.size
            clear ho15 hb15 hb16 hz KM14 KG14 B14
            try dsimp only
            go_wp2_with fail
            refine (fAdd_any _ _ _ hz0 hby0).mono ?_
            rintro e w' ⟨rfl, rfl⟩
            try dsimp only
            go_wp2_with fail
            obtain ⟨lr2, hlr2⟩ : ∃ l, l = lr.set n (ofF (toF z + toF by_)) := ⟨_, rfl⟩
            rw [← hlr2] at KM16
            have HLR2 := Lib.hid hlr2
            have HL2L := Lib.hid (show lr2.length = n + 1 by rw [hlr2, List.length_set]; exact HLRL.out)
            clear hlr2 hcz hfz
            refine (gClone_any W2.heap.size gl cl m vs L _ KG16.out HM.out.symm (by omega)).mono ?_
            rintro e W17 ⟨vc2, rfl, hg17, hb17, hov17⟩
            have KC17 := Lib.hid hg17
            have HB17 := Lib.hid hb17
            have HOV17 := Lib.hid hov17
            have KM17 := Lib.hid (KM16.out.below hb17)
            have B17 := Lib.hid (below_trans B16.out hb17 B16.out.size)
            have hs17 := hb17.size
            have hs214 : W2.heap.size ≤ W14.heap.size := by omega
            have HFAR2 := Lib.hid (show ∀ (k : Nat) (z : Value) (b : Nat), vs[k]? = some z → z.ownBlock = some b → (Value.slice (some ⟨gm, 0, none⟩) (n + 1) cm2).ownBlock ≠ some b from fun k z b hz hzb hb => by
              have hb : gm = b := by simpa [Value.ownBlock] using hb
              have h3 := HLT9.out k z b hz hzb
              omega)
            clear hg17 hb17 hov17 KM16 KG16 B16
            try dsimp only
            go_wp2_with (at_builtin; go_loud (refine wpList_push_row4 rfl _ _ (by rfl) W2.heap.size _ vs L (.slice (some ⟨gm, 0, none⟩) (n + 1) cm2) lr2 W17.heap.size 1 (by rfl) (KC17.out.alloc _) (by rfl) (new_cell _ _ _) ((KM17.out.less hs214).alloc _) HFAR2.out (by rw [HM.out]; omega) (by rw [size_alloc]; omega) ?_))
            intro v18 W18 hg18 hb18 _ _
            have KC18 := Lib.hid hg18
            have B18 := Lib.hid ((B17.out.alloc B17.out.size (.cells #[.slice (some ⟨gm, 0, none⟩) (n + 1) cm2] 23)).trans (hb18.mono B2.out.size))
            clear hg18 hb18 KC17 HB17 HOV17 KM17 B17
            go_wp2_with fail
            rw [HLR2.out] at KC18
            refine (solve_more _ L lr n r z by_ _ KC18.out.is hn1 (by omega) (by rw [HM.out]; omega) HLEN.out HLR.out HZ.out HY.out).mono ?_
            rintro e W19 ⟨v19, err, rfl, herr, hb19⟩
            have B19 := Lib.hid (below_trans B18.out hb19 B18.out.size)
            clear hb19 KC18 B18
            rcases herr with ⟨hb0', rfl⟩ | ⟨hb0', rfl⟩
            · have hnb : (ofF (toF by_) != 0) = false := by rw [hb0']; rfl
              clear hb0'
              try dsimp only
              go_wp2_with fail
              refine (fNorm_any _ _ hby0).mono ?_
              rintro e w' ⟨rfl, rfl⟩
              try dsimp only
              go_wp2_with fail
              exact HP.out _ B19.out
            · have hnb : (ofF (toF by_) != 0) = true := by
                rw [bne_iff_ne]
                intro h
                have := congrArg toF h
                rw [toF_ofF, toF_zero] at this
                exact hb0' this
              clear hb0'
              try dsimp only
              go_wp2_with fail
              refine (fNorm_any _ _ hby0).mono ?_
              rintro e w' ⟨rfl, rfl⟩
              try dsimp only
              go_wp2_with fail
              exact HP.out _ B19.out
end Go.Proofs.Ytoleaijjgaekcaa
