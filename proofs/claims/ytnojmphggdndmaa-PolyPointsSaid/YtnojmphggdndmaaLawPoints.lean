/- The law PolyPoints, walked. -/
import Derived.Test.YtnojmphggdndmaaThroughW
import Derived.Test.YtnojmphggdndmaaKeepW
import Derived.Test.YtnojmphggdndmaaPolyX
import Derived.Test.YtnojmphggdndmaaInts
namespace Go.Proofs.Ytnojmphggdndmaa
open Go.RowKit Croft
theorem first_ok : AtsOk [(1, 5), (2, 7)] 2147483646 := by decide
theorem first_is {Q : List F} (h : Interp (ptsF [(1, 5), (2, 7)]) Q) : ofFs Q = [3, 2] := by
  have h2 : Interp (ptsF [(1, 5), (2, 7)]) [3, 2] := ⟨by decide +kernel, by decide, fun p hp => by
    simp only [ptsF, List.map_cons, List.map_nil, List.mem_cons, List.not_mem_nil, or_false] at hp
    rcases hp with rfl | rfl <;> decide +kernel⟩
  rw [h.unique (pts_nodup first_ok) h2]; decide +kernel
def wrapU (a : Int) : Int := a % 18446744073709551616
/-- values of a polynomial -/
def ptL (zs : List Int) (ats : List Int) : List (Int × Int) := ats.map fun a => (a, ofF (peval (toFs zs) (toF (wrapU a))))
theorem ptL_next {zs ats : List Int} {k : Nat} {a : Int} (h : ats[k]? = some a) : ptL zs (ats.take (k + 1)) = ptL zs (ats.take k) ++ [(a, ofF (peval (toFs zs) (toF (a % 18446744073709551616))))] := by
  unfold ptL wrapU
  rw [List.take_add_one, h]
  simp
theorem pt_interp {zs ats : List Int} (h : AtsOk (ptL zs ats) 2147483646) (hl : zs.length ≤ (ptL zs ats).length) : Interp (ptsF (ptL zs ats)) (pnorm (toFs zs)) := by
  refine ⟨pnorm_norm _, by have := pnorm_length (toFs zs); rw [toFs_length] at this; simp only [ptsF, List.length_map]; omega, fun p hp => ?_⟩
  obtain ⟨s, hs, rfl⟩ := List.mem_map.1 hp
  have h1 := h.1 s hs
  obtain ⟨a, _, rfl⟩ := List.mem_map.1 hs
  dsimp only at h1
  rw [pnorm_eval, toF_ofF, show wrapU a = a from Int.emod_eq_of_lt (by omega) (by omega)]
theorem wrap_u64 (a : Int) : IntKind.u64.wrap a = a % 18446744073709551616 := rfl
theorem Below.drewN_alloc {B : Nat} {a w : World} (h : Below B a w) (n : Nat) (o : Obj) (hB : B ≤ w.heap.size) : Below B a ((w.drewN n).alloc o) := (below_drewN h n).alloc hB o
set_option maxRecDepth 100000 in
set_option maxHeartbeats 2000000 in
theorem polyPoints_any (va vb : Value) (xs ats : List Int) (w : World) (h1 : IsNums w va xs) (h2 : IsInts w vb ats) :
    Calls Try.prog 11 #[va, vb] w fun e w' => e = .returned (.bool true) ∧ Below w.heap.size w w' := by
  have KA := Lib.hid h1
  have KB := Lib.hid h2
  obtain ⟨A2, c2, rfl, hc2, hm2, hl2, hu2, hr2⟩ := h2
  have hm2' : c2 ≤ 9223372036854775807 := by unfold maxLen at hm2; exact hm2
  obtain ⟨m, hmn⟩ : ∃ m : Nat, min (12 : Int) (ats.length : Int) = (m : Int) := ⟨(min (12 : Int) (ats.length : Int)).toNat, by omega⟩
  have hm12 : m ≤ 12 := by omega
  have hml : m ≤ ats.length := by omega
  clear hu2 hr2 hm2
  have BEL := Lib.hid (Below.refl w.heap.size w)
  clear h1
  go_enter Try.func11, Try.ntmps11
  go_wp2_with fail
  have LS := Lib.hid (lit_shares w w.heap.size [(1, 5), (2, 7)] (by simp [I64, U64]) (by simp) (Nat.le_refl _)).is
  have hb := (Below.refl w.heap.size w).alloc (Nat.le_refl _) (.cells (shs [(1, 5), (2, 7)]).toArray 63)
  replace KA := Lib.hid (KA.out.below hb)
  replace KB := Lib.hid (KB.out.below hb)
  replace BEL := Lib.hid (below_trans BEL.out hb BEL.out.size)
  clear hb
  change Calls _ _ _ (w.alloc (.cells (shs [(1, 5), (2, 7)]).toArray 63)) _
  generalize hW : w.alloc (.cells (shs [(1, 5), (2, 7)]).toArray 63) = W1 at *
  clear hW
  refine (pThrough_small _ _ _ LS.out (by simp)).mono ?_
  rintro e W2 hh
  obtain ⟨Q, hQ, vT, rfl, ho, hb⟩ := hh.1 first_ok
  rw [first_is hQ] at ho
  have KT := Lib.hid ho.is
  replace KA := Lib.hid (KA.out.below hb)
  replace KB := Lib.hid (KB.out.below hb)
  replace BEL := Lib.hid (below_trans BEL.out hb BEL.out.size)
  clear hh ho hb hQ LS
  dsimp only
  go_wp2_with fail
  have L30 := lit_nums (W2) [3, 2] (by intro z hz; simp only [List.mem_cons, List.not_mem_nil, or_false] at hz; rcases hz with rfl | rfl <;> first | exact ⟨by omega, by omega⟩ | exact U64.of_ofF _) (by simp)
  simp only [u64s, List.map_cons, List.map_nil, List.length_cons, List.length_nil] at L30
  have hb := (Below.refl (W2).heap.size (W2)).alloc (Nat.le_refl _) (.cells #[Value.int .u64 3, Value.int .u64 2] 25)
  replace KA := Lib.hid (KA.out.below hb)
  replace KB := Lib.hid (KB.out.below hb)
  replace KT := Lib.hid (KT.out.below hb)
  replace BEL := Lib.hid (below_trans BEL.out hb BEL.out.size)
  clear hb
  have L3 := Lib.hid L30
  clear L30
  generalize hW : (W2).alloc (.cells #[Value.int .u64 3, Value.int .u64 2] 25) = W3 at *
  clear hW
  refine (equal_any _ _ _ _ _ KT.out L3.out).mono ?_
  rintro e w' ⟨rfl, nd, rfl⟩
  rw [decide_eq_true rfl]
  try dsimp only
  have hb := below_drewN (Below.refl W3.heap.size W3) nd
  replace KA := Lib.hid (KA.out.below hb)
  replace KB := Lib.hid (KB.out.below hb)
  replace KT := Lib.hid (KT.out.below hb)
  replace L3 := Lib.hid (L3.out.below hb)
  replace BEL := Lib.hid (below_trans BEL.out hb BEL.out.size)
  clear hb
  generalize hW : W3.drewN nd = W4 at *
  clear hW
  go_wp2_with fail
  case inl =>
    refine (kShort_any _ _ _ _ KA.out (by omega)).mono ?_
    rintro e w' ⟨v5, rfl, hs, rfl⟩
    obtain ⟨zs, hzs⟩ : ∃ zs, zs = xs.take (ats.length : Int).toNat := ⟨_, rfl⟩
    rw [← hzs] at hs
    have hzl : zs.length ≤ ats.length := by rw [hzs, List.length_take]; omega
    clear hzs
    have KZ := Lib.hid hs
    clear hs
    dsimp only
    go_wp2_with fail
    replace BEL := Lib.hid BEL.out
    obtain ⟨w0, hw0⟩ : ∃ w0, w0 = W4 := ⟨_, rfl⟩
    go_loopw [7, 42] (fun lv i wr => ∃ k : Nat, k ≤ ats.length ∧ i = .int .i64 k ∧ OwnShares wr W4.heap.size lv (ptL zs (ats.take k)) ∧ Below W4.heap.size W4 wr ∧ Below w.heap.size w wr) (fun _ i _ => ats.length - (intOf i).toNat)
    case atStart => exact ⟨0, Nat.zero_le _, rfl, OwnShares.nil _ _, Below.refl _ _, BEL.out⟩
    case round =>
      obtain ⟨k, hk, rfl, hown, hbel, hbel2⟩ := hrel
      have KL := Lib.hid hown
      have KZ2 := Lib.hid (KZ.out.below hbel)
      have KB2 := Lib.hid (KB.out.below hbel)
      have B1 := Lib.hid hbel
      have B2 := Lib.hid hbel2
      have hsz := hbel2.size
      have hsz4 := hbel.size
      have hs4 := BEL.out.size
      clear hown hbel hbel2 hw0
      by_cases hlt : k < ats.length
      · obtain ⟨A, c, hA, _, _, _, hu2, hr2⟩ := KB2.out
        injection hA with hA1 hA2 hA3
        subst hA1 hA3
        obtain ⟨b1, o1, a_, rfl, hb1, hg, hat, hc1⟩ := ints_at hr2 hu2 (show k < ats.length by omega)
        clear hr2 hu2
        go_wp2_with fail
        obtain ⟨u, hu⟩ : ∃ u, u = IntKind.u64.wrap a_ := ⟨_, rfl⟩
        have hu0 : 0 ≤ u := by rw [hu, wrap_u64]; exact Int.emod_nonneg _ (by omega)
        rw [← hu]
        have HU := Lib.hid (hu.trans (wrap_u64 a_))
        have HG := Lib.hid hg
        clear hu hg hc1
        refine (pEval_ok _ _ _ _ KZ2.out hu0 (by omega)).mono ?_
        rintro e w' ⟨rfl, n1, rfl⟩
        obtain ⟨y, hy⟩ : ∃ y, y = ofF (peval (toFs zs) (toF u)) := ⟨_, rfl⟩
        have huy : U64 y := by rw [hy]; exact U64.of_ofF _
        rw [← hy]
        have HY := Lib.hid hy
        have hpl : (ptL zs (ats.take k)).length = k := by simp [ptL]; omega
        clear hy
        dsimp only
        go_wp2_with (at_builtin; go_loud (refine wpList_push_share rfl _ _ rfl W4.heap.size _ (ptL zs (ats.take k)) a_ y (wr.drewN n1).heap.size 1 rfl ((KL.out.drewN n1).alloc _) rfl (pair_cell0 _ _ _ _) (pair_cell1 _ _ _ _) hat huy (by omega) (by rw [size_alloc]; show _ ≤ wr.heap.size + 1; omega) ?_))
        intro v9 w9 ho9 hb9
        have K9 := Lib.hid (show OwnShares w9 W4.heap.size v9 (ptL zs (ats.take (k + 1))) by
          rw [ptL_next HG.out, ← HU.out, ← HY.out]; exact ho9)
        have B3 := Lib.hid ((Below.drewN_alloc B1.out n1 (.cells #[.int .i64 a_, .int .u64 y] 63) B1.out.size).trans (hb9.mono (by omega)))
        have B4 := Lib.hid ((Below.drewN_alloc B2.out n1 (.cells #[.int .i64 a_, .int .u64 y] 63) hsz).trans (hb9.mono hs4))
        clear ho9 hb9
        go_wp2_with fail
        exact ⟨⟨k + 1, by omega, by go_num, K9.out, B3.out, B4.out⟩, by simp [intOf] <;> omega⟩
      · obtain rfl : k = ats.length := by omega
        have hpl : (ptL zs (ats.take (ats.length))).length ≤ 40 := by simp only [ptL, List.length_map, List.length_take]; omega
        have hpz : zs.length ≤ (ptL zs (ats.take (ats.length))).length := by simp only [ptL, List.length_map, List.length_take]; omega
        have HPL := Lib.hid hpl
        have HPZ := Lib.hid hpz
        obtain ⟨L, hL⟩ : ∃ L, L = ptL zs (ats.take (ats.length)) := ⟨_, rfl⟩
        rw [← hL] at KL HPL HPZ
        have HL := Lib.hid hL
        clear hpl hpz hL KB2
        go_wp2_with fail
        by_cases hok : AtsOk L 2147483646
        · have HOK := Lib.hid hok
          clear hok
          refine (pThrough_small _ _ _ KL.out.is HPL.out).mono ?_
          rintro e W8 hh
          obtain ⟨Q, hQ, vQ, rfl, ho, hb⟩ := hh.1 HOK.out
          have HQ := Lib.hid (hQ.unique (pts_nodup HOK.out) (by rw [HL.out] at HOK HPZ ⊢; exact pt_interp HOK.out HPZ.out))
          have KQ := Lib.hid ho.is
          replace KZ2 := Lib.hid (KZ2.out.below hb)
          replace B2 := Lib.hid (below_trans B2.out hb B2.out.size)
          clear hh ho hb hQ KL
          dsimp only
          go_wp2_with fail
          refine (pNorm_ok _ _ _ KZ2.out (by omega)).mono ?_
          rintro e W9 ⟨vN, rfl, ho, hb⟩
          have KN := Lib.hid ho.is
          replace KQ := Lib.hid (KQ.out.below hb)
          replace B2 := Lib.hid (below_trans B2.out hb B2.out.size)
          clear ho hb
          dsimp only
          go_wp2_with fail
          refine (equal_any _ _ _ _ _ KQ.out KN.out).mono ?_
          rintro e w' ⟨rfl, nd2, rfl⟩
          rw [HQ.out, decide_eq_true rfl]
          dsimp only
          go_wp2_with fail
          go_ret
          exact ⟨rfl, below_drewN B2.out _⟩
        · have HOK := Lib.hid hok
          clear hok
          refine (pThrough_small _ _ _ KL.out.is HPL.out).mono ?_
          rintro e W8 hh
          obtain ⟨vQ, rfl, ho, hb⟩ := hh.2 HOK.out
          have KL2 := Lib.hid (KL.out.is.below hb)
          replace B2 := Lib.hid (below_trans B2.out hb B2.out.size)
          clear hh ho hb KL
          dsimp only
          go_wp2_with fail
          refine (rAts_any _ _ _ _ KL2.out).mono ?_
          rintro e w' ⟨rfl, nd2, rfl⟩
          rw [show atsB L 2147483646 = false from decide_eq_false HOK.out]
          dsimp only
          go_wp2_with fail
          go_ret
          exact ⟨rfl, below_drewN B2.out _⟩
  case inr =>
    refine (kShort_any _ _ _ _ KA.out (by omega)).mono ?_
    rintro e w' ⟨v5, rfl, hs, rfl⟩
    obtain ⟨zs, hzs⟩ : ∃ zs, zs = xs.take (max (12 : Int) 0).toNat := ⟨_, rfl⟩
    rw [← hzs] at hs
    have hzl : zs.length ≤ 12 := by rw [hzs, List.length_take]; omega
    clear hzs
    have KZ := Lib.hid hs
    clear hs
    dsimp only
    go_wp2_with fail
    replace BEL := Lib.hid BEL.out
    obtain ⟨w0, hw0⟩ : ∃ w0, w0 = W4 := ⟨_, rfl⟩
    go_loopw [7, 42] (fun lv i wr => ∃ k : Nat, k ≤ 12 ∧ i = .int .i64 k ∧ OwnShares wr W4.heap.size lv (ptL zs (ats.take k)) ∧ Below W4.heap.size W4 wr ∧ Below w.heap.size w wr) (fun _ i _ => 12 - (intOf i).toNat)
    case atStart => exact ⟨0, Nat.zero_le _, rfl, OwnShares.nil _ _, Below.refl _ _, BEL.out⟩
    case round =>
      obtain ⟨k, hk, rfl, hown, hbel, hbel2⟩ := hrel
      have KL := Lib.hid hown
      have KZ2 := Lib.hid (KZ.out.below hbel)
      have KB2 := Lib.hid (KB.out.below hbel)
      have B1 := Lib.hid hbel
      have B2 := Lib.hid hbel2
      have hsz := hbel2.size
      have hsz4 := hbel.size
      have hs4 := BEL.out.size
      clear hown hbel hbel2 hw0
      by_cases hlt : k < 12
      · obtain ⟨A, c, hA, _, _, _, hu2, hr2⟩ := KB2.out
        injection hA with hA1 hA2 hA3
        subst hA1 hA3
        obtain ⟨b1, o1, a_, rfl, hb1, hg, hat, hc1⟩ := ints_at hr2 hu2 (show k < ats.length by omega)
        clear hr2 hu2
        go_wp2_with fail
        obtain ⟨u, hu⟩ : ∃ u, u = IntKind.u64.wrap a_ := ⟨_, rfl⟩
        have hu0 : 0 ≤ u := by rw [hu, wrap_u64]; exact Int.emod_nonneg _ (by omega)
        rw [← hu]
        have HU := Lib.hid (hu.trans (wrap_u64 a_))
        have HG := Lib.hid hg
        clear hu hg hc1
        refine (pEval_ok _ _ _ _ KZ2.out hu0 (by omega)).mono ?_
        rintro e w' ⟨rfl, n1, rfl⟩
        obtain ⟨y, hy⟩ : ∃ y, y = ofF (peval (toFs zs) (toF u)) := ⟨_, rfl⟩
        have huy : U64 y := by rw [hy]; exact U64.of_ofF _
        rw [← hy]
        have HY := Lib.hid hy
        have hpl : (ptL zs (ats.take k)).length = k := by simp [ptL]; omega
        clear hy
        dsimp only
        go_wp2_with (at_builtin; go_loud (refine wpList_push_share rfl _ _ rfl W4.heap.size _ (ptL zs (ats.take k)) a_ y (wr.drewN n1).heap.size 1 rfl ((KL.out.drewN n1).alloc _) rfl (pair_cell0 _ _ _ _) (pair_cell1 _ _ _ _) hat huy (by omega) (by rw [size_alloc]; show _ ≤ wr.heap.size + 1; omega) ?_))
        intro v9 w9 ho9 hb9
        have K9 := Lib.hid (show OwnShares w9 W4.heap.size v9 (ptL zs (ats.take (k + 1))) by
          rw [ptL_next HG.out, ← HU.out, ← HY.out]; exact ho9)
        have B3 := Lib.hid ((Below.drewN_alloc B1.out n1 (.cells #[.int .i64 a_, .int .u64 y] 63) B1.out.size).trans (hb9.mono (by omega)))
        have B4 := Lib.hid ((Below.drewN_alloc B2.out n1 (.cells #[.int .i64 a_, .int .u64 y] 63) hsz).trans (hb9.mono hs4))
        clear ho9 hb9
        go_wp2_with fail
        exact ⟨⟨k + 1, by omega, by go_num, K9.out, B3.out, B4.out⟩, by simp [intOf] <;> omega⟩
      · obtain rfl : k = 12 := by omega
        have hpl : (ptL zs (ats.take (12))).length ≤ 40 := by simp only [ptL, List.length_map, List.length_take]; omega
        have hpz : zs.length ≤ (ptL zs (ats.take (12))).length := by simp only [ptL, List.length_map, List.length_take]; omega
        have HPL := Lib.hid hpl
        have HPZ := Lib.hid hpz
        obtain ⟨L, hL⟩ : ∃ L, L = ptL zs (ats.take (12)) := ⟨_, rfl⟩
        rw [← hL] at KL HPL HPZ
        have HL := Lib.hid hL
        clear hpl hpz hL KB2
        go_wp2_with fail
        by_cases hok : AtsOk L 2147483646
        · have HOK := Lib.hid hok
          clear hok
          refine (pThrough_small _ _ _ KL.out.is HPL.out).mono ?_
          rintro e W8 hh
          obtain ⟨Q, hQ, vQ, rfl, ho, hb⟩ := hh.1 HOK.out
          have HQ := Lib.hid (hQ.unique (pts_nodup HOK.out) (by rw [HL.out] at HOK HPZ ⊢; exact pt_interp HOK.out HPZ.out))
          have KQ := Lib.hid ho.is
          replace KZ2 := Lib.hid (KZ2.out.below hb)
          replace B2 := Lib.hid (below_trans B2.out hb B2.out.size)
          clear hh ho hb hQ KL
          dsimp only
          go_wp2_with fail
          refine (pNorm_ok _ _ _ KZ2.out (by omega)).mono ?_
          rintro e W9 ⟨vN, rfl, ho, hb⟩
          have KN := Lib.hid ho.is
          replace KQ := Lib.hid (KQ.out.below hb)
          replace B2 := Lib.hid (below_trans B2.out hb B2.out.size)
          clear ho hb
          dsimp only
          go_wp2_with fail
          refine (equal_any _ _ _ _ _ KQ.out KN.out).mono ?_
          rintro e w' ⟨rfl, nd2, rfl⟩
          rw [HQ.out, decide_eq_true rfl]
          dsimp only
          go_wp2_with fail
          go_ret
          exact ⟨rfl, below_drewN B2.out _⟩
        · have HOK := Lib.hid hok
          clear hok
          refine (pThrough_small _ _ _ KL.out.is HPL.out).mono ?_
          rintro e W8 hh
          obtain ⟨vQ, rfl, ho, hb⟩ := hh.2 HOK.out
          have KL2 := Lib.hid (KL.out.is.below hb)
          replace B2 := Lib.hid (below_trans B2.out hb B2.out.size)
          clear hh ho hb KL
          dsimp only
          go_wp2_with fail
          refine (rAts_any _ _ _ _ KL2.out).mono ?_
          rintro e w' ⟨rfl, nd2, rfl⟩
          rw [show atsB L 2147483646 = false from decide_eq_false HOK.out]
          dsimp only
          go_wp2_with fail
          go_ret
          exact ⟨rfl, below_drewN B2.out _⟩
end Go.Proofs.Ytnojmphggdndmaa
