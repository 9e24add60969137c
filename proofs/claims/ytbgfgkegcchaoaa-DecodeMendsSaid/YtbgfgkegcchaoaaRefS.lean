/- The document's shares: Shares, Fit, Open, Deal: what each returns. -/
import Derived.Test.YtbgfgkegcchaoaaSortW
import Derived.Test.YtbgfgkegcchaoaaPushW
import Derived.Test.YtbgfgkegcchaoaaShamW
import Derived.Test.YtbgfgkegcchaoaaTimesR
namespace Go.Proofs.Ytbgfgkegcchaoaa
open Go.RowKit Croft

theorem IsShares.take {w : World} {A : Option Addr} {len c : Nat} {l : List (Int × Int)} (h : IsShares w (.slice A len c) l) (k : Nat) (hk : k ≤ l.length) : IsShares w (.slice A k c) (l.take k) := by
  obtain ⟨A1, c1, e1, e2, e3, e4, e5, e6⟩ := h
  injection e1 with e1a e1b e1c
  subst e1a e1b e1c
  have hl : (l.take k).length = k := by simp; omega
  refine ⟨_, _, by rw [hl], by rw [hl]; omega, e3, by rw [hl]; omega, fun z hz => e5 z (List.mem_of_mem_take hz), ?_⟩
  have e : shs (l.take k) = (shs l).take (k * 2) := by
    clear e2 e4 e5 e6 hl hk
    induction l generalizing k with
    | nil => simp [shs]
    | cons s l ih =>
      cases k with
      | zero => simp [shs]
      | succ k => rw [List.take_succ_cons, shs_cons, shs_cons, ih k, show (k + 1) * 2 = k * 2 + 1 + 1 by omega, List.take_succ_cons, List.take_succ_cons]
  rw [e]
  exact e6.take _
/-- the parties whose shares a polynomial does not have -/
def badL (Q : List F) (l : List (Int × Int)) : List Int := (l.filter fun s => decide (peval Q (toF s.1) ≠ toF s.2)).map (·.1)
theorem badL_next {Q : List F} {l : List (Int × Int)} {k : Nat} {a y : Int} (h : l[k]? = some (a, y)) : badL Q (l.take (k + 1)) = badL Q (l.take k) ++ (if peval Q (toF a) ≠ toF y then [a] else []) := by
  unfold badL
  rw [List.take_add_one, h, Option.toList_some, List.filter_append, List.map_append]
  congr 1
  by_cases hc : peval Q (toF a) = toF y
  · simp [hc]
  · simp [hc]
theorem badL_length (Q : List F) (l : List (Int × Int)) : (badL Q l).length ≤ l.length := by
  unfold badL
  rw [List.length_map]
  exact List.length_filter_le _ _
theorem rShares_any (t : Int) (va : Value) (l : List (Int × Int)) (w : World) (h1 : IsShares w va l) :
    Calls Try.prog 120 #[.int .i64 t, va] w fun e w' => e = .returned (.int .i64 (checkE t l)) ∧ ∃ n, w' = w.drewN n := by
  have KA := Lib.hid h1
  obtain ⟨A1, c1, rfl, hc1, hm1, hl1, hu1, hr1⟩ := h1
  clear hu1 hr1 hm1
  go_enter Try.func120, Try.ntmps120
  go_wp2_with fail
  refine (rIn_any t 0 4 _).mono ?_
  rintro e w' ⟨rfl, rfl⟩
  by_cases ht : 0 ≤ t ∧ t ≤ 4
  · have HE := Lib.hid (show checkE t l = if partyB (l.map (·.1)) = true then if (l.length : Int) < t + 1 then 4 else 0 else 5 from if_pos ht)
    have hd : decide (0 ≤ t ∧ t ≤ 4) = true := decide_eq_true ht
    rw [hd]
    obtain ⟨ht1, ht2⟩ := ht
    clear hd
    try dsimp only
    go_wp2_with fail
    refine (rAts_any _ _ 9 _ KA.out).mono ?_
    rintro e w' ⟨rfl, nd, rfl⟩
    by_cases hp : AtsOk l 9
    · have hpp := partyB_ats.2 hp
      rw [show atsB l 9 = true from decide_eq_true hp]
      have HPP := Lib.hid hpp
      clear hp hpp
      try dsimp only
      by_cases hs : (l.length : Int) < t + 1
      · go_wp2_with fail
        go_ret
        exact ⟨by rw [HE.out, if_pos HPP.out, if_pos hs]; rfl, _, rfl⟩
      · go_wp2_with fail
        go_ret
        exact ⟨by rw [HE.out, if_pos HPP.out, if_neg (by omega)]; rfl, _, rfl⟩
    · rw [show atsB l 9 = false from decide_eq_false hp]
      have HPP := Lib.hid (fun hh => hp (partyB_ats.1 hh))
      clear hp
      try dsimp only
      go_wp2_with fail
      go_ret
      exact ⟨by rw [HE.out, if_neg HPP.out]; rfl, _, rfl⟩
  · have HE := Lib.hid (show checkE t l = 1 from if_neg ht)
    rw [show decide (0 ≤ t ∧ t ≤ 4) = false from decide_eq_false ht]
    clear ht
    try dsimp only
    go_wp2_with fail
    go_ret
    exact ⟨by rw [HE.out]; rfl, 0, rfl⟩
set_option maxRecDepth 100000 in
set_option maxHeartbeats 1000000 in
theorem rFit_any (t : Nat) (va : Value) (l : List (Int × Int)) (Q : List F) (w : World) (h1 : IsShares w va l) (h9 : l.length ≤ 20) (ht : t + 1 ≤ l.length) (hok : AtsOk (l.take (t + 1)) 2147483646) (hat : ∀ s ∈ l, 0 ≤ s.1) (hQ : Interp (ptsF (l.take (t + 1))) Q) :
    Calls Try.prog 121 #[.int .i64 t, va] w fun e w' => ∃ vp vb, e = .returned (.tuple #[vp, vb]) ∧ OwnNums w' w.heap.size vp (ofFs Q) ∧ OwnInts w' w.heap.size vb (srt (badL Q l)) ∧ Below w.heap.size w w' := by
  have KA := Lib.hid h1
  have HQ := Lib.hid hQ
  have HOK := Lib.hid hok
  have HAT := Lib.hid hat
  suffices hgoal : ∀ Post : Ending → World → Prop, (∀ e w', (∃ vp vb, e = .returned (.tuple #[vp, vb]) ∧ OwnNums w' w.heap.size vp (ofFs Q) ∧ OwnInts w' w.heap.size vb (srt (badL Q l)) ∧ Below w.heap.size w w') → Post e w') → Calls Try.prog 121 #[.int .i64 t, va] w Post from hgoal _ fun e w' h => h
  intro Post hpo
  have HP := Lib.hid hpo
  obtain ⟨A1, c1, rfl, hc1, hm1, hl1, hu1, hr1⟩ := h1
  have HT := Lib.hid (KA.out.take (t + 1) ht)
  have htl : (l.take (t + 1)).length ≤ 40 := by rw [List.length_take]; omega
  have HTL := Lib.hid htl
  clear hu1 hr1 hm1 hpo hQ hok hat htl
  go_enter Try.func121, Try.ntmps121
  go_wp2_with fail
  refine (rThrough_any _ _ _ HT.out HTL.out HOK.out).mono ?_
  rintro e W1 ⟨vT, Q1, rfl, hQ1, ho, hb⟩
  obtain rfl := HQ.out.unique (pts_nodup HOK.out) hQ1
  have KQ0 := Lib.hid ho
  have B1 := Lib.hid hb
  have hs1 := hb.size
  clear ho hb hQ1
  try dsimp only
  go_wp2_with fail
  go_loopw [7, 8] (fun v i wr => ∃ k : Nat, k ≤ l.length ∧ i = .int .i64 k ∧ OwnInts wr W1.heap.size v (badL Q (l.take k)) ∧ Below W1.heap.size W1 wr) (fun _ i _ => l.length - (intOf i).toNat)
  case atStart => exact ⟨0, Nat.zero_le _, rfl, OwnInts.nil _ _, Below.refl _ _⟩
  case round =>
    obtain ⟨k, hk, rfl, hown, hbel⟩ := hrel
    have KO := Lib.hid hown
    have BEL := Lib.hid hbel
    have hsz := hbel.size
    clear hown hbel
    by_cases hlt : k < l.length
    · have KQ := Lib.hid (KQ0.out.is.below (below_trans (Below.refl _ _) BEL.out (Nat.le_refl _)))
      obtain ⟨A, c, hA, _, _, _, hu, hr⟩ := KA.out.below (below_trans B1.out BEL.out B1.out.size)
      injection hA with hA1 hA2 hA3
      subst hA1 hA3
      clear hA2
      obtain ⟨b1, o1, at_, y, rfl, hb1, hgk, hat, huy, hca, hcb⟩ := share_at hr hu hlt
      have HBN := Lib.hid (badL_next (Q := Q) hgk)
      have HBL := Lib.hid (Nat.le_trans (badL_length Q (l.take k)) (by rw [List.length_take]; exact Nat.min_le_left _ _))
      have hat0 := HAT.out _ (List.mem_of_getElem? hgk)
      have hua : U64 at_ := ⟨hat0, by have := hat.2; dsimp only at this hat0; omega⟩
      have HUA := Lib.hid hua
      have HUY := Lib.hid huy
      have HI := Lib.hid hat
      have hwa : IntKind.u64.wrap at_ = at_ := by
        rw [IntKind.wrap_u64]; exact Int.emod_eq_of_lt hua.1 (by have := hua.2; omega)
      clear hr hu hgk hb1 hat0 hua huy hat
      go_wp2_with fail
      go_quiet ((first | exact quietL (rEval_any _ _ _ _ KQ.out HUA.out) | exact quietL (rNorm_any _ _ HUY.out)))
      rw [toFs_ofFs]
      have hrc : ∃ wo, wo = wr.drewN nq := ⟨_, rfl⟩
      obtain ⟨wo, hwo⟩ := hrc
      have KO2 := Lib.hid (KO.out.drewN nq)
      have BEL2 := Lib.hid (below_drewN BEL.out nq)
      have hsz2 : W1.heap.size ≤ wo.heap.size := by rw [hwo]; exact hsz
      replace hca : wo.cell? ⟨b1, o1 + k * 2, none⟩ = some (.int .i64 at_) := by rw [hwo]; exact hca
      rw [← hwo] at KO2 BEL2 ⊢
      clear hwo hcb KO BEL
      by_cases hc : peval Q (toF at_) = toF y
      · have hbe : (ofF (peval Q (toF at_)) != ofF (toF y)) = false := by rw [hc]; simp
        have HBM := Lib.hid (show badL Q (l.take (k + 1)) = badL Q (l.take k) by rw [HBN.out, if_neg (by simp [hc]), List.append_nil])
        clear hc HBN
        go_wp2_with fail
        exact ⟨⟨k + 1, by omega, by go_num, by rw [HBM.out]; exact KO2.out, BEL2.out⟩, by simp [intOf] <;> omega⟩
      · have hbe : (ofF (peval Q (toF at_)) != ofF (toF y)) = true := by rw [bne_iff_ne]; exact fun h => hc (ofF_inj h)
        have HBM := Lib.hid (show badL Q (l.take (k + 1)) = badL Q (l.take k) ++ [at_] by rw [HBN.out, if_pos hc])
        clear hc HBN
        go_wp2_with (at_builtin; go_loud (refine wpList_push_int rfl _ _ rfl W1.heap.size _ _ at_ wo.heap.size 1 rfl (KO2.out.alloc _) rfl (new_cell _ _ _) HI.out (by have := HBL.out; omega) (by rw [size_alloc]; omega) ?_))
        intro v' w5 hown' hbel'
        rw [← HBM.out] at hown'
        have K5 := Lib.hid hown'
        have B5 := Lib.hid ((BEL2.out.alloc hsz2 (.cells #[.int .i64 at_] 3)).trans hbel')
        clear hown' hbel'
        go_wp2_with fail
        exact ⟨⟨k + 1, by omega, by go_num, K5.out, B5.out⟩, by simp [intOf] <;> omega⟩
    · obtain rfl : l.length = k := by omega
      have HTE := Lib.hid (show l.take l.length = l from List.take_of_length_le (Nat.le_refl _))
      rw [HTE.out] at KO
      go_wp2_with fail
      refine (sort_any _ _ _ _ KO.out).mono ?_
      rintro e W8 ⟨rfl, ho, hb⟩
      have KS := Lib.hid ho
      have B8 := Lib.hid (BEL.out.trans hb)
      clear ho hb
      try dsimp only
      go_wp2_with fail
      exact HP.out _ _ ⟨_, _, rfl, KQ0.out.below B8.out, KS.out.less hs1, below_trans B1.out B8.out hs1⟩
theorem badL_nil {t : Nat} {l : List (Int × Int)} {Q Q1 : List F} (hok : AtsOk l 2147483646) (ht : t + 1 ≤ l.length) (hQ : Interp (ptsF l) Q) (hQ1 : Interp (ptsF (l.take (t + 1))) Q1) : badL Q1 l = [] ↔ ¬ (t + 1 < Q.length) := by
  have hsub : ∀ p ∈ ptsF (l.take (t + 1)), p ∈ ptsF l := by
    intro p hp
    unfold ptsF at hp ⊢
    obtain ⟨s, hs, rfl⟩ := List.mem_map.1 hp
    exact List.mem_map.2 ⟨s, List.mem_of_mem_take hs, rfl⟩
  have hlen : (ptsF (l.take (t + 1))).length = t + 1 := by simp [ptsF]; omega
  have hl2 : (ptsF l).length = l.length := by simp [ptsF]
  constructor
  · intro hb hlt
    have hI : Interp (ptsF l) Q1 := by
      refine ⟨hQ1.1, by have := hQ1.2.1; omega, fun p hp => ?_⟩
      unfold ptsF at hp
      obtain ⟨s, hs, rfl⟩ := List.mem_map.1 hp
      refine Classical.byContradiction fun hne => ?_
      have : s.1 ∈ badL Q1 l := by
        unfold badL
        exact List.mem_map.2 ⟨s, List.mem_filter.2 ⟨hs, by simpa using hne⟩, rfl⟩
      rw [hb] at this
      simp at this
    have := hQ.unique (pts_nodup hok) hI
    subst this
    have := hQ1.2.1
    omega
  · intro hlt
    have hI : Interp (ptsF (l.take (t + 1))) Q := ⟨hQ.1, by omega, fun p hp => hQ.2.2 p (hsub p hp)⟩
    have := hI.unique (pts_nodup (atsOk_mono _ hok)) hQ1
    subst this
    unfold badL
    rw [List.map_eq_nil_iff, List.filter_eq_nil_iff]
    intro s hs
    have := hQ.2.2 (toF s.1, toF s.2) (List.mem_map.2 ⟨s, hs, rfl⟩)
    simpa using this
set_option maxRecDepth 100000 in
set_option maxHeartbeats 1000000 in
theorem rOpen_ok (t : Int) (va : Value) (l : List (Int × Int)) (Q : List F) (w : World) (h1 : IsShares w va l) (h : checkE t l = 0) (hQ : Interp (ptsF l) Q) :
    Calls Try.prog 128 #[.int .i64 t, va] w fun e w' => NumRes w e w' (openX t Q) (openE t Q) := by
  have KA := Lib.hid h1
  obtain ⟨⟨ht1, ht2⟩, hok, hlen⟩ := checkE_zero.1 h
  have HE := Lib.hid h
  obtain ⟨T, rfl⟩ := Int.eq_ofNat_of_zero_le ht1
  obtain ⟨Q1, hQ1⟩ := interp_ex (pts_nodup (atsOk_mono (T + 1) hok.more))
  have HN := Lib.hid (badL_nil hok.more (by omega) hQ hQ1)
  have HQ1 := Lib.hid hQ1
  have HOK := Lib.hid hok
  have HQ := Lib.hid hQ
  have hln9 := hok.few
  clear h h1 hok hQ1 hQ ht1
  go_enter Try.func128, Try.ntmps128
  go_wp2_with fail
  refine (rShares_any _ _ _ _ KA.out).mono ?_
  rintro e w' ⟨rfl, nd, rfl⟩
  rw [HE.out]
  replace KA := Lib.hid (KA.out.drewn (n := nd) rfl)
  try dsimp only
  go_wp2_with fail
  refine (rFit_any T _ _ Q1 _ KA.out (by omega) (by omega) (atsOk_mono _ HOK.out.more) (fun s hs => by have := (HOK.out.1 s hs).1; omega) HQ1.out).mono ?_
  rintro e W1 ⟨vp, vb, rfl, hop, hob, hb⟩
  have KP := Lib.hid hop.is
  have BEL := Lib.hid ((below_drewN (Below.refl w.heap.size w) nd).trans hb)
  obtain ⟨A, c, hv, _, _⟩ := own_form hob.1
  rw [srt_length] at hv
  subst hv
  have hbl := Nat.le_trans (badL_length Q1 l) hln9
  obtain ⟨bn, hbn⟩ : ∃ bn, bn = (badL Q1 l).length := ⟨_, rfl⟩
  have HBN := Lib.hid (show 0 < bn ↔ T + 1 < Q.length by
    rw [hbn]
    have h := HN.out
    constructor
    · intro h0
      refine Classical.byContradiction fun hc => ?_
      rw [h.2 hc] at h0
      simp at h0
    · intro h0
      refine Nat.pos_of_ne_zero fun hc => ?_
      exact absurd h0 (h.1 (List.length_eq_zero_iff.1 hc)))
  rw [← hbn] at hbl ⊢
  clear hbn hob hop hb HN
  try dsimp only
  by_cases hbig : 0 < bn
  · have HX := Lib.hid (show openX T Q = 0 from if_pos (by have := HBN.out.1 hbig; omega))
    have HEE := Lib.hid (show openE T Q = 6 from if_pos (by have := HBN.out.1 hbig; omega))
    go_wp2_with fail
    go_ret2
    exact ⟨by rw [HX.out, HEE.out]; rfl, BEL.out⟩
  · have hq : ¬ (T + 1 < Q.length) := fun hh => hbig (HBN.out.2 hh)
    have HX := Lib.hid (show openX T Q = ofF (peval Q 0) from if_neg (by omega))
    have HEE := Lib.hid (show openE T Q = 0 from if_neg (by omega))
    have hqq : Q1 = Q := by
      have hI : Interp (ptsF (l.take (T + 1))) Q := ⟨HQ.out.1, by simp [ptsF]; omega, fun p hp => HQ.out.2.2 p (by
        unfold ptsF at hp ⊢
        obtain ⟨s, hs, rfl⟩ := List.mem_map.1 hp
        exact List.mem_map.2 ⟨s, List.mem_of_mem_take hs, rfl⟩)⟩
      exact HQ1.out.unique (pts_nodup (atsOk_mono _ HOK.out.more)) hI
    subst hqq
    clear hq
    go_wp2_with fail
    refine (rEval_any _ _ _ _ KP.out (show U64 0 from ⟨by omega, by omega⟩)).mono ?_
    rintro e w' ⟨rfl, rfl⟩
    rw [toFs_ofFs, toF_zero]
    try dsimp only
    go_wp2_with fail
    go_ret2
    exact ⟨by rw [HX.out, HEE.out]; rfl, BEL.out⟩
theorem rOpen_bad (t : Int) (va : Value) (l : List (Int × Int)) (w : World) (h1 : IsShares w va l) (h : checkE t l ≠ 0) :
    Calls Try.prog 128 #[.int .i64 t, va] w fun e w' => NumRes w e w' 0 (checkE t l) := by
  have KA := Lib.hid h1
  have hb : (checkE t l != 0) = true := by rw [bne_iff_ne]; exact h
  clear h h1
  go_enter Try.func128, Try.ntmps128
  go_wp2_with fail
  refine (rShares_any _ _ _ _ KA.out).mono ?_
  rintro e w' ⟨rfl, nd, rfl⟩
  try dsimp only
  go_wp2_with fail
  go_ret2
  exact ⟨rfl, below_drewN (Below.refl _ _) _⟩
end Go.Proofs.Ytbgfgkegcchaoaa
