/- The law DecodeMends, walked. -/
import Derived.Test.YtbgfgkegcchaoaaMendP
import Derived.Test.YtbgfgkegcchaoaaClone
import Derived.Deep.CutRange
namespace Go.Proofs.Ytbgfgkegcchaoaa
open Go.RowKit Croft

theorem lit_ints' (w : World) (zs : List Int) (h : ∀ z ∈ zs, I64 z) (hl : zs.length ≤ 1000) : IsInts (w.alloc (.cells (i64s zs).toArray 3)) (.slice (some ⟨w.heap.size, 0, none⟩) zs.length zs.length) zs :=
  ⟨_, _, rfl, Nat.le_refl _, by unfold maxLen; omega, by omega, h, .inr ⟨w.heap.size, 0, rfl, by simp, fun j hj => by
    rw [Nat.zero_add, cell_of_row _ _ j _ _ (0, 0) (heap_alloc_new w _)]
    simp⟩⟩
open Go.Sort in
theorem sort_grown (base : Nat) (v : Value) (zs : List Int) (w : World) (h : OwnInts w base v zs) :
    Calls Try.prog 64 #[v] w fun e w' => e = .returned (.tuple #[]) ∧ OwnInts w' base v (srt zs) ∧ w.grownBy w' v.ownBlock := by
  obtain ⟨h1, h2, h3⟩ := h
  rcases h1.2 with ⟨rfl, h0⟩ | ⟨g, cap, cur, rfl, hb, hg, hn, hc, hs, ht⟩
  · obtain rfl : zs = [] := List.length_eq_zero_iff.1 h0
    refine (Any.slices_Sort_int_none lays189 none 0 w).mono fun e w' hh => ?_
    obtain ⟨rfl, rfl⟩ := hh
    have e : srt [] = [] := by simp [srt]
    rw [e]
    exact ⟨rfl, ⟨h1, h2, h3⟩, ⟨rfl, rfl, rfl, Nat.le_refl _, fun _ _ _ => rfl⟩⟩
  · have hgs : g < w.heap.size := (Array.getElem?_eq_some_iff.1 hg).1
    refine (Any.slices_Sort_int lays189 g 0 cap zs w (holds_of_blockI hg (by rw [← Nat.mul_one zs.length, ht]; rfl)) hgs (by omega)).mono fun e w' hh => ?_
    obtain ⟨rfl, n, os, rfl⟩ := hh
    refine ⟨rfl, ⟨?_, by rw [srt_length]; exact h2, fun z hz => h3 z ((srt_perm zs).mem_iff.1 hz)⟩, ?_⟩
    · have := ownsRow_sortedI (n := n) (os := os) (ss := zs) (ts := srt zs) (srt_length zs) hb hg hn hc hs
      rw [srt_length]
      exact this
    · exact grownBy_sortedI (w := w) (g := g) (n := n) (os := os) (srt zs).toArray
theorem grown_cell (w : World) (b j : Nat) (v : Value) : w.grownBy (w.setCell ⟨b, j, none⟩ v) (some b) :=
  ⟨rfl, rfl, rfl, by simp [World.setCell], fun k hk hne => by
    have : b ≠ k := fun e => hne (by rw [e])
    simp [World.setCell, Array.getElem?_modify, this]⟩
set_option maxRecDepth 100000 in
set_option maxHeartbeats 2000000 in
theorem decodeMends_any (secret : Int) (vd vp vy : Value) (ds picks ys : List Int) (t n : Int) (w : World) (hs : U64 secret) (h1 : IsNums w vd ds) (h2 : IsInts w vp picks) (h3 : IsNums w vy ys) :
    Calls Try.prog 11 #[.int .u64 secret, vd, .int .i64 t, .int .i64 n, vp, vy] w fun e w' => e = .returned (.bool true) ∧ Below w.heap.size w w' := by
  have KD := Lib.hid h1
  have KP := Lib.hid h2
  have KY := Lib.hid h3
  obtain ⟨A5, c5, rfl, hc5, hm5, hl5, hu5, hr5⟩ := h2
  obtain ⟨A6, c6, rfl, hc6, hm6, hl6, hu6, hr6⟩ := h3
  have B0 := Lib.hid ((Below.refl w.heap.size w).alloc (Nat.le_refl _) (.cells (shs litM).toArray 94))
  have LM := Lib.hid (lit_shares w w.heap.size litM (by simp [litM, I64, U64]) (by decide) (Nat.le_refl _)).is
  suffices hgoal : ∀ Post : Ending → World → Prop, (∀ w', Below w.heap.size w w' → Post (.returned (.bool true)) w') → Calls Try.prog 11 #[.int .u64 secret, vd, .int .i64 t, .int .i64 n, .slice A5 picks.length c5, .slice A6 ys.length c6] w Post from hgoal _ fun w' h => ⟨rfl, h⟩
  intro Post hpo
  have HP := Lib.hid hpo
  clear hpo h1 hm5 hu5 hr5 hm6 hu6 hr6
  go_enter Try.func11, Try.ntmps11
  go_wp2_with fail
  refine (litM_opens _ _ LM.out).mono ?_
  rintro e W1 ⟨vb, rfl, ho, hb⟩
  have KB := Lib.hid ho.is
  have B1 := Lib.hid (below_trans B0.out hb B0.out.size)
  clear ho hb LM
  try dsimp only
  go_wp2_with fail
  refine (equali_any _ _ [2] [2] _ (KB.out.below ((Below.refl _ _).alloc (Nat.le_refl _) _)) (lit_ints' W1 [2] (by simp [I64]) (by simp))).mono ?_
  rintro e W2 ⟨rfl, nd, hW2⟩
  rw [show decide ([(2 : Int)] = [2]) = true from rfl]
  have B2 := Lib.hid (show Below w.heap.size w W2 by rw [hW2]; exact below_drewN (B1.out.alloc B1.out.size _) _)
  clear hW2 KB
  try dsimp only
  go_wp2_with fail
  refine (kCrew_any t n _).mono ?_
  rintro e w' ⟨⟨T, N, hT, hN1, hN2, rfl⟩, rfl⟩
  try dsimp only
  go_wp2_with fail
  refine (kFilled_any _ _ T _ (KD.out.below B2.out) (by omega)).mono ?_
  rintro e W3 ⟨vf, rfl, ho, hb⟩
  have B3 := Lib.hid (below_trans B2.out hb B2.out.size)
  have hdl := fillL_length ds T
  generalize fillL ds T = D at *
  have KF := Lib.hid ho.is
  have HDL := Lib.hid hdl
  clear ho hb hdl
  try dsimp only
  go_wp2_with fail
  refine (sDeal_ok secret _ D N _ hs KF.out (by rw [HDL.out]; exact hT) (by rw [HDL.out]; omega) hN2).mono ?_
  rintro e W4 ⟨va, rfl, ho, hb⟩
  have B4 := Lib.hid (below_trans B3.out hb B3.out.size)
  obtain ⟨p, hp⟩ : ∃ p, p = toFs (secret :: D) := ⟨_, rfl⟩
  have HPL := Lib.hid (show p.length ≤ T + 1 by rw [hp, toFs_length, List.length_cons, HDL.out]; omega)
  have HP0 := Lib.hid (show peval p 0 = toF secret by rw [hp]; exact peval_cons0 _ _)
  rw [← hp] at ho
  have KA := Lib.hid ho.is
  clear ho hb hp
  try dsimp only
  go_wp2_with fail
  refine (kShares_any _ _ _ KA.out (by rw [ofFs_length, deal_length]; omega)).mono ?_
  rintro e W5 ⟨vl, rfl, ho, hb⟩
  have B5 := Lib.hid (below_trans B4.out hb B4.out.size)
  obtain ⟨g, c, hv, hg, hg5⟩ := own_slice ho.1 (by rw [shL_length, ofFs_length, deal_length]; omega)
  rw [shL_length, ofFs_length, deal_length] at hv
  subst hv
  have KL := Lib.hid (ho.less (base' := w.heap.size) B4.out.size)
  have hs5 := B5.out.size
  clear ho hb KA
  obtain ⟨m, hm⟩ : ∃ m, m = mostW T N := ⟨_, rfl⟩
  have HM := Lib.hid hm
  have hm4 : m ≤ 4 := by rw [hm]; unfold mostW; omega
  obtain ⟨q, hq⟩ : ∃ q : Nat, q = (N - T - 1) / 2 := ⟨_, rfl⟩
  have hqi : ((N : Int) - (T : Int) - 1).tdiv 2 = (q : Int) := by
    rw [Int.tdiv_eq_ediv_of_nonneg (by omega)]; omega
  have hmin : min (4 : Int) (q : Int) = (m : Int) := by rw [hm]; unfold mostW; omega
  have hqb : q ≤ 9 := by omega
  clear hm hq
  try dsimp only
  go_wp2_with fail
  go_loopw [19, 67] (fun vb i wr => ∃ (k : Nat) (Bd A : List Int), k ≤ picks.length ∧ i = .int .i64 k ∧ OwnInts wr w.heap.size vb Bd ∧ OwnShares wr w.heap.size (.slice (some ⟨g, 0, none⟩) N c) (shL A) ∧ Bent N p A Bd ∧ Bd.length ≤ m ∧ Below w.heap.size w wr) (fun _ i _ => picks.length - (intOf i).toNat)
  case atStart => exact ⟨0, [], _, Nat.zero_le _, rfl, OwnInts.nil _ _, KL.out, Bent.start p, by simp, B5.out⟩
  case round =>
    obtain ⟨k, Bd, A, hk, rfl, hob, hol, hbent, hbm, hbel⟩ := hrel
    have KB := Lib.hid hob
    have KL2 := Lib.hid hol
    have BT := Lib.hid hbent
    have BM := Lib.hid hbm
    have BEL := Lib.hid hbel
    have hsz := hbel.size
    obtain ⟨Ab, cb, hvb, _, _⟩ := own_form hob.1
    subst hvb
    clear hob hol hbent hbm hbel KL
    by_cases hlk : k < picks.length
    · obtain ⟨A', c', hA, _, _, _, hu, hr⟩ := KP.out.below BEL.out
      injection hA with hA1 hA2 hA3
      subst hA1 hA3
      clear hA2
      obtain ⟨b1, o1, z, rfl, hb1, hgk, hiz, hcz⟩ := ints_at hr hu hlk
      clear hr hu hb1 hgk hiz
      go_wp2_with fail
      refine (rRest_any z N _ (by omega) (by omega)).mono ?_
      rintro e w' ⟨⟨r, hr, rfl⟩, rfl⟩
      try dsimp only
      by_cases hky : k < ys.length
      · obtain ⟨A', c', hA, _, _, _, hu, hr'⟩ := KY.out.below BEL.out
        injection hA with hA1 hA2 hA3
        subst hA1 hA3
        clear hA2
        obtain ⟨b2, o2, y, rfl, hb2, hgy, huy, hcy⟩ := nums_at hr' hu hky
        have HUY := Lib.hid huy
        clear hr' hu hb2 hgy
        go_wp2_with fail
        refine (fNorm_any _ _ huy.1).mono ?_
        rintro e w' ⟨rfl, rfl⟩
        try dsimp only
        by_cases hy0 : toF y = 0
        · have hz0 : (ofF (toF y) != 0) = false := by rw [hy0]; rfl
          clear hy0
          go_wp2_with fail
          exact ⟨⟨k + 1, Bd, A, by omega, by go_num, KB.out, KL2.out, BT.out, BM.out, BEL.out⟩, by simp [intOf] <;> omega⟩
        · have hz0 : (ofF (toF y) != 0) = true := by rw [bne_iff_ne]; exact fun e => hy0 (ofF_eq_zero.1 e)
          have HY0 := Lib.hid hy0
          clear hy0
          by_cases hbl : Bd.length < m
          · have HBL := Lib.hid hbl
            go_wp2_with fail
            refine (iContains_any _ Bd ((r : Int) + 1) _ KB.out.is).mono ?_
            rintro e w' ⟨rfl, rfl⟩
            try dsimp only
            by_cases hin : ((r : Int) + 1) ∈ Bd
            · have hd : decide (((r : Int) + 1) ∈ Bd) = true := decide_eq_true hin
              rw [hd]
              clear hin hd
              go_wp2_with fail
              exact ⟨⟨k + 1, Bd, A, by omega, by go_num, KB.out, KL2.out, BT.out, BM.out, BEL.out⟩, by simp [intOf] <;> omega⟩
            · have hd : decide (((r : Int) + 1) ∈ Bd) = false := decide_eq_false hin
              rw [hd]
              have HIN := Lib.hid hin
              clear hin hd
              obtain ⟨x, hx, _⟩ := BT.out.val r hr
              have HX := Lib.hid hx
              have hcell := KL2.out.cellY (shL_get hx)
              have hfrz := KL2.out.frozen (r * 2 + 1)
              clear hx
              go_wp2_with fail
              refine wp_region_quiet_tail 14 (by kernel_rfl) (by kernel_rfl) ?_
              simp only [List.take_succ_cons, List.take_zero, List.drop_succ_cons, List.drop_zero]
              repeat (go_big_quiet_step ((exact quietL (fAdd_any _ _ _ (ofF_nonneg _) huy.1))))
              refine wpQuiet_nil ?_
              intro nq
              rw [toF_ofF]
              have K2 := (show OwnShares (wr.drewN nq) w.heap.size (.slice (some ⟨g, 0, none⟩) N c) (shL A) from ⟨KL2.out.1, KL2.out.2⟩).setY (shL_get HX.out) (U64.of_ofF (x + toF y))
              rw [shL_set HX.out] at K2
              have KB2 := Lib.hid ((KB.out.drewN nq).kept (grown_cell (wr.drewN nq) g (r * 2 + 1) (.int .u64 (ofF (x + toF y)))) (by
                cases hzb : (Value.slice Ab Bd.length cb).ownBlock with
                | none => exact .inl rfl
                | some b => exact .inr fun hvb => kinds_apart KB.out.1 KL2.out.1 (by decide) hzb (by rw [hvb]; rfl)))
              have B2' := Lib.hid ((below_drewN BEL.out nq).setCell (p := ⟨g, r * 2 + 1, none⟩) (show w.heap.size ≤ g by have := B4.out.size; omega) (.int .u64 (ofF (x + toF y))))
              have K3 := Lib.hid K2
              have BT2 := Lib.hid (BT.out.step hr HX.out HIN.out HY0.out)
              have hs2 := B2'.out.size
              go_upto_region 16 with fail
              obtain ⟨W7, hW7⟩ : ∃ W7, W7 = (wr.drewN nq).setCell ⟨g, r * 2 + 1, none⟩ (.int .u64 (ofF (x + toF y))) := ⟨_, rfl⟩
              rw [← hW7] at KB2 B2' K3 hs2 ⊢
              have hir : I64 ((r : Int) + 1) := by unfold I64; omega
              clear K2 hcell hW7 hfrz
              go_wp2_with (at_builtin; go_loud (refine wpList_push_int4 rfl _ _ rfl w.heap.size _ _ ((r : Int) + 1) W7.heap.size 1 rfl (KB2.out.alloc _) rfl (new_cell _ _ _) hir (by have := BM.out; omega) (by rw [size_alloc]; omega) ?_))
              intro v8 w8 ho8 hb8 hg8 _
              have KB8 := Lib.hid ho8
              have KL8 := Lib.hid ((K3.out.alloc (.cells #[.int .i64 ((r : Int) + 1)] 3)).kept hg8 (.inr fun hvb => kinds_apart (KB2.out.alloc (.cells #[.int .i64 ((r : Int) + 1)] 3)).1 (K3.out.alloc (.cells #[.int .i64 ((r : Int) + 1)] 3)).1 (by decide) hvb.symm rfl))
              have B8 := Lib.hid ((B2'.out.alloc hs2 (.cells #[.int .i64 ((r : Int) + 1)] 3)).trans hb8)
              have BM8 := Lib.hid (show (Bd ++ [(r : Int) + 1]).length ≤ m by rw [List.length_append, List.length_singleton]; have := HBL.out; omega)
              clear ho8 hb8 hg8
              go_wp2_with fail
              exact ⟨⟨k + 1, _, _, by omega, by go_num, KB8.out, KL8.out, BT2.out, BM8.out, B8.out⟩, by simp [intOf] <;> omega⟩
          · have hbl' : decide ((Bd.length : Int) < (m : Int)) = false := decide_eq_false (by omega)
            go_wp2_with fail
            exact ⟨⟨k + 1, Bd, A, by omega, by go_num, KB.out, KL2.out, BT.out, BM.out, BEL.out⟩, by simp [intOf] <;> omega⟩
      · have hky' : decide ((k : Int) < (ys.length : Int)) = false := decide_eq_false (by omega)
        go_wp2_with fail
        exact ⟨⟨k + 1, Bd, A, by omega, by go_num, KB.out, KL2.out, BT.out, BM.out, BEL.out⟩, by simp [intOf] <;> omega⟩
    · obtain rfl : k = picks.length := by omega
      go_wp2_with fail
      refine (sort_grown _ _ _ _ KB.out).mono ?_
      rintro e W8 ⟨rfl, ho, hg8⟩
      have hb : Below w.heap.size wr W8 := (Below.refl _ _).grown hg8 hsz (fun k hk => (KB.out.1.lt k hk).1)
      have KS := Lib.hid ho
      have KL8 := Lib.hid (show OwnShares W8 w.heap.size (.slice (some ⟨g, 0, none⟩) N c) (shL A) from
        KL2.out.kept hg8 (.inr fun hvb => kinds_apart KB.out.1 KL2.out.1 (by decide) hvb.symm rfl))
      have B8 := Lib.hid (BEL.out.trans hb)
      clear ho hb hg8
      try dsimp only
      go_wp2_with fail
      refine (mends BT.out (by rw [← HM.out]; exact BM.out) HPL.out hT hN1 hN2 _ _ KL8.out.is).mono ?_
      rintro e W9 ⟨vb9, rfl, ho, hb⟩
      rw [HP0.out]
      have K9 := Lib.hid ho.is
      have KS9 := Lib.hid (KS.out.is.below hb)
      have B9 := Lib.hid (below_trans B8.out hb B8.out.size)
      clear ho hb
      try dsimp only
      go_wp2_with fail
      refine (fNorm_any _ _ hs.1).mono ?_
      rintro e w' ⟨rfl, rfl⟩
      try dsimp only
      go_wp2_with fail
      refine (equali_any _ _ _ _ _ K9.out KS9.out).mono ?_
      rintro e w' ⟨rfl, nd, rfl⟩
      rw [decide_eq_true (rfl : srt Bd = srt Bd)]
      try dsimp only
      go_wp2_with fail
      exact HP.out _ (below_drewN B9.out _)
end Go.Proofs.Ytbgfgkegcchaoaa
