/- The law ShamirAny, walked. -/
import Derived.Test.YtliegjpnjfmklaaClone
import Derived.Test.YtliegjpnjfmklaaKeepW
import Derived.Test.YtliegjpnjfmklaaWeiW
namespace Go.Proofs.Ytliegjpnjfmklaa
open Go.RowKit Croft

/-- what is known of picked shares -/
structure Picked (T K : Nat) (p : List F) (P : List (Int × Int)) : Prop where
  ok : AtsOk P 9
  len : P.length = K
  on : ∀ s ∈ P, toF s.2 = peval p (toF s.1)
theorem Picked.of {T N K : Nat} {p : List F} {P L : List (Int × Int)} (h : (P ++ L).Perm (shL (ofFs (deal N p)))) (hK : P.length = K) (hN : N ≤ 9) : Picked T K p P := by
  have hl : (ofFs (deal N p)).length = N := by rw [ofFs_length, deal_length]
  have hat : ∀ s ∈ shL (ofFs (deal N p)), ∃ i, i < N ∧ s = ((i : Int) + 1, ofF (peval p (pt i))) := fun s hs => by
    obtain ⟨i, hi, he⟩ := List.getElem_of_mem hs
    rw [shL_length, hl] at hi
    have hg : (ofFs (deal N p))[i]? = some (ofF (peval p (pt i))) := by
      unfold ofFs
      rw [List.getElem?_map, get_co (by rw [deal_length]; exact hi), deal_co p hi]; rfl
    have h2 := shL_get hg
    rw [List.getElem?_eq_getElem (by rw [shL_length, hl]; exact hi), he] at h2
    exact ⟨i, hi, Option.some.inj h2⟩
  have hm : ∀ s ∈ P, s ∈ shL (ofFs (deal N p)) := fun s hs => h.mem_iff.1 (List.mem_append.2 (.inl hs))
  refine ⟨⟨fun s hs => ?_, ?_⟩, hK, fun s hs => ?_⟩
  · obtain ⟨i, hi, rfl⟩ := hat s (hm s hs)
    show 1 ≤ (i : Int) + 1 ∧ (i : Int) + 1 ≤ 9
    omega
  · have h1 := (h.map (·.1)).nodup_iff
    rw [shL_ats, List.map_append, hl] at h1
    have h2 : (atsN N).Nodup := by
      have h3 := atsN_party hN
      unfold partyB at h3
      exact (of_decide_eq_true h3).2
    exact ((List.nodup_append.1 (h1.2 h2)).1)
  · obtain ⟨i, hi, rfl⟩ := hat s (hm s hs)
    show toF (ofF (peval p (pt i))) = peval p (toF ((i : Int) + 1))
    rw [toF_ofF]; rfl
theorem Picked.interp {T K : Nat} {p : List F} {P : List (Int × Int)} (h : Picked T K p P) (hp : p.length ≤ K) : Interp (ptsF P) (pnorm p) := by
  have hl := pnorm_length p
  refine ⟨pnorm_norm p, by rw [show (ptsF P).length = P.length by simp [ptsF], h.len]; omega, fun q hq => ?_⟩
  unfold ptsF at hq
  obtain ⟨s, hs, rfl⟩ := List.mem_map.1 hq
  show peval (pnorm p) (toF s.1) = toF s.2
  rw [pnorm_eval, h.on s hs]
theorem Picked.sum {T K : Nat} {p : List F} {P : List (Int × Int)} (h : Picked T K p P) (hp : p.length ≤ K) : fsum K (fun i => wtF (toFs (P.map (·.1))) (co (toFs (P.map (·.1))) i) * peval p (co (toFs (P.map (·.1))) i)) = peval p 0 := by
  have hn : (toFs (P.map (·.1))).Nodup := by
    have h0 := pts_nodup h.ok.more
    rw [ptsF_fst] at h0
    exact h0
  have hl : (toFs (P.map (·.1))).length = K := by rw [toFs_length, List.length_map, h.len]
  have h1 := lagrange0 (toFs (P.map (·.1))) hn p (by rw [hl]; exact hp)
  rw [hl] at h1
  exact h1
set_option maxRecDepth 100000 in
set_option maxHeartbeats 4000000 in
theorem shamirAny_any (secret : Int) (vd vp : Value) (ds ps : List Int) (t n k : Int) (w : World) (hs : U64 secret) (h1 : IsNums w vd ds) (h2 : IsInts w vp ps) :
    Calls Try.prog 10 #[.int .u64 secret, vd, .int .i64 t, .int .i64 n, vp, .int .i64 k] w fun e w' => e = .returned (.bool true) ∧ Below w.heap.size w w' := by
  have KD := Lib.hid h1
  have KP := Lib.hid h2
  have hs0 := hs.1
  have BEL := Lib.hid (Below.refl w.heap.size w)
  go_enter Try.func10, Try.ntmps10
  go_wp2_with fail
  refine (kDealt_any _).mono ?_
  rintro e W1 ⟨rfl, hb⟩
  try dsimp only
  replace KD := Lib.hid (KD.out.below hb)
  replace KP := Lib.hid (KP.out.below hb)
  replace BEL := Lib.hid (below_trans BEL.out hb BEL.out.size)
  clear hb
  go_wp2_with fail
  refine (kCrew_any t n _).mono ?_
  rintro e w' ⟨⟨T, N, hT, hN1, hN2, rfl⟩, rfl⟩
  try dsimp only
  go_wp2_with fail
  refine (kFilled_any _ _ (T) _ KD.out (by omega)).mono ?_
  rintro e W2 ⟨vFD, rfl, ho, hb⟩
  try dsimp only
  replace KD := Lib.hid (KD.out.below hb)
  replace KP := Lib.hid (KP.out.below hb)
  replace BEL := Lib.hid (below_trans BEL.out hb BEL.out.size)
  have hdl := fillL_length ds (T)
  obtain ⟨D, hD⟩ : ∃ D, D = fillL ds (T) := ⟨_, rfl⟩
  rw [← hD] at hdl ho
  have FD := Lib.hid ho.is
  have HDL := Lib.hid hdl
  clear ho hb hdl hD
  go_wp2_with fail
  refine (sDeal_ok secret _ D N _ hs FD.out (by rw [HDL.out]; exact hT) (by rw [HDL.out]; omega) hN2).mono ?_
  rintro e W3 ⟨va, rfl, ho, hb⟩
  try dsimp only
  clear KD
  replace KP := Lib.hid (KP.out.below hb)
  replace FD := Lib.hid (FD.out.below hb)
  replace BEL := Lib.hid (below_trans BEL.out hb BEL.out.size)
  have KA := Lib.hid ho.is
  clear ho hb FD
  obtain ⟨p, hp⟩ : ∃ p, p = toFs (secret :: D) := ⟨_, rfl⟩
  have HPLn := Lib.hid (show p.length ≤ T + 1 by rw [hp, toFs_length, List.length_cons, HDL.out]; omega)
  have HP0 := Lib.hid (show peval p 0 = toF secret by rw [hp]; show peval (toF secret :: toFs D) 0 = toF secret; rw [peval_cons0])
  rw [← hp] at KA
  clear hp
  have HAL := Lib.hid (show (ofFs (deal N p)).length = N by rw [ofFs_length, deal_length])
  go_wp2_with fail
  refine (kShares_any _ _ _ KA.out (by rw [HAL.out]; omega)).mono ?_
  rintro e W4 ⟨vs, rfl, ho, hb⟩
  try dsimp only
  replace KP := Lib.hid (KP.out.below hb)
  replace KA := Lib.hid (KA.out.below hb)
  replace BEL := Lib.hid (below_trans BEL.out hb BEL.out.size)
  have KS := Lib.hid ho.is
  clear ho hb KA
  go_wp2_with fail
  try rw [show ((N : Int) - (T : Int)) = ((N - T : Nat) : Int) by omega]
  refine (rRest_any k (N - T) _ (by omega) (by omega)).mono ?_
  rintro e w' ⟨⟨r, hr, rfl⟩, rfl⟩
  try dsimp only
  go_wp2_with fail
  obtain ⟨K, hK⟩ : ∃ K, K = T + 1 + r := ⟨_, rfl⟩
  have hKe : ((T : Int) + 1 + (r : Int)) = (K : Int) := by omega
  rw [hKe]
  clear hKe
  refine (kPicked_any _ _ _ ps K N _ KS.out KP.out (by rw [shL_length, HAL.out]) (by omega) (by omega) hN2).mono ?_
  rintro e W5 ⟨vl, P, L, rfl, hperm, hlen, ho, hb⟩
  try dsimp only
  replace BEL := Lib.hid (below_trans BEL.out hb BEL.out.size)
  have HK := Lib.hid (Picked.of (T := T) hperm hlen hN2)
  have hTK : T + 1 ≤ K := by omega
  have hK9 : K ≤ 9 := by omega
  have KL := Lib.hid ho
  obtain ⟨Al, cl, hv, _, _⟩ := own_form ho.1
  rw [hlen] at hv
  subst hv
  have HLEN := Lib.hid hlen
  clear ho hb hperm hlen KP KS hK hr
  go_wp2_with fail
  have HC := Lib.hid (show checkE T P = 0 from checkE_zero.2 ⟨by omega, HK.out.ok, by rw [HK.out.len]; omega⟩)
  have HX := Lib.hid (show openX T (pnorm p) = ofF (toF secret) by
    unfold openX
    rw [if_neg (by have := pnorm_length p; have := HPLn.out; omega), pnorm_eval, HP0.out])
  have HE := Lib.hid (show openE T (pnorm p) = 0 from if_neg (by have := pnorm_length p; have := HPLn.out; omega))
  refine (sOpen_ok T _ _ (pnorm p) _ KL.out.is HC.out (HK.out.interp (by have := HPLn.out; omega))).mono ?_
  rintro e W6 ⟨rfl, hb⟩
  rw [HX.out, HE.out]
  try dsimp only
  replace KL := Lib.hid (KL.out.below hb)
  replace BEL := Lib.hid (below_trans BEL.out hb BEL.out.size)
  clear hb HC HX HE
  go_wp2_with fail
  refine (fNorm_any _ _ hs0).mono ?_
  rintro e w' ⟨rfl, rfl⟩
  try dsimp only
  go_wp2_with fail
  obtain ⟨WA, hWA⟩ : ∃ WA, WA = W6 := ⟨_, rfl⟩
  rw [← hWA] at KL BEL ⊢
  clear hWA
  obtain ⟨ats, hats⟩ : ∃ ats, ats = P.map (·.1) := ⟨_, rfl⟩
  have HAT := Lib.hid hats
  have HATL := Lib.hid (show ats.length = K by rw [hats, List.length_map, HLEN.out])
  clear hats
  go_loopw [17, 71] (fun v i wr => ∃ q : Nat, q ≤ K ∧ i = .int .i64 q ∧ OwnInts wr WA.heap.size v (ats.take q) ∧ Below WA.heap.size WA wr) (fun _ i _ => K - (intOf i).toNat)
  case atStart => exact ⟨0, Nat.zero_le _, rfl, OwnInts.nil _ _, Below.refl _ _⟩
  case round =>
    obtain ⟨q, hq, rfl, hown, hbel⟩ := hrel
    have KO := Lib.hid hown
    have BW := Lib.hid hbel
    have hsz := hbel.size
    clear hown hbel
    by_cases hlt : q < K
    · obtain ⟨A, c, hA, _, _, _, hu, hr⟩ := KL.out.is.below BW.out
      rw [HLEN.out] at hA
      injection hA with hA1 hA2 hA3
      subst hA1 hA3
      clear hA2
      obtain ⟨b1, o1, at_, y, rfl, hb1, hgk, hat, huy, hca, hcb⟩ := share_at hr hu (k := q) (by rw [HLEN.out]; exact hlt)
      have HT := Lib.hid (show ats.take (q + 1) = ats.take q ++ [at_] by rw [List.take_add_one, HAT.out, List.getElem?_map, hgk]; rfl)
      have HTL := Lib.hid (show (ats.take q).length ≤ 9 by rw [List.length_take, HATL.out]; omega)
      clear hr hu hgk hb1
      go_wp2_with (at_builtin; go_loud (refine wpList_push_int rfl _ _ rfl WA.heap.size _ _ at_ (wr.heap.size + 1) 1 rfl ((KO.out.alloc _).alloc _) rfl (by rw [← size_alloc wr (.cells #[.int .i64 at_, .int .u64 y] 62)]; exact new_cell _ _ _) hat (by have := HTL.out; omega) (by rw [size_alloc, size_alloc]; omega) ?_))
      intro v' w5 hown' hbel'
      rw [← HT.out] at hown'
      have K5 := Lib.hid hown'
      have B5 := Lib.hid (((BW.out.alloc hsz (.cells #[.int .i64 at_, .int .u64 y] 62)).alloc (by rw [size_alloc]; omega) (.cells #[.int .i64 at_] 3)).trans hbel')
      clear hown' hbel'
      go_wp2_with fail
      exact ⟨⟨q + 1, by omega, by go_num, K5.out, B5.out⟩, by simp [intOf] <;> omega⟩
    · obtain rfl : K = q := by omega
      have HTE := Lib.hid (show ats.take K = ats from List.take_of_length_le (by rw [HATL.out]; exact Nat.le_refl _))
      rw [HTE.out] at KO
      have HPB := Lib.hid (show partyB ats = true by rw [HAT.out]; exact partyB_ats.2 HK.out.ok)
      go_wp2_with fail
      refine (sWeights_ok _ ats _ KO.out.is (by intro e; have := HATL.out; rw [e] at this; simp at this; omega) HPB.out (by rw [HATL.out]; exact hK9)).mono ?_
      rintro e WB ⟨vw, rfl, ho, hb⟩
      obtain ⟨gw, cw, hv, hgw1, hgw2⟩ := own_slice ho.1 (by unfold wtL; rw [List.length_map, List.take_length, HATL.out]; omega)
      rw [show (wtL ats ats.length).length = K by unfold wtL; rw [List.length_map, List.take_length, HATL.out]] at hv
      subst hv
      have KW := Lib.hid ho
      have KLb := Lib.hid ((KL.out.below BW.out).below hb)
      have BELb := Lib.hid (below_trans BEL.out (below_trans BW.out hb hsz) BEL.out.size)
      clear ho hb KO BW hsz KL BEL hgw1 hgw2
      try dsimp only
      go_wp2_with fail
      obtain ⟨x, hx⟩ : ∃ x, x = toFs ats := ⟨_, rfl⟩
      have HXS := Lib.hid hx
      clear hx
      go_loopw [21, 88] (fun s i wr => ∃ q : Nat, q ≤ K ∧ i = .int .i64 q ∧ s = .int .u64 (ofF (fsum q fun i => wtF x (co x i) * peval p (co x i))) ∧ Below WB.heap.size WB wr) (fun _ i _ => K - (intOf i).toNat)
      case atStart => exact ⟨0, Nat.zero_le _, rfl, rfl, Below.refl _ _⟩
      case round =>
        obtain ⟨q, hq, rfl, rfl, hbel⟩ := hrel
        have BW := Lib.hid hbel
        have hsz := hbel.size
        clear hbel
        by_cases hlt : q < K
        · obtain ⟨A, c, hA, _, _, _, hu, hr⟩ := KLb.out.is.below BW.out
          rw [HLEN.out] at hA
          injection hA with hA1 hA2 hA3
          subst hA1 hA3
          clear hA2
          obtain ⟨b1, o1, at_, y, rfl, hb1, hgk, hat, huy, hca, hcb⟩ := share_at hr hu (k := q) (by rw [HLEN.out]; exact hlt)
          have hga : ats[q]? = some at_ := by rw [HAT.out, List.getElem?_map, hgk]; rfl
          have HON := Lib.hid (show toF y = peval p (toF at_) from HK.out.on _ (List.mem_of_getElem? hgk))
          have HCX := Lib.hid (show co x q = toF at_ by rw [HXS.out]; exact co_toFs hga)
          have hwk : (wtL ats ats.length)[q]? = some (ofF (wtF x (toF at_))) := by
            unfold wtL
            rw [List.take_length, List.getElem?_map, hga, HXS.out]; rfl
          have hcw0 := (KW.out.below BW.out).cell hwk
          have hcw := (((Below.refl wr.heap.size wr).alloc (Nat.le_refl _) (.cells #[.int .i64 at_, .int .u64 y] 62)).cell (p := ⟨gw, q, none⟩) (KW.out.below BW.out).base_le.2).trans hcw0
          have hbx := pair_cell1 wr (.int .i64 at_) (.int .u64 y) 62
          have hy0 := huy.1
          have B5 := Lib.hid (BW.out.alloc hsz (.cells #[.int .i64 at_, .int .u64 y] 62))
          clear hr hu hgk hb1 hga hwk
          go_wp2_with fail
          go_quiet ((first | exact quietL (fMul_any _ _ _ (ofF_nonneg _) hy0) | exact quietL (fAdd_any _ _ _ (ofF_nonneg _) (ofF_nonneg _))))
          go_wp2_with fail
          refine ⟨⟨q + 1, by omega, by go_num, ?_, below_drewN B5.out nq⟩, by simp [intOf] <;> omega⟩
          rw [fsum, HCX.out]
          simp only [toF_ofF]
          rw [HON.out]
        · obtain rfl : K = q := by omega
          have HSUM := Lib.hid (show fsum K (fun i => wtF x (co x i) * peval p (co x i)) = toF secret by
            rw [HXS.out, HAT.out, ← HP0.out]
            exact HK.out.sum (by have := HPLn.out; omega))
          rw [HSUM.out]
          go_wp2_with fail
          refine (fNorm_any _ _ hs0).mono ?_
          rintro e w' ⟨rfl, rfl⟩
          try dsimp only
          go_wp2_with fail
          go_ret
          exact ⟨rfl, below_trans BELb.out BW.out BELb.out.size⟩
end Go.Proofs.Ytliegjpnjfmklaa
