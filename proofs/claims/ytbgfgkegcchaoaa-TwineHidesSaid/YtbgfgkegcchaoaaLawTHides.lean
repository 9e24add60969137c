/- Hiding in two variables: plain: what the blinded dealing shares with the first. -/
import Derived.Test.YtbgfgkegcchaoaaTwD
import Derived.Test.YtbgfgkegcchaoaaHideT
import Derived.Test.YtbgfgkegcchaoaaSomeW
namespace Go.Proofs.Ytbgfgkegcchaoaa
open Go.RowKit Go.Maps Croft

def hidL (zs ds : List Int) (secret other : Int) (t : Nat) : List Int := twL (blindP zs) (toFs ds) (toF other - toF secret) t (off t (t + 1))
theorem off_zero (t : Nat) (ht : t < 5) (i : Nat) (hi : i < 5) (m : Nat) (hm : m < 5) (h : i + m ≤ t) (h0 : off t i + m = 0) : i = 0 ∧ m = 0 := by
  have h5 : ∀ t i m : Fin 5, i.1 + m.1 ≤ t.1 → off t.1 i.1 + m.1 = 0 → i.1 = 0 ∧ m.1 = 0 := by decide
  exact h5 ⟨t, ht⟩ ⟨i, hi⟩ ⟨m, hm⟩ h h0
theorem tw_shift' (zs ds : List Int) (secret other : Int) {t i m : Nat} (ht : t ≤ 4) (him : i + m ≤ t) (hd : ds.length + 1 = off t (t + 1)) :
    toF ((other :: hidL zs ds secret other t).getD (off t i + m) 0) = toF ((secret :: ds).getD (off t i + m) 0) + (toF other - toF secret) * (co (blindP zs) i * co (blindP zs) (i + m)) := by
  have hlt := off_lt' t (by omega) i (by omega) m (by omega) him
  cases hq : off t i + m with
  | zero =>
    obtain ⟨rfl, rfl⟩ := off_zero t (by omega) i (by omega) m (by omega) him hq
    rw [Nat.add_zero, blindP_co0, List.getD_cons_zero, List.getD_cons_zero]
    grind
  | succ a =>
    have hp := prs_at' t (by omega) i (by omega) m (by omega) him
    rw [hq] at hp
    rw [List.getD_cons_succ, List.getD_cons_succ]
    have ha : a < ds.length := by omega
    have hds : ds[a]? = some ds[a] := List.getElem?_eq_getElem ha
    have hS : (hidL zs ds secret other t)[a]? = some (twVal (blindP zs) (toFs ds) (toF other - toF secret) a (i, i + m)) := by
      unfold hidL twL
      rw [List.getElem?_map, List.getElem?_range (by omega)]
      simp [List.getD, hp]
    rw [List.getD_eq_getElem?_getD, List.getD_eq_getElem?_getD, hS, hds]
    simp only [Option.getD_some, twVal]
    rw [toF_ofF, co_toFs hds]
theorem tw_shift (zs ds : List Int) (secret other : Int) {t i j : Nat} (ht : t ≤ 4) (hi : i ≤ t) (hj : j ≤ t) (hd : ds.length + 1 = off t (t + 1)) :
    toF ((other :: hidL zs ds secret other t).getD (idx t i j) 0) = toF ((secret :: ds).getD (idx t i j) 0) + (toF other - toF secret) * (co (blindP zs) i * co (blindP zs) j) := by
  rcases Nat.le_total i j with h | h
  · have := tw_shift' zs ds secret other (t := t) (i := i) (m := j - i) ht (by omega) hd
    rw [show i + (j - i) = j by omega] at this
    rwa [← off_idx h]
  · have := tw_shift' zs ds secret other (t := t) (i := j) (m := i - j) ht (by omega) hd
    rw [show j + (i - j) = i by omega] at this
    rw [idx_comm, ← off_idx h, this]
    grind
theorem tw_same (zs ds : List Int) (secret other : Int) {t : Nat} (ht : t ≤ 4) (hd : ds.length + 1 = off t (t + 1)) (hz : zs.length ≤ t) (h9 : ∀ k ∈ zs, 1 ≤ k ∧ k ≤ 9) {x : Int} (hx : x ∈ zs) :
    rowL (dMat (other :: hidL zs ds secret other t) t) x = rowL (dMat (secret :: ds) t) x := by
  have hne : ∀ k ∈ zs, toF k ≠ 0 := fun k hk h => by
    have := h9 k hk
    have h2 := toF_eq_iff.1 (h.trans toF_zero.symm)
    rw [← P_int, Int.emod_eq_of_lt (by omega) (by omega)] at h2
    simp at h2
    omega
  rw [← dCs_full, ← dCs_full]
  unfold dCs
  apply List.map_congr_left
  intro j hj
  rw [List.mem_range] at hj
  congr 1
  unfold dC
  have e : ∀ i, i < t + 1 → toF ((other :: hidL zs ds secret other t).getD (idx t i j) 0) * toF x ^ i = toF ((secret :: ds).getD (idx t i j) 0) * toF x ^ i + (toF other - toF secret) * co (blindP zs) j * (co (blindP zs) i * toF x ^ i) := fun i hi => by
    rw [tw_shift zs ds secret other ht (by omega) (by omega) hd]
    grind
  rw [fsum_congr e, fsum_add, fsum_mul, ← peval_sum _ _ _ (by rw [(blindP_facts zs hne).2]; omega), blindP_at zs hne x hx]
  grind
theorem hidL_length (zs ds : List Int) (secret other : Int) (t : Nat) (ht : t ≤ 4) : ((hidL zs ds secret other t).length : Int) = needN t := by
  unfold hidL
  rw [twL_length]
  have h := off_need' t (by omega)
  generalize off t (t + 1) = q at h ⊢
  have : 0 ≤ needN (t : Int) := by unfold needN; split <;> (try split) <;> (try split) <;> (try split) <;> omega
  omega
end Go.Proofs.Ytbgfgkegcchaoaa
namespace Go.Proofs.Ytbgfgkegcchaoaa
open Go.RowKit Go.Maps Croft

set_option maxRecDepth 100000 in
set_option maxHeartbeats 4000000 in
theorem twineHides_any (secret other : Int) (vd vp : Value) (ds ps : List Int) (t n : Int) (w : World) (hs : U64 secret) (hs' : U64 other) (h1 : IsNums w vd ds) (h2 : IsInts w vp ps) :
    Calls Try.prog 10 #[.int .u64 secret, .int .u64 other, vd, .int .i64 t, .int .i64 n, vp] w fun e w' => e = .returned (.bool true) ∧ Below w.heap.size w w' := by
  have KD := Lib.hid h1
  have KP := Lib.hid h2
  have hs0 := hs'.1
  have hs1 := hs.1
  have BEL := Lib.hid (Below.refl w.heap.size w)
  clear h1 h2
  go_enter Try.func10, Try.ntmps10
  go_wp2_with fail
  refine (kTwined_any _).mono ?_
  rintro e W1 ⟨rfl, hb⟩
  try dsimp only
  replace KD := Lib.hid (KD.out.below hb)
  replace KP := Lib.hid (KP.out.below hb)
  replace BEL := Lib.hid (below_trans BEL.out hb BEL.out.size)
  clear hb
  go_wp2_with fail
  refine (kCrew_any t n _).mono ?_
  rintro e w' ⟨⟨T, N, hT, hN1, hN2, rfl⟩, rfl⟩
  try dsimp only
  go_wp2_with fail
  refine (kSome_any _ ps T N _ KP.out hT (by omega) hN2).mono ?_
  rintro e W2 ⟨vw, who, rfl, hsome, ho, hb⟩
  replace KD := Lib.hid (KD.out.below hb)
  replace BEL := Lib.hid (below_trans BEL.out hb BEL.out.size)
  have HSM := Lib.hid hsome
  have HPB := Lib.hid (hsome.party hN2)
  have hwl : who.length ≤ T := hsome.len
  have KW := Lib.hid ho.is
  obtain ⟨Aw, cw, hv, _, _⟩ := own_form ho.1
  subst hv
  clear ho hb KP hsome
  try dsimp only
  go_wp2_with fail
  refine (pNeed_ok T _ (by omega)).mono ?_
  rintro e w' ⟨rfl, rfl⟩
  obtain ⟨M, hM⟩ : ∃ M : Nat, needN T = M := ⟨(needN T).toNat, by
    have : 0 ≤ needN T := by unfold needN; split <;> (try split) <;> (try split) <;> (try split) <;> omega
    omega⟩
  have hM14 : M ≤ 14 := by
    have : needN T ≤ 14 := by unfold needN; split <;> (try split) <;> (try split) <;> (try split) <;> omega
    omega
  have HM := Lib.hid hM
  rw [hM]
  clear hM
  try dsimp only
  go_wp2_with fail
  refine (kFilled_any _ _ (M) _ KD.out (by omega)).mono ?_
  rintro e W3 ⟨vFD, rfl, ho, hb⟩
  try dsimp only
  replace KW := Lib.hid (KW.out.below hb)
  replace BEL := Lib.hid (below_trans BEL.out hb BEL.out.size)
  have hdl := fillL_length ds (M)
  obtain ⟨D, hD⟩ : ∃ D, D = fillL ds (M) := ⟨_, rfl⟩
  rw [← hD] at hdl ho
  have FD := Lib.hid ho.is
  have HDL := Lib.hid hdl
  have HDN := Lib.hid (show (D.length : Int) = needN T by rw [hdl, HM.out])
  clear ho hb hdl hD KD
  go_wp2_with fail
  refine (pDeal2_ok secret T N _ D _ hs FD.out hT HDN.out (by omega) hN2).mono ?_
  rintro e W4 ⟨vl, vs, rfl, ho, hb⟩
  replace KW := Lib.hid (KW.out.below hb)
  replace FD := Lib.hid (FD.out.below hb)
  replace BEL := Lib.hid (below_trans BEL.out hb BEL.out.size)
  obtain ⟨R, hR⟩ : ∃ R, R = dRows (secret :: D) T N := ⟨_, rfl⟩
  rw [← hR] at ho
  have HRL := Lib.hid (show R.length = N by rw [hR, dRows_length])
  have HRG := Lib.hid (show ∀ i, i < N → R[i]? = some ((i : Int) + 1, rowL (dMat (secret :: D) T) ((i : Int) + 1)) by rw [hR]; exact fun i hi => dRows_get _ _ _ i hi)
  have KL := Lib.hid ho.is
  obtain ⟨A, cap, hv, _, _⟩ := own_form ho.outer
  rw [HRL.out] at hv
  subst hv
  clear hR ho hb
  try dsimp only
  go_wp2_with fail
  refine (hTwine_ok _ _ who D T secret other _ KW.out FD.out HPB.out hT hwl HDN.out hs1 hs0).mono ?_
  rintro e W5 ⟨vS, rfl, ho, hb⟩
  have hdo : D.length + 1 = off T (T + 1) := by
    have h := off_need' T (by omega)
    have h2 := HDN.out
    generalize off T (T + 1) = q at h ⊢
    omega
  obtain ⟨S, hS⟩ : ∃ S, S = hidL who D secret other T := ⟨_, rfl⟩
  rw [show twL (blindP who) (toFs D) (toF other - toF secret) T (off T (T + 1)) = S from hS.symm] at ho
  have HSN := Lib.hid (show (S.length : Int) = needN T by rw [hS]; exact hidL_length who D secret other T hT)
  have HSAME := Lib.hid (show ∀ x ∈ who, rowL (dMat (other :: S) T) x = rowL (dMat (secret :: D) T) x by
    rw [hS]
    exact fun x hx => tw_same who D secret other hT hdo hwl (fun k hk => by have := HSM.out.in_ k hk; omega) hx)
  replace KW := Lib.hid (KW.out.below hb)
  replace KL := Lib.hid (KL.out.below hb)
  replace BEL := Lib.hid (below_trans BEL.out hb BEL.out.size)
  have KS := Lib.hid ho.is
  clear ho hb hS FD hdo
  try dsimp only
  go_wp2_with fail
  refine (pDeal2_ok other T N _ S _ hs' KS.out hT HSN.out (by omega) hN2).mono ?_
  rintro e W6 ⟨vb, vbs, rfl, ho, hb⟩
  replace KW := Lib.hid (KW.out.below hb)
  replace KL := Lib.hid (KL.out.below hb)
  replace BEL := Lib.hid (below_trans BEL.out hb BEL.out.size)
  obtain ⟨R2, hR⟩ : ∃ R, R = dRows (other :: S) T N := ⟨_, rfl⟩
  rw [← hR] at ho
  have HON := Lib.hid (show OnTw (other :: S) T R2 by rw [hR]; exact dRows_on _ _ _ hN2)
  have HRL2 := Lib.hid (show R2.length = N by rw [hR, dRows_length])
  have HRG2 := Lib.hid (show ∀ i, i < N → R2[i]? = some ((i : Int) + 1, rowL (dMat (other :: S) T) ((i : Int) + 1)) by rw [hR]; exact fun i hi => dRows_get _ _ _ i hi)
  have KB := Lib.hid ho.is
  obtain ⟨A2, cap2, hv, _, _⟩ := own_form ho.outer
  rw [HRL2.out] at hv
  subst hv
  clear hR ho hb KS
  try dsimp only
  go_wp2_with fail
  go_loopw [83] (fun i wr => ∃ q : Nat, q ≤ who.length ∧ i = .int .i64 q ∧ Below W6.heap.size W6 wr) (fun i _ => who.length - (intOf i).toNat)
  case atStart => exact ⟨0, Nat.zero_le _, rfl, Below.refl _ _⟩
  case round =>
    obtain ⟨q, hq, rfl, hbel⟩ := hrel
    have BW := Lib.hid hbel
    have hsz := hbel.size
    clear hbel
    by_cases hlt : q < who.length
    · obtain ⟨Aq, cq, hA, _, _, _, hu, hr⟩ := KW.out.below BW.out
      injection hA with hA1 hA2 hA3
      subst hA1 hA3
      clear hA2
      obtain ⟨b1, o1, x, rfl, hb1, hgk, hat, hca⟩ := ints_at hr hu hlt
      have hin := HSM.out.in_ x (List.mem_of_getElem? hgk)
      have hsame := HSAME.out x (List.mem_of_getElem? hgk)
      obtain ⟨i, rfl⟩ : ∃ i : Nat, x = (i : Int) + 1 := ⟨(x - 1).toNat, by omega⟩
      have hiN : i < N := by omega
      obtain ⟨L, hL⟩ : ∃ L, L = rowL (dMat (secret :: D) T) ((i : Int) + 1) := ⟨_, rfl⟩
      have hG1 := HRG.out i hiN
      have hG2 := HRG2.out i hiN
      rw [hsame] at hG2
      rw [← hL] at hG1 hG2
      clear hr hu hgk hb1 hin hsame hL
      obtain ⟨A3, c3, vs3, hA, _, _, _, hi3, hr, ha⟩ := KL.out.below BW.out
      rw [HRL.out] at hA
      injection hA with hA1 hA2 hA3
      subst hA1 hA3
      clear hA2
      obtain ⟨b2, o2, z, x2, r, rfl, hb2, hvx, hgr, hz64, hxr, hra, hrb⟩ := row_at hr ha hi3 (k := i) (by rw [HRL.out]; exact hiN)
      rw [hG1] at hgr
      obtain ⟨rfl, rfl⟩ := Prod.mk.inj (Option.some.inj hgr)
      have HX := Lib.hid hxr
      clear hr ha hi3 hgr hb2 hvx hxr hra hG1 hz64
      obtain ⟨A3, c3, vs4, hA, _, _, _, hi3, hr, ha⟩ := KB.out.below BW.out
      rw [HRL2.out] at hA
      injection hA with hA1 hA2 hA3
      subst hA1 hA3
      clear hA2
      obtain ⟨b3, o3, z, x3, r, rfl, hb2, hvx, hgr, hz64, hxr, hra, hrb2⟩ := row_at hr ha hi3 (k := i) (by rw [HRL2.out]; exact hiN)
      rw [hG2] at hgr
      obtain ⟨rfl, rfl⟩ := Prod.mk.inj (Option.some.inj hgr)
      have HX2 := Lib.hid hxr
      clear hr ha hi3 hgr hb2 hvx hxr hra hG2 hz64
      go_wp2_with fail
      go_quiet (exact quietN (equal_any _ _ _ _ _ (HX.out.drewN _) (HX2.out.drewN _)))
      rw [decide_eq_true rfl]
      go_wp2_with fail
      exact ⟨⟨q + 1, by omega, by go_num, below_drewN BW.out nq⟩, by simp [intOf] <;> omega⟩
    · obtain rfl : q = who.length := by omega
      have KB2 := Lib.hid (KB.out.below BW.out)
      have B7 := Lib.hid (below_trans BEL.out BW.out BEL.out.size)
      clear BW
      go_wp2_with fail
      refine (pJoin_tw (other :: S) T _ R2 _ KB2.out hT HON.out (by rw [HRL2.out]; omega)).mono ?_
      rintro e W9 ⟨rfl, hb⟩
      have B9 := Lib.hid (below_trans B7.out hb B7.out.size)
      clear hb
      rw [show (other :: S).getD 0 0 = other from rfl]
      try dsimp only
      go_wp2_with fail
      refine (fNorm_any _ _ hs0).mono ?_
      rintro e w' ⟨rfl, rfl⟩
      try dsimp only
      go_wp2_with fail
      go_ret
      exact ⟨rfl, B9.out⟩
end Go.Proofs.Ytbgfgkegcchaoaa
