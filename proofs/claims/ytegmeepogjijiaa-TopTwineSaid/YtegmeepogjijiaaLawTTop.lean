/- Hiding in two variables: plain: what the blinded dealing shares with the first. -/
import Derived.Test.YtegmeepogjijiaaTwT
import Derived.Test.YtegmeepogjijiaaSomeW
import Derived.Test.YtegmeepogjijiaaTopT
import Derived.Test.YtegmeepogjijiaaFill
namespace Go.Proofs.Ytegmeepogjijiaa
open Go.RowKit Go.Maps Croft

def hidL (zs ds : List Int) (secret other : Int) (t : Nat) : List Int := twL (blindP zs) (toFs ds) (toF other - toF secret) t (off t (t + 1))
theorem off_zero (t : Nat) (ht : t < 5) (i : Nat) (hi : i < 5) (m : Nat) (hm : m < 5) (h : i + m ≤ t) (h0 : off t i + m = 0) : i = 0 ∧ m = 0 := by
  have h5 : ∀ t i m : Fin 5, i.1 + m.1 ≤ t.1 → off t.1 i.1 + m.1 = 0 → i.1 = 0 ∧ m.1 = 0 := by decide
  exact h5 ⟨t, ht⟩ ⟨i, hi⟩ ⟨m, hm⟩ h h0
theorem tw_shift' (zs ds : List Int) (secret other : Int) {t i m : Nat} (ht : t ≤ 4) (him : i + m ≤ t) (hd : ds.length + 1 = off t (t + 1)) :
    toF ((other :: hidL zs ds secret other t).getD (off t i + m) 0) = toF ((secret :: ds).getD (off t i + m) 0) + (toF other - toF secret) * (co (blindP zs) i * co (blindP zs) (i + m)) := by
  have hlt := off_lt' t (by omega) i (by omega) m (by omega) him
  cases hq : off t i + m with
  | zero =>
    obtain ⟨rfl, rfl⟩ := off_zero t (by omega) i (by omega) m (by omega) him hq
    rw [Nat.add_zero, blindP_co0, List.getD_cons_zero, List.getD_cons_zero]
    grind
  | succ a =>
    have hp := prs_at' t (by omega) i (by omega) m (by omega) him
    rw [hq] at hp
    rw [List.getD_cons_succ, List.getD_cons_succ]
    have ha : a < ds.length := by omega
    have hds : ds[a]? = some ds[a] := List.getElem?_eq_getElem ha
    have hS : (hidL zs ds secret other t)[a]? = some (twVal (blindP zs) (toFs ds) (toF other - toF secret) a (i, i + m)) := by
      unfold hidL twL
      rw [List.getElem?_map, List.getElem?_range (by omega)]
      simp [List.getD, hp]
    rw [List.getD_eq_getElem?_getD, List.getD_eq_getElem?_getD, hS, hds]
    simp only [Option.getD_some, twVal]
    rw [toF_ofF, co_toFs hds]
theorem tw_shift (zs ds : List Int) (secret other : Int) {t i j : Nat} (ht : t ≤ 4) (hi : i ≤ t) (hj : j ≤ t) (hd : ds.length + 1 = off t (t + 1)) :
    toF ((other :: hidL zs ds secret other t).getD (idx t i j) 0) = toF ((secret :: ds).getD (idx t i j) 0) + (toF other - toF secret) * (co (blindP zs) i * co (blindP zs) j) := by
  rcases Nat.le_total i j with h | h
  · have := tw_shift' zs ds secret other (t := t) (i := i) (m := j - i) ht (by omega) hd
    rw [show i + (j - i) = j by omega] at this
    rwa [← off_idx h]
  · have := tw_shift' zs ds secret other (t := t) (i := j) (m := i - j) ht (by omega) hd
    rw [show j + (i - j) = i by omega] at this
    rw [idx_comm, ← off_idx h, this]
    grind
theorem tw_same (zs ds : List Int) (secret other : Int) {t : Nat} (ht : t ≤ 4) (hd : ds.length + 1 = off t (t + 1)) (hz : zs.length ≤ t) (h9 : ∀ k ∈ zs, 1 ≤ k ∧ k ≤ 9) {x : Int} (hx : x ∈ zs) :
    rowL (dMat (other :: hidL zs ds secret other t) t) x = rowL (dMat (secret :: ds) t) x := by
  have hne : ∀ k ∈ zs, toF k ≠ 0 := fun k hk h => by
    have := h9 k hk
    have h2 := toF_eq_iff.1 (h.trans toF_zero.symm)
    rw [← P_int, Int.emod_eq_of_lt (by omega) (by omega)] at h2
    simp at h2
    omega
  rw [← dCs_full, ← dCs_full]
  unfold dCs
  apply List.map_congr_left
  intro j hj
  rw [List.mem_range] at hj
  congr 1
  unfold dC
  have e : ∀ i, i < t + 1 → toF ((other :: hidL zs ds secret other t).getD (idx t i j) 0) * toF x ^ i = toF ((secret :: ds).getD (idx t i j) 0) * toF x ^ i + (toF other - toF secret) * co (blindP zs) j * (co (blindP zs) i * toF x ^ i) := fun i hi => by
    rw [tw_shift zs ds secret other ht (by omega) (by omega) hd]
    grind
  rw [fsum_congr e, fsum_add, fsum_mul, ← peval_sum _ _ _ (by rw [(blindP_facts zs hne).2]; omega), blindP_at zs hne x hx]
  grind
theorem hidL_length (zs ds : List Int) (secret other : Int) (t : Nat) (ht : t ≤ 4) : ((hidL zs ds secret other t).length : Int) = needN t := by
  unfold hidL
  rw [twL_length]
  have h := off_need' t (by omega)
  generalize off t (t + 1) = q at h ⊢
  have : 0 ≤ needN (t : Int) := by unfold needN; split <;> (try split) <;> (try split) <;> (try split) <;> omega
  omega
end Go.Proofs.Ytegmeepogjijiaa
namespace Go.Proofs.Ytegmeepogjijiaa
open Go.RowKit Go.Maps Croft

end Go.Proofs.Ytegmeepogjijiaa
namespace Go.Proofs.Ytegmeepogjijiaa
open Go.RowKit Go.Maps Croft

set_option maxRecDepth 100000 in
set_option maxHeartbeats 1000000 in
theorem tSome2_any (va : Value) (ps : List Int) (T N : Nat) (w : World) (h1 : IsInts w va ps) (hT : T ≤ 4) (hN : 0 < N) (hN9 : N ≤ 9) :
    Calls Try.prog 65 #[va, .int .i64 T, .int .i64 N] w fun e w' => ∃ v who, e = .returned v ∧ Some_ T N who ∧ OwnInts w' w.heap.size v who ∧ Below w.heap.size w w' := by
  have KA := Lib.hid h1
  obtain ⟨A1, c1, rfl, hc1, hm1, hl1, hu1, hr1⟩ := h1
  clear hu1 hr1 hm1
  go_enter Try.func65, Try.ntmps65
  go_wp2_with fail
  go_loopw [7, 13] (fun v i wr => ∃ (k : Nat) (who : List Int), k ≤ ps.length ∧ i = .int .i64 k ∧ Some_ T N who ∧ OwnInts wr w.heap.size v who ∧ Below w.heap.size w wr) (fun _ i _ => ps.length - (intOf i).toNat)
  case atStart => exact ⟨0, [], Nat.zero_le _, rfl, Some_.nil _ _, OwnInts.nil _ _, Below.refl _ _⟩
  case round =>
    obtain ⟨k, who, hk, rfl, hsome, hown, hbel⟩ := hrel
    have KO := Lib.hid hown
    have HS := Lib.hid hsome
    have BEL := Lib.hid hbel
    have hsz := hbel.size
    obtain ⟨Ao, co_, hv, hco, _⟩ := own_form hown.1
    subst hv
    have hwl := hsome.len
    clear hown hbel hsome
    by_cases hlt : k < ps.length
    · obtain ⟨A, c, hA, _, _, _, hu, hr⟩ := KA.out.below BEL.out
      injection hA with hA1 hA2 hA3
      subst hA1 hA3
      obtain ⟨b1, o1, z, rfl, hb1, hgk, hz64, hca⟩ := ints_at hr hu hlt
      clear hu hr hgk hb1
      go_wp2_with fail
      refine (rRest_any z N _ hN (by omega)).mono ?_
      rintro e w' ⟨⟨r, hr, rfl⟩, rfl⟩
      clear hca
      try dsimp only
      by_cases hfull : who.length < T
      · have hdf : decide (who.length < T) = true := by simpa using hfull
        have hdf2 : decide ((who.length : Int) < (T : Int)) = true := by simp; omega
        go_wp2_with fail
        refine (iContains_any _ who (1 + (r : Int)) _ KO.out.is).mono ?_
        rintro e w' ⟨rfl, rfl⟩
        try dsimp only
        by_cases hmem : (1 + (r : Int)) ∈ who
        · rw [decide_eq_true hmem]
          clear hmem
          go_wp2_with fail
          exact ⟨⟨k + 1, who, by omega, by go_num, HS.out, KO.out, BEL.out⟩, by simp [intOf] <;> omega⟩
        · rw [decide_eq_false hmem]
          have HS2 := Lib.hid (HS.out.add hfull (k := 1 + (r : Int)) (by omega) hmem)
          clear hmem
          go_wp2_with (at_builtin; go_loud (refine wpList_push_int rfl _ _ rfl w.heap.size _ who (1 + (r : Int)) wr.heap.size 1 rfl (KO.out.alloc _) rfl (new_cell _ _ _) (by unfold I64; omega) (by omega) (by rw [size_alloc]; omega) ?_))
          intro v' w5 hown' hbel'
          have K5 := Lib.hid hown'
          have B5 := Lib.hid ((BEL.out.alloc hsz (.cells #[.int .i64 (1 + (r : Int))] 3)).trans hbel')
          clear hown' hbel'
          go_wp2_with fail
          exact ⟨⟨k + 1, _, by omega, by go_num, HS2.out, K5.out, B5.out⟩, by simp [intOf] <;> omega⟩
      · have hdf : decide (who.length < T) = false := by simpa using hfull
        have hdf2 : decide ((who.length : Int) < (T : Int)) = false := by simp; omega
        go_wp2_with fail
        exact ⟨⟨k + 1, who, by omega, by go_num, HS.out, KO.out, BEL.out⟩, by simp [intOf] <;> omega⟩
    · obtain rfl : ps.length = k := by omega
      go_wp2_with fail
      go_ret
      exact ⟨_, who, rfl, HS.out, KO.out, BEL.out⟩
theorem rcs_drop : ∀ (lo : Nat) (ats : List Int) (vs : List Value), rcs (ats.drop lo) (vs.drop lo) = (rcs ats vs).drop (lo * 2)
  | 0, _, _ => by simp
  | lo + 1, [], vs => by simp [rcs]
  | lo + 1, a :: ats, [] => by simp [rcs]
  | lo + 1, a :: ats, v :: vs => by
    have h := rcs_drop lo ats vs
    have e : rcs (a :: ats) (v :: vs) = Value.int .i64 a :: v :: rcs ats vs := by simp [rcs]
    rw [List.drop_succ_cons, List.drop_succ_cons, h, e, show (lo + 1) * 2 = lo * 2 + 2 by omega]
    rfl
theorem IsRows.from {w : World} {A : Option Addr} {n c : Nat} {l : List (Int × List Int)} (h : IsRows w (.slice A n c) l) (lo : Nat) (hlo : lo < l.length) : IsRows w (.slice (if c = lo then A else A.map (·.add (lo * 2))) (n - lo) (c - lo)) (l.drop lo) := by
  obtain ⟨A', cap, vs, hv, h1, h2, h3, h4, h5, h6⟩ := h
  injection hv with hv1 hv2 hv3
  subst hv1 hv2 hv3
  rw [if_neg (by omega)]
  refine ⟨_, c - lo, vs.drop lo, by rw [List.length_drop], by rw [List.length_drop]; omega, by omega, by rw [List.length_drop]; omega, fun s hs => h4 s (List.mem_of_mem_drop hs), ?_, ?_⟩
  · rw [List.map_drop, rcs_drop]
    rcases h5 with h7 | ⟨b, o, rfl, hb, hc⟩
    · rw [h7]; exact .inl (by simp)
    · refine .inr ⟨b, o + lo * 2, by simp [Addr.add], hb, fun j hj => ?_⟩
      rw [List.length_drop] at hj
      rw [Nat.add_assoc, hc (lo * 2 + j) (by omega), List.getElem?_drop]
  · refine ⟨by rw [List.map_drop, List.length_drop, List.length_drop, h6.1], fun i x r hx hr => ?_⟩
    rw [List.getElem?_drop] at hx
    rw [List.map_drop, List.getElem?_drop] at hr
    exact h6.2 _ x r hx hr
theorem OnTw.drop {D : List Int} {t : Nat} {l : List (Int × List Int)} (h : OnTw D t l) (k : Nat) : OnTw D t (l.drop k) :=
  ⟨fun r hr => h.ats r (List.mem_of_mem_drop hr), by rw [List.map_drop]; exact h.one.sublist (List.drop_sublist _ _), fun r hr => h.on r (List.mem_of_mem_drop hr)⟩
theorem heads_check {D : List Int} {t : Nat} {l : List (Int × List Int)} (h : OnTw D t l) (ht : t ≤ 4) (hl : t + 1 ≤ l.length) : checkE t (headsL l) = 0 := by
  refine checkE_zero.2 ⟨⟨by omega, by omega⟩, ⟨fun s hs => ?_, ?_⟩, by simp [headsL]; omega⟩
  · obtain ⟨r, hr, rfl⟩ := List.mem_map.1 hs
    exact h.ats r hr
  · have hm : (headsL l).map (·.1) = l.map (·.1) := by simp [headsL]
    rw [hm]
    exact h.one
theorem heads_open {D : List Int} {t : Nat} {l : List (Int × List Int)} (h : OnTw D t l) (hl : t + 1 ≤ l.length) : ∃ Q, Interp (ptsF (headsL l)) Q ∧ openX t Q = ofF (toF (D.getD 0 0)) ∧ openE t Q = 0 := by
  have hp := pnorm_length (twA D t)
  rw [twA_length] at hp
  refine ⟨_, h.interp hl, ?_, ?_⟩
  · unfold openX
    rw [if_neg (by omega), pnorm_eval, twA_zero]
  · unfold openE
    rw [if_neg (by omega)]
set_option maxRecDepth 100000 in
set_option maxHeartbeats 4000000 in
theorem topTwine_any (secret other : Int) (vd vp : Value) (ds ps : List Int) (t n : Int) (w : World) (hs : U64 secret) (hs' : U64 other) (h1 : IsNums w vd ds) (h2 : IsInts w vp ps) :
    Calls Try.prog 9 #[.int .u64 secret, .int .u64 other, vd, .int .i64 t, .int .i64 n, vp] w fun e w' => e = .returned (.bool true) ∧ Below w.heap.size w w' := by
  have KD := Lib.hid h1
  have KP := Lib.hid h2
  have hs0 := hs'.1
  have hs1 := hs.1
  suffices hgoal : ∀ Post : Ending → World → Prop, (∀ w', Below w.heap.size w w' → Post (.returned (.bool true)) w') → Calls Try.prog 9 #[.int .u64 secret, .int .u64 other, vd, .int .i64 t, .int .i64 n, vp] w Post from hgoal _ fun w' h => ⟨rfl, h⟩
  intro Post hpo
  have HP := Lib.hid hpo
  clear h1 h2 hpo
  go_enter Try.func9, Try.ntmps9
  go_wp2_with fail
  refine (tSaid_any _).mono ?_
  rintro e W1 ⟨rfl, hb⟩
  have B1 := Lib.hid hb
  clear hb
  try dsimp only
  go_wp2_with fail
  refine (tCrew_any t n _).mono ?_
  rintro e w' ⟨⟨T, N, hT, hN1, hN2, rfl⟩, rfl⟩
  try dsimp only
  go_wp2_with fail
  refine (pNeed_ok T _ (by omega)).mono ?_
  rintro e w' ⟨rfl, rfl⟩
  obtain ⟨M, hM⟩ : ∃ M : Nat, needN T = M := ⟨(needN T).toNat, by
    have : 0 ≤ needN T := by unfold needN; split <;> (try split) <;> (try split) <;> (try split) <;> omega
    omega⟩
  have hM14 : M ≤ 14 := by
    have : needN T ≤ 14 := by unfold needN; split <;> (try split) <;> (try split) <;> (try split) <;> omega
    omega
  have HM := Lib.hid hM
  rw [hM]
  clear hM
  try dsimp only
  go_wp2_with fail
  refine (tFilled_any _ ds M _ (KD.out.below B1.out) (by omega)).mono ?_
  rintro e W3 ⟨vFD, rfl, ho, hb⟩
  have B3 := Lib.hid (below_trans B1.out hb B1.out.size)
  have hdl := fillL_length ds M
  obtain ⟨D, hD⟩ : ∃ D, D = fillL ds M := ⟨_, rfl⟩
  rw [← hD] at hdl ho
  have FD := Lib.hid ho.is
  have HDN := Lib.hid (show (D.length : Int) = needN T by rw [hdl, HM.out])
  clear ho hb hdl hD B1 HM
  try dsimp only
  go_wp2_with fail
  refine (pDeal2_ok secret T N _ D _ hs FD.out hT HDN.out (by omega) hN2).mono ?_
  rintro e W4 ⟨vl, vs, rfl, ho, hb⟩
  replace FD := Lib.hid (FD.out.below hb)
  have B4 := Lib.hid (below_trans B3.out hb B3.out.size)
  obtain ⟨R, hR⟩ : ∃ R, R = dRows (secret :: D) T N := ⟨_, rfl⟩
  rw [← hR] at ho
  have HON1 := Lib.hid (show OnTw (secret :: D) T R by rw [hR]; exact dRows_on _ _ _ hN2)
  have HRL := Lib.hid (show R.length = N by rw [hR, dRows_length])
  have HRG := Lib.hid (show ∀ i, i < N → R[i]? = some ((i : Int) + 1, rowL (dMat (secret :: D) T) ((i : Int) + 1)) by rw [hR]; exact fun i hi => dRows_get _ _ _ i hi)
  have KL := Lib.hid ho.is
  obtain ⟨A, cap, hv, _, _⟩ := own_form ho.outer
  rw [HRL.out] at hv
  subst hv
  clear hR ho hb B3
  try dsimp only
  go_wp2_with fail
  go_loopw [18, 60] (fun v i wr => ∃ k : Nat, k ≤ N ∧ i = .int .i64 k ∧ OwnShares wr W4.heap.size v (headsL (R.take k)) ∧ Below W4.heap.size W4 wr) (fun _ i _ => N - (intOf i).toNat)
  case atStart => exact ⟨0, Nat.zero_le _, rfl, OwnShares.nil _ _, Below.refl _ _⟩
  case round =>
    obtain ⟨k, hk, rfl, hown, hbel⟩ := hrel
    have KO := Lib.hid hown
    have BEL := Lib.hid hbel
    have hsz := hbel.size
    clear hown hbel
    by_cases hlt : k < N
    · obtain ⟨A1, c1, vs1, hA, _, _, _, hi, hr, ha⟩ := KL.out.below BEL.out
      rw [HRL.out] at hA
      injection hA with hA1 hA2 hA3
      subst hA1 hA3
      clear hA2
      obtain ⟨b1, o1, z, x, r, rfl, hb1, hvx, hgk, hz64, hxr, hca, hcb⟩ := row_at hr ha hi (show k < R.length by rw [HRL.out]; exact hlt)
      have hrl : 0 < r.length := by
        have := (rowsB_true.1 (HON1.out.rows hT)).2 _ (List.mem_of_getElem? hgk)
        exact this.1
      have HX := Lib.hid hxr
      obtain ⟨Ax, cx, rfl, hcx, hmx, hlx, hux, hrx⟩ := hxr
      have HN := Lib.hid (heads_next hgk)
      have HHL := Lib.hid (show (headsL (R.take k)).length = k by simp [headsL, HRL.out]; omega)
      have BX := Lib.hid (Box.new wr 106 [.int .i64 z, .slice Ax r.length cx])
      have HB2 := Lib.hid ((Below.refl wr.heap.size wr).alloc (Nat.le_refl _) (.cells #[.int .i64 z, .slice Ax r.length cx] 106))
      clear hr ha hi hgk hb1 hvx hux hrx
      go_upto_region 13 with fail
      obtain ⟨w2, hw2⟩ : ∃ w2, w2 = wr.alloc (.cells #[.int .i64 z, .slice Ax r.length cx] 106) := ⟨_, rfl⟩
      replace BX := Lib.hid (show Box w2 wr.heap.size 106 [.int .i64 z, .slice Ax r.length cx] by rw [hw2]; exact BX.out)
      have KX2 := Lib.hid (show IsNums w2 (.slice Ax r.length cx) r by rw [hw2]; exact HX.out.below HB2.out)
      have KO2 := Lib.hid (show OwnShares w2 W4.heap.size _ (headsL (R.take k)) by rw [hw2]; exact KO.out.alloc _)
      have B2' := Lib.hid (show Below W4.heap.size W4 w2 by rw [hw2]; exact BEL.out.alloc hsz _)
      rw [← hw2]
      obtain ⟨cb', hcb'⟩ : ∃ c, c = wr.heap.size := ⟨_, rfl⟩
      rw [← hcb'] at BX ⊢
      have hs2 := B2'.out.size
      clear hw2 hcb' hca hcb HB2 KO HX
      have g0 := BX.out.cell (i := 0) rfl
      have g1 := BX.out.cell (i := 1) rfl
      obtain ⟨A2, c2, hA, _, _, _, hu, hr⟩ := KX2.out
      injection hA with hA1 hA2 hA3
      subst hA1 hA3
      clear hA2
      obtain ⟨b2, o2, y, rfl, hb2, hgy, huy, hcy⟩ := nums_at hr hu hrl
      rw [Nat.add_zero] at hcy
      have hhd : r.headD 0 = y := by
        cases r with
        | nil => cases hgy
        | cons a r => simpa using hgy
      rw [hhd] at HN
      clear hr hu hgy hb2 hhd
      go_wp2_with fail
      refine wp_region_quiet_tail_from 1 8 (by kernel_rfl) (by kernel_rfl) (fun _ _ _ _ _ h => h) ?_
      simp only [List.take_succ_cons, List.take_zero, List.drop_succ_cons, List.drop_zero, putAll, moved]
      simp [Act.put, Act.eval]
      repeat (go_big_quiet_step ((fail)))
      refine wpQuiet_nil ?_
      intro nq
      obtain ⟨wz, hwz⟩ : ∃ wz, wz = w2.drewN nq := ⟨_, rfl⟩
      replace KO2 := Lib.hid (show OwnShares wz W4.heap.size _ (headsL (R.take k)) by rw [hwz]; exact KO2.out.drewN nq)
      replace B2' := Lib.hid (show Below W4.heap.size W4 wz by rw [hwz]; exact below_drewN B2'.out nq)
      replace hs2 : W4.heap.size ≤ wz.heap.size := by rw [hwz]; exact hs2
      rw [← hwz]
      clear hwz g0 g1 hcy BX KX2
      go_wp2_with (at_builtin; go_loud (refine wpList_push_share rfl _ _ rfl W4.heap.size _ _ z y wz.heap.size 1 rfl (KO2.out.alloc _) rfl (pair_cell0 _ _ _ _) (pair_cell1 _ _ _ _) hz64 huy (by rw [HHL.out]; omega) (by rw [size_alloc]; omega) ?_))
      intro v' w5 hown' hbel'
      rw [← HN.out] at hown'
      have K5 := Lib.hid hown'
      have B5 := Lib.hid ((B2'.out.alloc hs2 (.cells #[.int .i64 z, .int .u64 y] 95)).trans hbel')
      clear hown' hbel'
      go_wp2_with fail
      exact ⟨⟨k + 1, by omega, by go_num, K5.out, B5.out⟩, by simp [intOf] <;> omega⟩
    · obtain rfl : k = N := by omega
      have HTK := Lib.hid (show R.take k = R from List.take_of_length_le (by rw [HRL.out]; exact Nat.le_refl _))
      rw [HTK.out] at KO
      obtain ⟨Q, hQ, hQx, hQe⟩ := heads_open HON1.out (show T + 1 ≤ R.length by rw [HRL.out]; omega)
      have HQ := Lib.hid hQ
      have HQX := Lib.hid hQx
      have HQE := Lib.hid hQe
      have HCK := Lib.hid (heads_check HON1.out hT (by rw [HRL.out]; omega))
      clear hQ hQx hQe
      have B5 := Lib.hid (below_trans B4.out BEL.out B4.out.size)
      have KL5 := Lib.hid (KL.out.below BEL.out)
      have FD5 := Lib.hid (FD.out.below BEL.out)
      go_wp2_with fail
      refine (sOpen_ok T _ _ Q _ KO.out.is HCK.out HQ.out).mono ?_
      rintro e W6 ⟨rfl, hb6⟩
      rw [HQX.out, HQE.out, show (secret :: D).getD 0 0 = secret from rfl]
      have B6 := Lib.hid (below_trans B5.out hb6 B5.out.size)
      have KL6 := Lib.hid (KL5.out.below hb6)
      have FD6 := Lib.hid (FD5.out.below hb6)
      clear hb6 KO BEL KL FD KL5 FD5 B4 B5
      try dsimp only
      obtain ⟨lo, hlo⟩ : ∃ lo : Nat, (k : Int) - (T : Int) - 1 = (lo : Int) := ⟨k - T - 1, by omega⟩
      have hlk : lo ≤ k := by omega
      obtain ⟨vj, hvj⟩ : ∃ vj, vj = Value.slice (if cap = lo then A else A.map (·.add (lo * 2))) (k - lo) (cap - lo) := ⟨_, rfl⟩
      have hsl : ∀ W : World, (Instr.sliceAt 83 (.slice A k cap) (some (.int .i64 (lo : Int))) none none).run Try.prog W = .ok vj W := fun W => by rw [hvj]; exact rslice_from A k cap lo hlk W
      have KJ := Lib.hid (show IsRows W6 vj (R.drop lo) by rw [hvj]; exact KL6.out.from lo (by rw [HRL.out]; omega))
      have HJL := Lib.hid (show T + 1 ≤ (R.drop lo).length by rw [List.length_drop, HRL.out]; omega)
      clear hvj hlk
      go_wp2_with fail
      refine (pJoin_tw (secret :: D) T vj (R.drop lo) W6 KJ.out hT (HON1.out.drop lo) HJL.out).mono ?_
      rintro e W7 ⟨rfl, hb7⟩
      rw [show (secret :: D).getD 0 0 = secret from rfl]
      have B7 := Lib.hid (below_trans B6.out hb7 B6.out.size)
      have KL7 := Lib.hid (KL6.out.below hb7)
      have FD7 := Lib.hid (FD6.out.below hb7)
      clear hb7 KJ hsl hlo KL6 FD6 B6
      try dsimp only
      go_wp2_with fail
      refine (fNorm_any _ _ hs1).mono ?_
      rintro e w' ⟨rfl, rfl⟩
      try dsimp only
      go_wp2_with fail
      refine (tSome2_any _ ps T k _ (KP.out.below B7.out) hT (by omega) hN2).mono ?_
      rintro e W8 ⟨vw, who, rfl, hsome, ho, hb⟩
      have B8 := Lib.hid (below_trans B7.out hb B7.out.size)
      have KL8 := Lib.hid (KL7.out.below hb)
      have FD8 := Lib.hid (FD7.out.below hb)
      have HSM := Lib.hid hsome
      have HPB := Lib.hid (hsome.party hN2)
      have hwl : who.length ≤ T := hsome.len
      have KW := Lib.hid ho.is
      obtain ⟨Aw, cw, hv, _, _⟩ := own_form ho.1
      subst hv
      clear ho hb hsome KL7 FD7 B7
      try dsimp only
      go_wp2_with fail
      refine (hTwine_ok _ _ who D T secret other _ KW.out FD8.out HPB.out hT hwl HDN.out hs1 hs0).mono ?_
      rintro e W9 ⟨vS, rfl, ho, hb⟩
      have hdo : D.length + 1 = off T (T + 1) := by
        have h := off_need' T (by omega)
        have h2 := HDN.out
        generalize off T (T + 1) = q at h ⊢
        omega
      obtain ⟨S, hS⟩ : ∃ S, S = hidL who D secret other T := ⟨_, rfl⟩
      rw [show twL (blindP who) (toFs D) (toF other - toF secret) T (off T (T + 1)) = S from hS.symm] at ho
      have HSN := Lib.hid (show (S.length : Int) = needN T by rw [hS]; exact hidL_length who D secret other T hT)
      have HSAME := Lib.hid (show ∀ x ∈ who, rowL (dMat (other :: S) T) x = rowL (dMat (secret :: D) T) x by
        rw [hS]
        exact fun x hx => tw_same who D secret other hT hdo hwl (fun k hk => by have := HSM.out.in_ k hk; omega) hx)
      replace KW := Lib.hid (KW.out.below hb)
      have KL9 := Lib.hid (KL8.out.below hb)
      have B9 := Lib.hid (below_trans B8.out hb B8.out.size)
      have KS := Lib.hid ho.is
      clear ho hb hS FD8 hdo KL8 B8
      try dsimp only
      go_wp2_with fail
      refine (pDeal2_ok other T k _ S _ hs' KS.out hT HSN.out (by omega) hN2).mono ?_
      rintro e W10 ⟨vb, vbs, rfl, ho, hb⟩
      replace KW := Lib.hid (KW.out.below hb)
      have KL10 := Lib.hid (KL9.out.below hb)
      have B10 := Lib.hid (below_trans B9.out hb B9.out.size)
      obtain ⟨R2, hR⟩ : ∃ R, R = dRows (other :: S) T k := ⟨_, rfl⟩
      rw [← hR] at ho
      have HRL2 := Lib.hid (show R2.length = k by rw [hR, dRows_length])
      have HRG2 := Lib.hid (show ∀ i, i < k → R2[i]? = some ((i : Int) + 1, rowL (dMat (other :: S) T) ((i : Int) + 1)) by rw [hR]; exact fun i hi => dRows_get _ _ _ i hi)
      have KB := Lib.hid ho.is
      obtain ⟨A2, cap2, hv, _, _⟩ := own_form ho.outer
      rw [HRL2.out] at hv
      subst hv
      clear hR ho hb KS KL9 B9
      try dsimp only
      go_wp2_with fail
      go_loopw [138] (fun i wr => ∃ q : Nat, q ≤ who.length ∧ i = .int .i64 q ∧ Below W10.heap.size W10 wr) (fun i _ => who.length - (intOf i).toNat)
      case atStart => exact ⟨0, Nat.zero_le _, rfl, Below.refl _ _⟩
      case round =>
        obtain ⟨q, hq, rfl, hbel⟩ := hrel
        have BW := Lib.hid hbel
        have hsz := hbel.size
        clear hbel
        by_cases hlt : q < who.length
        · obtain ⟨Aq, cq, hA, _, _, _, hu, hr⟩ := KW.out.below BW.out
          injection hA with hA1 hA2 hA3
          subst hA1 hA3
          clear hA2
          obtain ⟨b1, o1, x, rfl, hb1, hgk, hat, hca⟩ := ints_at hr hu hlt
          have hin := HSM.out.in_ x (List.mem_of_getElem? hgk)
          have hsame := HSAME.out x (List.mem_of_getElem? hgk)
          obtain ⟨i, rfl⟩ : ∃ i : Nat, x = (i : Int) + 1 := ⟨(x - 1).toNat, by omega⟩
          have hiN : i < k := by omega
          obtain ⟨L, hL⟩ : ∃ L, L = rowL (dMat (secret :: D) T) ((i : Int) + 1) := ⟨_, rfl⟩
          have hG1 := HRG.out i hiN
          have hG2 := HRG2.out i hiN
          rw [hsame] at hG2
          rw [← hL] at hG1 hG2
          clear hr hu hgk hb1 hin hsame hL
          obtain ⟨A3, c3, vs3, hA, _, _, _, hi3, hr, ha⟩ := KL10.out.below BW.out
          rw [HRL.out] at hA
          injection hA with hA1 hA2 hA3
          subst hA1 hA3
          clear hA2
          obtain ⟨b2, o2, z, x2, r, rfl, hb2, hvx, hgr, hz64, hxr, hra, hrb⟩ := row_at hr ha hi3 (k := i) (by rw [HRL.out]; exact hiN)
          rw [hG1] at hgr
          obtain ⟨rfl, rfl⟩ := Prod.mk.inj (Option.some.inj hgr)
          have HX := Lib.hid hxr
          clear hr ha hi3 hgr hb2 hvx hxr hra hG1 hz64
          obtain ⟨A3, c3, vs4, hA, _, _, _, hi3, hr, ha⟩ := KB.out.below BW.out
          rw [HRL2.out] at hA
          injection hA with hA1 hA2 hA3
          subst hA1 hA3
          clear hA2
          obtain ⟨b3, o3, z, x3, r, rfl, hb2, hvx, hgr, hz64, hxr, hra, hrb2⟩ := row_at hr ha hi3 (k := i) (by rw [HRL2.out]; exact hiN)
          rw [hG2] at hgr
          obtain ⟨rfl, rfl⟩ := Prod.mk.inj (Option.some.inj hgr)
          have HX2 := Lib.hid hxr
          clear hr ha hi3 hgr hb2 hvx hxr hra hG2 hz64
          go_wp2_with fail
          go_quiet (exact quietN (equal_any _ _ _ _ _ (HX.out.drewN _) (HX2.out.drewN _)))
          rw [decide_eq_true rfl]
          go_wp2_with fail
          exact ⟨⟨q + 1, by omega, by go_num, below_drewN BW.out nq⟩, by simp [intOf] <;> omega⟩
        · obtain rfl : q = who.length := by omega
          go_wp2_with fail
          exact HP.out _ (below_trans B10.out BW.out B10.out.size)
end Go.Proofs.Ytegmeepogjijiaa
