/- Package twine: Join: what the call returns. -/
import Derived.Test.YtegmeepogjijiaaTwP
import Derived.Test.YtegmeepogjijiaaTimesR
import Derived.Test.YtegmeepogjijiaaShamQ
import Derived.Test.YtegmeepogjijiaaTwineZ
import Derived.Test.YtegmeepogjijiaaKeepW
import Derived.Test.YtegmeepogjijiaaClone
namespace Go.Proofs.Ytegmeepogjijiaa
open Go.RowKit Go.Maps Croft

def badLen (t : Int) (r : Int × List Int) : Bool := ((r.2.length : Int) != t + 1)
def headsL (l : List (Int × List Int)) : List (Int × Int) := l.map fun r => (r.1, r.2.headD 0)
theorem lenJ_any (a : Int) (va : Value) (r : List Int) (t : Int) (b : Nat) (w : World) (h1 : IsNums w va r) (hb : w.cell? ⟨b, 0, none⟩ = some (.int .i64 t)) (hbl : b < w.heap.size) (hv : 0 ≤ t ∧ t ≤ 4) :
    Calls Try.prog 108 #[.agg #[.int .i64 a, va], .pointer (some ⟨b, 0, none⟩)] w fun e w' => e = .returned (.bool (badLen t (a, r))) ∧ Below w.heap.size w w' := by
  obtain ⟨A1, c1, rfl, hc1, hm1, hl1, hu1, hr1⟩ := h1
  obtain ⟨hv1, hv2⟩ := hv
  have HL := Lib.hid (show badLen t (a, r) = ((r.length : Int) != t + 1) from rfl)
  have BX := Lib.hid (Box.new w 106 [.int .i64 a, .slice A1 r.length c1])
  have HB2 := Lib.hid ((Below.refl w.heap.size w).alloc (Nat.le_refl _) (.cells #[.int .i64 a, .slice A1 r.length c1] 106))
  clear hu1 hr1 hm1
  go_enter Try.func108, Try.ntmps108
  go_upto_region 1 with fail
  obtain ⟨w2, hw2⟩ : ∃ w2, w2 = w.alloc (.cells #[.int .i64 a, .slice A1 r.length c1] 106) := ⟨_, rfl⟩
  replace BX := Lib.hid (show Box w2 w.heap.size 106 [.int .i64 a, .slice A1 r.length c1] by rw [hw2]; exact BX.out)
  have hcell : w2.cell? ⟨b, 0, none⟩ = some (.int .i64 t) := by rw [hw2]; exact (HB2.out.cell (p := ⟨b, 0, none⟩) hbl).trans hb
  replace HB2 := Lib.hid (show Below w.heap.size w w2 by rw [hw2]; exact HB2.out)
  rw [← hw2]
  obtain ⟨cb, hcb2⟩ : ∃ cb, cb = w.heap.size := ⟨_, rfl⟩
  rw [← hcb2] at BX ⊢
  clear hw2 hcb2 hb
  have g0 := BX.out.cell (i := 0) rfl
  have g1 := BX.out.cell (i := 1) rfl
  go_wp2_with fail
  go_ret
  exact ⟨by rw [HL.out]; rfl, HB2.out⟩
theorem idxJ_any (t : Int) (b : Nat) (va : Value) (l : List (Int × List Int)) (w : World) (h1 : IsRows w va l) (hb : w.cell? ⟨b, 0, none⟩ = some (.int .i64 t)) (hbl : b < w.heap.size) (hv : 0 ≤ t ∧ t ≤ 4) :
    Calls Try.prog 136 #[va, .func (.func 108) #[] #[.pointer (some ⟨b, 0, none⟩)]] w fun e w' => ∃ r : Int, e = .returned (.int .i64 r) ∧ ((0 ≤ r) ↔ l.any (badLen t) = true) ∧ Below w.heap.size w w' := by
  have hcf : ∀ (x y : Value) (W : World), (callFunc 108 #[x, y]).run Try.prog W = .ok (.enter 108 #[x, y]) W := fun x y W => by kernel_rfl
  have KA := Lib.hid h1
  obtain ⟨A1, c1, vs1, rfl, hc1, hm1, hl1, hi1, hr1, ha1⟩ := h1
  have HB := Lib.hid hb
  have HV := Lib.hid hv
  clear hi1 hr1 hm1 ha1 hb hv
  go_enter Try.func136, Try.ntmps136
  go_wp2_with fail
  go_loopw [8] (fun i wr => ∃ k : Nat, k ≤ l.length ∧ i = .int .i64 k ∧ (l.take k).any (badLen t) = false ∧ Below w.heap.size w wr) (fun i _ => l.length - (intOf i).toNat)
  case atStart => exact ⟨0, Nat.zero_le _, rfl, by simp, Below.refl _ _⟩
  case round =>
    obtain ⟨k, hk, rfl, hno, hbel⟩ := hrel
    have HN := Lib.hid hno
    have BEL := Lib.hid hbel
    have hsz := hbel.size
    clear hno hbel
    by_cases hlt : k < l.length
    · obtain ⟨A, c, vs, hA, _, _, _, hi, hr, ha⟩ := KA.out.below BEL.out
      injection hA with hA1 hA2 hA3
      subst hA1 hA3
      clear hA2
      obtain ⟨b1, o1, z, x, r, rfl, hb1, hvx, hgk, hz64, hxr, hca, hcb⟩ := row_at hr ha hi hlt
      have HX := Lib.hid hxr
      have HG := Lib.hid hgk
      have HC := Lib.hid ((BEL.out.cell (p := ⟨b, 0, none⟩) hbl).trans HB.out)
      clear hr ha hi hgk hb1 hvx hxr
      have hbw : b < wr.heap.size := by omega
      cases hp : badLen t (z, r) with
      | true =>
        have HP := Lib.hid hp
        clear hp
        go_wp2_with fail
        refine (lenJ_any z x r t b _ HX.out HC.out hbw HV.out).mono ?_
        rintro e w' ⟨rfl, hb'⟩
        rw [HP.out]
        have B2 := Lib.hid (below_trans BEL.out hb' hsz)
        clear hb'
        try dsimp only
        go_wp2_with fail
        go_ret
        refine ⟨_, rfl, ⟨fun _ => ?_, fun _ => by omega⟩, B2.out⟩
        rw [List.any_eq_true]
        exact ⟨(z, r), List.mem_of_getElem? HG.out, HP.out⟩
      | false =>
        have HP := Lib.hid hp
        clear hp
        go_wp2_with fail
        refine (lenJ_any z x r t b _ HX.out HC.out hbw HV.out).mono ?_
        rintro e w' ⟨rfl, hb'⟩
        rw [HP.out]
        have B2 := Lib.hid (below_trans BEL.out hb' hsz)
        clear hb'
        try dsimp only
        go_wp2_with fail
        refine ⟨⟨k + 1, by omega, by go_num, ?_, B2.out⟩, by simp [intOf] <;> omega⟩
        rw [List.take_add_one, HG.out, List.any_append, HN.out]
        simp [HP.out]
    · obtain rfl : k = l.length := by omega
      go_wp2_with fail
      go_ret
      refine ⟨_, rfl, ⟨fun h => by omega, fun h => ?_⟩, BEL.out⟩
      have := HN.out
      rw [List.take_length] at this
      have h' : l.any (badLen t) = true := by first | exact h | exact List.any_eq_true.2 h
      rw [h'] at this
      cases this
theorem hasJ_any (t : Int) (b : Nat) (va : Value) (l : List (Int × List Int)) (w : World) (h1 : IsRows w va l) (hb : w.cell? ⟨b, 0, none⟩ = some (.int .i64 t)) (hbl : b < w.heap.size) (hv : 0 ≤ t ∧ t ≤ 4) :
    Calls Try.prog 107 #[va, .func (.func 108) #[] #[.pointer (some ⟨b, 0, none⟩)]] w fun e w' => e = .returned (.bool (l.any (badLen t))) ∧ Below w.heap.size w w' := by
  have C := Lib.hid (idxJ_any t b va l w h1 hb hbl hv)
  clear h1 hb hv hbl
  go_enter Try.func107, Try.ntmps107
  go_wp2_with fail
  refine C.out.mono ?_
  rintro e w' ⟨r, rfl, hr, hb'⟩
  have BB := Lib.hid hb'
  clear hb'
  cases ha : l.any (badLen t) with
  | true =>
    have h0 : r ≥ 0 := hr.2 ha
    have HA := Lib.hid ha
    clear hr ha
    try dsimp only
    go_wp2_with fail
    go_ret
    exact ⟨by rw [HA.out]; rfl, BB.out⟩
  | false =>
    have h0 : ¬ r ≥ 0 := fun h => by have := hr.1 h; rw [ha] at this; cases this
    have HA := Lib.hid ha
    clear hr ha
    try dsimp only
    go_wp2_with fail
    go_ret
    exact ⟨by rw [HA.out]; rfl, BB.out⟩
theorem heads_ats {l : List (Int × List Int)} (h : rowsB l = true) : AtsOk (headsL l) 2147483646 := by
  obtain ⟨⟨h1, h2⟩, _⟩ := rowsB_true.1 h
  have hm : (headsL l).map (·.1) = l.map (·.1) := by simp [headsL]
  refine ⟨fun s hs => ?_, by rw [hm]; exact h2⟩
  obtain ⟨r, hr, rfl⟩ := List.mem_map.1 hs
  have := h1 r hr
  exact ⟨this.1, by have := this.2; dsimp only; omega⟩
theorem heads_next {l : List (Int × List Int)} {k : Nat} {a : Int} {r : List Int} (h : l[k]? = some (a, r)) : headsL (l.take (k + 1)) = headsL (l.take k) ++ [(a, r.headD 0)] := by
  rw [List.take_add_one, h]; simp [headsL]
set_option maxRecDepth 100000 in
theorem pJoin_arg (t : Int) (va : Value) (w : World) (h : ¬ (0 ≤ t ∧ t ≤ 4)) :
    Calls Try.prog 50 #[.int .i64 t, va] w fun e w' => NumRes w e w' 0 1 := by
  have hb := Lib.hid ((Below.refl w.heap.size w).alloc (Nat.le_refl _) (.cells #[.int .i64 t] 3))
  have HB := new_cell w (.int .i64 t) 3
  by_cases h1 : t < 0
  · clear h
    go_enter Try.func50, Try.ntmps50
    go_wp2_with fail
    go_ret2
    exact ⟨rfl, hb.out⟩
  · have hd1 : decide (t < 0) = false := by simpa using h1
    have h2 : t > 4 := by omega
    clear h
    go_enter Try.func50, Try.ntmps50
    go_wp2_with fail
    go_ret2
    exact ⟨rfl, hb.out⟩
set_option maxRecDepth 100000 in
set_option maxHeartbeats 4000000 in
theorem pJoin_ok (t : Int) (va : Value) (l : List (Int × List Int)) (w : World) (h1 : IsRows w va l) (ht : 0 ≤ t ∧ t ≤ 4) (hf : formE l = 0) (hno : l.any (badLen t) = false) (hl : t + 1 ≤ (l.length : Int)) :
    Calls Try.prog 50 #[.int .i64 t, va] w fun e w' => ∃ l' Q, l'.Perm l ∧ l'.Pairwise (fun a b => a.1 < b.1) ∧ Interp (ptsF (headsL l)) Q ∧ (prL l' = [] → NumRes w e w' (ofF (peval Q 0)) 0) ∧ (prL l' ≠ [] → NumRes w e w' 0 6) := by
  suffices hgoal : ∀ Post : Ending → World → Prop, (∀ e w', (∃ l' Q, l'.Perm l ∧ l'.Pairwise (fun a b => a.1 < b.1) ∧ Interp (ptsF (headsL l)) Q ∧ (prL l' = [] → NumRes w e w' (ofF (peval Q 0)) 0) ∧ (prL l' ≠ [] → NumRes w e w' 0 6)) → Post e w') → Calls Try.prog 50 #[.int .i64 t, va] w Post from hgoal _ fun e w' h => h
  intro Post hpo
  have HP := Lib.hid hpo
  clear hpo
  have hrb := formE_zero hf
  have HRB := Lib.hid hrb
  have hl9 := rows_few hrb
  have HF := Lib.hid hf
  have HNO := Lib.hid hno
  have HT := Lib.hid ht
  obtain ⟨ht1, ht4⟩ := ht
  have B0 := (Below.refl w.heap.size w).alloc (Nat.le_refl _) (.cells #[.int .i64 t] 3)
  have KA := Lib.hid (h1.below B0)
  have HB := Lib.hid (new_cell w (.int .i64 t) 3)
  obtain ⟨A1, c1, vs1, rfl, hc1, hm1, hl1, hi1, hr1, ha1⟩ := h1
  have hd1 : decide (t < 0) = false := by simp; omega
  have hd2 : decide (t > 4) = false := by simp; omega
  have hwt : IntKind.i64.wrap (t + 1) = t + 1 := by rw [IntKind.wrap_i64]; omega
  have hd3 : decide ((l.length : Int) < t + 1) = false := by simp; omega
  clear hi1 hr1 hm1 ha1 hf hno hrb
  go_enter Try.func50, Try.ntmps50
  go_upto_region 1 with fail
  obtain ⟨w0, hw0⟩ : ∃ w0, w0 = w.alloc (.cells #[.int .i64 t] 3) := ⟨_, rfl⟩
  have hsw : w0.heap.size = w.heap.size + 1 := by rw [hw0, size_alloc]
  have B0' := Lib.hid (show Below w.heap.size w w0 by rw [hw0]; exact B0)
  rw [← hw0] at KA HB ⊢
  obtain ⟨cb, hcb⟩ : ∃ cb, cb = w.heap.size := ⟨_, rfl⟩
  have HB0 := Lib.hid (show w0.cell? ⟨cb, 0, none⟩ = some (.int .i64 t) by rw [hcb]; exact HB.out)
  have hcl : cb < w0.heap.size := by omega
  rw [← hcb] at HB ⊢
  have hcw : w.heap.size ≤ w0.heap.size := by omega
  clear hw0 B0 hcb hsw HB
  have q0 := HB0.out
  go_wp2_with fail
  refine (pForm_any _ l _ KA.out).mono ?_
  rintro e W1 ⟨rfl, hb1⟩
  rw [HF.out]
  have B1 := Lib.hid hb1
  have hs1 := hb1.size
  clear hb1 q0
  have K1 := Lib.hid (KA.out.below B1.out)
  have HC1 := Lib.hid ((B1.out.cell (p := ⟨cb, 0, none⟩) hcl).trans HB0.out)
  try dsimp only
  go_wp2_with fail
  refine (hasJ_any t cb _ l _ K1.out HC1.out (by omega) HT.out).mono ?_
  rintro e W2 ⟨rfl, hb2⟩
  rw [HNO.out]
  have B2 := Lib.hid (below_trans B1.out hb2 hs1)
  have hs2 := B2.out.size
  clear hb2 B1 K1 HC1 hs1
  have K2 := Lib.hid (KA.out.below B2.out)
  have q2 := (B2.out.cell (p := ⟨cb, 0, none⟩) hcl).trans HB0.out
  try dsimp only
  go_wp2_with fail
  refine (pPairs_ok _ l _ K2.out HF.out (by omega)).mono ?_
  rintro e W3 ⟨l', vp, hpm, hpw, rfl, hop, hb3⟩
  have B3 := Lib.hid (below_trans B2.out hb3 hs2)
  have hs3 := B3.out.size
  have HPM := Lib.hid hpm
  have HPW := Lib.hid hpw
  obtain ⟨Ap, cp, hvp, _, _⟩ := own_form hop.1
  subst hvp
  clear hb3 B2 K2 hs2 q2 hpm hpw
  clear hop
  obtain ⟨np, hnp⟩ : ∃ np, np = (prL l').length := ⟨_, rfl⟩
  rw [← hnp]
  have HNP := Lib.hid hnp
  clear hnp
  obtain ⟨Q0, hq0⟩ := interp_ex (pts_nodup (heads_ats HRB.out))
  have HQ0 := Lib.hid hq0
  clear hq0
  try dsimp only
  by_cases hz : 0 < np
  · have HNE := Lib.hid (show prL l' ≠ [] from fun h => by have := HNP.out; rw [h] at this; simp at this; omega)
    go_wp2_with fail
    exact HP.out _ _ ⟨l', Q0, HPM.out, HPW.out, HQ0.out, fun h => absurd h HNE.out, fun _ => ⟨rfl, below_trans B0'.out B3.out hcw⟩⟩
  · obtain rfl : np = 0 := by omega
    have HPL := Lib.hid (show prL l' = [] from List.length_eq_zero_iff.1 HNP.out.symm)
    go_wp2_with fail
    go_loopw [9, 43] (fun v i wr => ∃ k : Nat, k ≤ l.length ∧ i = .int .i64 k ∧ OwnShares wr W3.heap.size v (headsL (l.take k)) ∧ Below W3.heap.size W3 wr) (fun _ i _ => l.length - (intOf i).toNat)
    case atStart => exact ⟨0, Nat.zero_le _, rfl, OwnShares.nil _ _, Below.refl _ _⟩
    case round =>
      obtain ⟨k, hk, rfl, hown, hbel⟩ := hrel
      have KO := Lib.hid hown
      have BEL := Lib.hid hbel
      have hsz := hbel.size
      clear hown hbel
      by_cases hlt : k < l.length
      · obtain ⟨A, c, vs, hA, _, _, _, hi, hr, ha⟩ := KA.out.below (below_trans B3.out BEL.out hs3)
        injection hA with hA1 hA2 hA3
        subst hA1 hA3
        clear hA2
        obtain ⟨b1, o1, z, x, r, rfl, hb1, hvx, hgk, hz64, hxr, hca, hcb⟩ := row_at hr ha hi hlt
        have hrl : 0 < r.length := by
          have := (rowsB_true.1 HRB.out).2 _ (List.mem_of_getElem? hgk)
          exact this.1
        have HX := Lib.hid hxr
        obtain ⟨Ax, cx, rfl, hcx, hmx, hlx, hux, hrx⟩ := hxr
        have HN := Lib.hid (heads_next hgk)
        have hhl : (headsL (l.take k)).length = k := by simp [headsL]; omega
        have HHL := Lib.hid hhl
        have BX := Lib.hid (Box.new wr 106 [.int .i64 z, .slice Ax r.length cx])
        have HB2 := Lib.hid ((Below.refl wr.heap.size wr).alloc (Nat.le_refl _) (.cells #[.int .i64 z, .slice Ax r.length cx] 106))
        clear hr ha hi hgk hb1 hvx hux hrx hhl
        go_upto_region 17 with fail
        obtain ⟨w2, hw2⟩ : ∃ w2, w2 = wr.alloc (.cells #[.int .i64 z, .slice Ax r.length cx] 106) := ⟨_, rfl⟩
        replace BX := Lib.hid (show Box w2 wr.heap.size 106 [.int .i64 z, .slice Ax r.length cx] by rw [hw2]; exact BX.out)
        have KX2 := Lib.hid (show IsNums w2 (.slice Ax r.length cx) r by rw [hw2]; exact HX.out.below HB2.out)
        have KO2 := Lib.hid (show OwnShares w2 W3.heap.size _ (headsL (l.take k)) by rw [hw2]; exact KO.out.alloc _)
        have B2' := Lib.hid (show Below W3.heap.size W3 w2 by rw [hw2]; exact BEL.out.alloc hsz _)
        rw [← hw2]
        obtain ⟨cb', hcb'⟩ : ∃ c, c = wr.heap.size := ⟨_, rfl⟩
        rw [← hcb'] at BX ⊢
        have hs2 := B2'.out.size
        clear hw2 hcb' hca hcb HB2 KO HX
        have g0 := BX.out.cell (i := 0) rfl
        have g1 := BX.out.cell (i := 1) rfl
        obtain ⟨A, c, hA, _, _, _, hu, hr⟩ := KX2.out
        injection hA with hA1 hA2 hA3
        subst hA1 hA3
        clear hA2
        obtain ⟨b2, o2, y, rfl, hb2, hgy, huy, hcy⟩ := nums_at hr hu hrl
        rw [Nat.add_zero] at hcy
        have hhd : r.headD 0 = y := by
          cases r with
          | nil => cases hgy
          | cons a r => simpa using hgy
        rw [hhd] at HN
        clear hr hu hgy hb2 hhd
        go_wp2_with fail
        refine wp_region_quiet_tail_from 1 7 (by kernel_rfl) (by kernel_rfl) (fun _ _ _ _ _ h => h) ?_
        simp only [List.take_succ_cons, List.take_zero, List.drop_succ_cons, List.drop_zero, putAll, moved]
        simp [Act.put, Act.eval]
        repeat (go_big_quiet_step ((fail)))
        refine wpQuiet_nil ?_
        intro nq
        obtain ⟨wz, hwz⟩ : ∃ wz, wz = w2.drewN nq := ⟨_, rfl⟩
        replace KO2 := Lib.hid (show OwnShares wz W3.heap.size _ (headsL (l.take k)) by rw [hwz]; exact KO2.out.drewN nq)
        replace B2' := Lib.hid (show Below W3.heap.size W3 wz by rw [hwz]; exact below_drewN B2'.out nq)
        replace hs2 : W3.heap.size ≤ wz.heap.size := by rw [hwz]; exact hs2
        rw [← hwz]
        clear hwz g0 g1 hcy BX KX2
        go_wp2_with (at_builtin; go_loud (refine wpList_push_share rfl _ _ rfl W3.heap.size _ _ z y wz.heap.size 1 rfl (KO2.out.alloc _) rfl (pair_cell0 _ _ _ _) (pair_cell1 _ _ _ _) hz64 huy (by rw [HHL.out]; omega) (by rw [size_alloc]; omega) ?_))
        intro v' w5 hown' hbel'
        rw [← HN.out] at hown'
        have K5 := Lib.hid hown'
        have B5 := Lib.hid ((B2'.out.alloc hs2 (.cells #[.int .i64 z, .int .u64 y] 95)).trans hbel')
        clear hown' hbel'
        go_wp2_with fail
        exact ⟨⟨k + 1, by omega, by go_num, K5.out, B5.out⟩, by simp [intOf] <;> omega⟩
      · obtain rfl : k = l.length := by omega
        rw [List.take_length] at KO
        go_wp2_with fail
        refine (pThrough_small _ _ _ KO.out.is (by simp [headsL]; omega)).mono ?_
        rintro e W5 hh
        obtain ⟨Q2, hQ2, vT, rfl, ho, hb⟩ := hh.1 (heads_ats HRB.out)
        have HQ2 := Lib.hid hQ2
        have KQ := Lib.hid ho.is
        obtain ⟨A, c, hv, _, _⟩ := own_form ho.1
        subst hv
        have B5 := Lib.hid (below_trans (below_trans B3.out BEL.out hs3) hb (by omega))
        clear hh hQ2 ho hb
        try dsimp only
        go_wp2_with fail
        refine (pAt_any _ _ _ _ KQ.out (Int.le_refl 0)).mono ?_
        rintro e w' ⟨rfl, nd, rfl⟩
        rw [toFs_ofFs, toF_zero]
        try dsimp only
        go_wp2_with fail
        exact HP.out _ _ ⟨l', Q2, HPM.out, HPW.out, HQ2.out, fun _ => ⟨rfl, below_drewN (below_trans B0'.out B5.out hcw) _⟩, fun h => absurd HPL.out h⟩
end Go.Proofs.Ytegmeepogjijiaa
namespace Go.Proofs.Ytegmeepogjijiaa
open Go.RowKit Go.Maps Croft

structure OnTw (D : List Int) (t : Nat) (l : List (Int × List Int)) : Prop where
  ats : ∀ r ∈ l, 1 ≤ r.1 ∧ r.1 ≤ 9
  one : (l.map (·.1)).Nodup
  on : ∀ r ∈ l, r.2 = rowL (dMat D t) r.1
theorem co_dCs (D : List Int) (t : Nat) (x : Int) {j : Nat} (hj : j < t + 1) : co (toFs (dCs D t x (t + 1))) j = dC D t x j (t + 1) := by
  apply co_get
  unfold dCs toFs
  rw [List.getElem?_map, List.getElem?_map, List.getElem?_range hj]
  simp [toF_ofF]
theorem tw_eval (D : List Int) (t : Nat) (x : Int) (y : F) : peval (toFs (rowL (dMat D t) x)) y = fsum (t + 1) fun j => fsum (t + 1) fun i => toF (D.getD (idx t i j) 0) * toF x ^ i * y ^ j := by
  rw [← dCs_full, peval_sum _ _ (t + 1) (by rw [toFs_length, dCs_length]; exact Nat.le_refl _)]
  apply fsum_congr
  intro j hj
  rw [co_dCs D t x hj, fsum_mul_right]
  rfl
theorem tw_sym (D : List Int) (t : Nat) (x y : Int) : peval (toFs (rowL (dMat D t) x)) (toF y) = peval (toFs (rowL (dMat D t) y)) (toF x) := by
  rw [tw_eval, tw_eval, fsum_swap]
  apply fsum_congr
  intro i _
  apply fsum_congr
  intro j _
  rw [idx_comm]
  grind
def twA (D : List Int) (t : Nat) : List F := (List.range (t + 1)).map fun i => toF (D.getD (idx t i 0) 0)
theorem twA_length (D : List Int) (t : Nat) : (twA D t).length = t + 1 := by simp [twA]
theorem twA_zero (D : List Int) (t : Nat) : peval (twA D t) 0 = toF (D.getD 0 0) := by
  unfold twA
  rw [List.range_succ_eq_map, List.map_cons, peval_cons0]
  simp [idx, off]
theorem tw_head (D : List Int) (t : Nat) (x : Int) : (rowL (dMat D t) x).headD 0 = ofF (peval (twA D t) (toF x)) := by
  rw [← dCs_full]
  have : (dCs D t x (t + 1)).headD 0 = ofF (dC D t x 0 (t + 1)) := by
    unfold dCs
    rw [List.range_succ_eq_map]; rfl
  rw [this, peval_sum _ _ (t + 1) (by rw [twA_length]; exact Nat.le_refl _)]
  unfold dC
  congr 1
  apply fsum_congr
  intro i hi
  congr 1
  symm
  apply co_get
  unfold twA
  rw [List.getElem?_map, List.getElem?_range hi]
  rfl
theorem OnTw.rows {D : List Int} {t : Nat} {l : List (Int × List Int)} (h : OnTw D t l) (ht : t ≤ 4) : rowsB l = true := by
  refine rowsB_true.2 ⟨⟨h.ats, h.one⟩, fun r hr => ?_⟩
  rw [h.on r hr, rowL_length]
  have : (dMat D t).length = t + 1 := by simp [dMat, mat_length]
  omega
theorem OnTw.lens {D : List Int} {t : Nat} {l : List (Int × List Int)} (h : OnTw D t l) : l.any (badLen t) = false := by
  rw [List.any_eq_false]
  intro r hr
  unfold badLen
  have : (rowL (dMat D t) r.1).length = t + 1 := by rw [rowL_length]; simp [dMat, mat_length]
  rw [h.on r hr, this]
  simp
theorem OnTw.fits {D : List Int} {t : Nat} {l : List (Int × List Int)} (h : OnTw D t l) : ∀ a ∈ l, ∀ b ∈ l, fitB a b = true := by
  intro a ha b hb
  unfold fitB
  rw [h.on a ha, h.on b hb]
  exact decide_eq_true (tw_sym _ _ _ _)
theorem OnTw.interp {D : List Int} {t : Nat} {l : List (Int × List Int)} (h : OnTw D t l) (hl : t + 1 ≤ l.length) : Interp (ptsF (headsL l)) (pnorm (twA D t)) := by
  have hp := pnorm_length (twA D t)
  rw [twA_length] at hp
  refine ⟨pnorm_norm _, by simp only [ptsF, headsL, List.length_map]; omega, fun q hq => ?_⟩
  unfold ptsF headsL at hq
  rw [List.map_map] at hq
  obtain ⟨r, hr, rfl⟩ := List.mem_map.1 hq
  show peval (pnorm (twA D t)) (toF r.1) = toF (r.2.headD 0)
  rw [pnorm_eval, h.on r hr, tw_head, toF_ofF]
theorem OnTw.perm {D : List Int} {t : Nat} {l l' : List (Int × List Int)} (h : OnTw D t l) (hp : l'.Perm l) : OnTw D t l' :=
  ⟨fun r hr => h.ats r (hp.mem_iff.1 hr), (hp.map (·.1)).nodup_iff.2 h.one, fun r hr => h.on r (hp.mem_iff.1 hr)⟩
theorem prL_nil {l : List (Int × List Int)} (h : ∀ a ∈ l, ∀ b ∈ l, fitB a b = true) : prL l = [] := by
  have H : ∀ k, prK l k = [] := by
    intro k
    induction k with
    | zero => rfl
    | succ k ih =>
      cases hk : l[k]? with
      | none => simp only [prK, hk, ih]
      | some a =>
        rw [prK_next hk, ih, List.nil_append]
        unfold prRow
        rw [List.map_eq_nil_iff, List.filter_eq_nil_iff]
        intro b hb
        rw [h a (List.mem_of_getElem? hk) b (List.mem_of_mem_drop hb)]
        simp
  exact H _
theorem dRows_on (D : List Int) (t n : Nat) (hn : n ≤ 9) : OnTw D t (dRows D t n) := by
  refine ⟨fun r hr => ?_, ?_, fun r hr => ?_⟩
  · obtain ⟨i, hi, rfl⟩ := List.mem_map.1 hr
    rw [List.mem_range] at hi
    show 1 ≤ (i : Int) + 1 ∧ (i : Int) + 1 ≤ 9
    omega
  · unfold dRows
    rw [List.map_map, List.nodup_iff_pairwise_ne, List.pairwise_map]
    exact (List.nodup_iff_pairwise_ne.1 List.nodup_range).imp (fun h => by simp only [Function.comp]; omega)
  · obtain ⟨i, hi, rfl⟩ := List.mem_map.1 hr
    rfl
theorem pJoin_tw (D : List Int) (t : Nat) (va : Value) (l : List (Int × List Int)) (w : World) (h1 : IsRows w va l) (ht : t ≤ 4) (ho : OnTw D t l) (hl : t + 1 ≤ l.length) :
    Calls Try.prog 50 #[.int .i64 (t : Int), va] w fun e w' => NumRes w e w' (ofF (toF (D.getD 0 0))) 0 := by
  refine (pJoin_ok t va l w h1 (by omega) (if_pos (ho.rows ht)) ho.lens (by omega)).mono ?_
  rintro e w' ⟨l', Q, hpm, _, hQ, h, _⟩
  have hi := ho.interp hl
  obtain rfl := hi.unique (pts_nodup (heads_ats (ho.rows ht))) hQ
  have := h (prL_nil (ho.perm hpm).fits)
  rwa [pnorm_eval, twA_zero] at this
theorem pPairs_tw (D : List Int) (t : Nat) (va : Value) (l : List (Int × List Int)) (w : World) (h1 : IsRows w va l) (ht : t ≤ 4) (ho : OnTw D t l) (hl : t + 1 ≤ l.length) :
    Calls Try.prog 49 #[va] w fun e w' => ∃ vp, e = .returned (.tuple #[vp, .int .i64 0]) ∧ OwnPairs w' w.heap.size vp [] ∧ Below w.heap.size w w' := by
  refine (pPairs_ok va l w h1 (if_pos (ho.rows ht)) (by omega)).mono ?_
  rintro e w' ⟨l', vp, hpm, _, h1, h2, h3⟩
  rw [prL_nil (ho.perm hpm).fits] at h2
  exact ⟨vp, h1, h2, h3⟩
theorem rc3_snoc (T : List R3) (p : R3) : rc3 (T ++ [p]) = rc3 T ++ [.int .i64 p.1, p.2.1] := by simp [rc3]
theorem wpList_push_brow {ops : Array Oper} {rest : List Oper} {o : Oper} {a : Act} {Q : Exit → Act → World → Prop} {w : World} (hgd : o.guard = none) (s x : Operand)
    (ho : o.op = .call { callee := .builtin .append, args := #[s, x], argTypes := #[83, 83] })
    (base : Nat) (v : Value) (T : List R3) (k : Nat) (p : R3) (g c : Nat) (hs : a.eval s = v) (hown : w.ownsRow base 106 2 v k (rc3 T)) (hx : a.eval x = .slice (some ⟨g, 0, none⟩) 1 c)
    (hc : w.cell? ⟨g, 0, none⟩ = some (.int .i64 p.1)) (hc2 : w.cell? ⟨g, 1, none⟩ = some p.2.1) (hp : p.2.1.oneCell' = true) (hl : k + 1 ≤ 1000) (hb : base ≤ w.heap.size)
    (h : ∀ v' w', w'.ownsRow base 106 2 v' (k + 1) (rc3 (T ++ [p])) → Below base w w' → wpList Try.prog ops Q rest (a.put o.dst v') w') : wpList Try.prog ops Q (o :: rest) a w := by
  obtain ⟨i0, hi, hz0, hz1, hz2⟩ := info_parts rinfo
  refine wpList_append_own w hgd s x 83 ho base 106 i0 (.agg #[.int .i64 0, .slice none 0 0]) 2 32 Try.underlying83 hi hz0 hz1 hz2 rfl (by decide) v k (rc3 T) hs hown ⟨g, 0, none⟩ 1 c [.int .i64 p.1, p.2.1] hx rfl ?_ ?_ ?_ ?_ hb ?_
  · intro j u hu
    match j, hu with
    | 0, hu =>
      simp at hu
      subst hu
      rw [add_addr]; exact hc
    | 1, hu =>
      simp at hu
      subst hu
      rw [add_addr]; exact hc2
  · intro u hu
    simp at hu
    rcases hu with rfl | rfl
    · rfl
    · exact hp
  · unfold maxLen; omega
  · omega
  · intro v' w' h1 h2 _
    exact h v' w' (by rw [rc3_snoc]; exact h1) ((Below.refl _ _).grown h2 hb (fun k hk => (hown.lt k hk).1))
theorem bor_is {w : World} {base : Nat} {v : Value} {T : List R3} {l : List (Int × List Int)} (h : w.ownsRow base 106 2 v l.length (rc3 T)) (h3 : Rows3 w T) (hd : dat3 T = l) (h64 : ∀ s ∈ l, I64 s.1) (hl : l.length ≤ 1000) : IsRows w v l := by
  obtain ⟨A, cap, rfl, h4, h5⟩ := own_form h
  subst hd
  refine ⟨A, cap, T.map (·.2.1), rfl, h4, h5, by omega, h64, ?_, by simp [dat3], fun i x r hx hr => ?_⟩
  · have := Cells.of_own h
    rw [rc3_rcs] at this
    rwa [show (dat3 T).map (·.1) = T.map (·.1) by simp [dat3]]
  · rw [List.getElem?_map] at hx
    cases ht : T[i]? with
    | none => rw [ht] at hx; simp at hx
    | some p =>
      rw [ht] at hx
      obtain rfl := Option.some.inj hx
      unfold dat3 at hr
      rw [List.getElem?_map, List.getElem?_map, ht] at hr
      obtain rfl := Option.some.inj hr
      exact h3 p (List.mem_of_getElem? ht)
end Go.Proofs.Ytegmeepogjijiaa
namespace Go.Proofs.Ytegmeepogjijiaa
open Go.RowKit Go.Maps Croft

theorem tw_small : dRows [5, 2, 3] 1 3 = [(1, [7, 5]), (2, [9, 8]), (3, [11, 11])] := by decide +kernel
theorem tw_five : ofF (toF (([5, 2, 3] : List Int).getD 0 0)) = 5 := by decide +kernel
/-- who is picked -/
theorem picked_ats {N : Nat} {P L : List (Int × Int)} (h : (P ++ L).Perm (shL (List.replicate N 0))) (hN : N ≤ 9) : (∀ s ∈ P, ∃ i : Nat, i < N ∧ s.1 = (i : Int) + 1) ∧ (P.map (·.1)).Nodup := by
  have h1 := (h.map (·.1)).nodup_iff
  rw [shL_ats, List.map_append, List.length_replicate] at h1
  have h2 : (atsN N).Nodup := by
    have h3 := atsN_party hN
    unfold partyB at h3
    exact (of_decide_eq_true h3).2
  refine ⟨fun s hs => ?_, (List.nodup_append.1 (h1.2 h2)).1⟩
  have hm : s.1 ∈ (shL (List.replicate N 0)).map (·.1) := List.mem_map.2 ⟨s, h.mem_iff.1 (List.mem_append.2 (.inl hs)), rfl⟩
  rw [shL_ats, List.length_replicate] at hm
  unfold atsN at hm
  obtain ⟨i, hi, he⟩ := List.mem_map.1 hm
  exact ⟨i, List.mem_range.1 hi, he.symm⟩
def rowsOf (D : List Int) (t : Nat) (P : List (Int × Int)) : List (Int × List Int) := P.map fun s => (s.1, rowL (dMat D t) s.1)
theorem rowsOf_on {D : List Int} {t N : Nat} {P : List (Int × Int)} (h1 : ∀ s ∈ P, ∃ i : Nat, i < N ∧ s.1 = (i : Int) + 1) (h2 : (P.map (·.1)).Nodup) (hN : N ≤ 9) : OnTw D t (rowsOf D t P) := by
  refine ⟨fun r hr => ?_, ?_, fun r hr => ?_⟩
  · obtain ⟨s, hs, rfl⟩ := List.mem_map.1 hr
    obtain ⟨i, hi, he⟩ := h1 s hs
    show 1 ≤ s.1 ∧ s.1 ≤ 9
    omega
  · unfold rowsOf
    rw [List.map_map]
    exact h2
  · obtain ⟨s, hs, rfl⟩ := List.mem_map.1 hr
    rfl
theorem rowsOf_next {D : List Int} {t : Nat} {P : List (Int × Int)} {k : Nat} {a y : Int} (h : P[k]? = some (a, y)) : rowsOf D t (P.take (k + 1)) = rowsOf D t (P.take k) ++ [(a, rowL (dMat D t) a)] := by
  rw [List.take_add_one, h]; simp [rowsOf]
theorem dRows_get (D : List Int) (t n i : Nat) (hi : i < n) : (dRows D t n)[i]? = some ((i : Int) + 1, rowL (dMat D t) ((i : Int) + 1)) := by
  unfold dRows
  rw [List.getElem?_map, List.getElem?_range hi]
  rfl
end Go.Proofs.Ytegmeepogjijiaa
namespace Go.Proofs.Ytegmeepogjijiaa
open Go.RowKit Go.Maps Croft

theorem peval_bump (b y : F) : ∀ (p : List F) (c : Nat) (z : F), p[c]? = some z → peval (p.set c (z + b)) y = peval p y + b * y ^ c := by
  intro p
  induction p with
  | nil => intro c z h; simp at h
  | cons a p ih =>
    intro c z h
    cases c with
    | zero =>
      obtain rfl : a = z := by simpa using h
      simp only [List.set_cons_zero, peval]
      grind
    | succ c =>
      have h2 := ih c z (by simpa using h)
      simp only [List.set_cons_succ, peval]
      rw [h2]
      grind
structure BntL (D : List Int) (t : Nat) (a0 : Int) (b : F) (c : Nat) (l : List (Int × List Int)) : Prop where
  ats : ∀ r ∈ l, 1 ≤ r.1 ∧ r.1 ≤ 9
  one : (l.map (·.1)).Nodup
  on : ∀ r ∈ l, r.1 ≠ a0 → r.2 = rowL (dMat D t) r.1
  off : ∀ r ∈ l, r.1 = a0 → ∀ y, peval (toFs r.2) y = peval (toFs (rowL (dMat D t) a0)) y + b * y ^ c
  len : ∀ r ∈ l, r.2.length = t + 1
  ne : b ≠ 0
variable {D : List Int} {t : Nat} {a0 : Int} {b : F} {c : Nat} {l : List (Int × List Int)}
theorem BntL.perm {l' : List (Int × List Int)} (h : BntL D t a0 b c l) (hp : l'.Perm l) : BntL D t a0 b c l' :=
  ⟨fun r hr => h.ats r (hp.mem_iff.1 hr), (hp.map (·.1)).nodup_iff.2 h.one, fun r hr => h.on r (hp.mem_iff.1 hr), fun r hr => h.off r (hp.mem_iff.1 hr), fun r hr => h.len r (hp.mem_iff.1 hr), h.ne⟩
theorem BntL.fit (h : BntL D t a0 b c l) {r s : Int × List Int} (hr : r ∈ l) (hs : s ∈ l) (h1 : r.1 ≠ a0) (h2 : s.1 ≠ a0) : fitB r s = true := by
  unfold fitB
  rw [h.on r hr h1, h.on s hs h2]
  exact decide_eq_true (tw_sym _ _ _ _)
theorem BntL.bad (h : BntL D t a0 b c l) {r s : Int × List Int} (hr : r ∈ l) (hs : s ∈ l) (h1 : r.1 = a0) (h2 : s.1 ≠ a0) : fitB r s = false ∧ fitB s r = false := by
  have h0 : toF s.1 ^ c ≠ 0 := by
    apply pow_ne
    intro e
    have := h.ats s hs
    have e2 := toF_eq_iff.1 (e.trans toF_zero.symm)
    rw [← P_int, Int.emod_eq_of_lt (by omega) (by omega)] at e2
    simp at e2
    omega
  have hb := h.ne
  have key : b * toF s.1 ^ c ≠ 0 := fun e => by
    rcases F_mul_zero e with h3 | h3
    · exact hb h3
    · exact h0 h3
  unfold fitB
  rw [h.off r hr h1, h.on s hs h2, ← h1, tw_sym]
  refine ⟨decide_eq_false fun e => key ?_, decide_eq_false fun e => key ?_⟩
  · grind
  · grind
theorem BntL.rows (h : BntL D t a0 b c l) (ht : t ≤ 4) : rowsB l = true :=
  rowsB_true.2 ⟨⟨h.ats, h.one⟩, fun r hr => by rw [h.len r hr]; omega⟩
theorem BntL.lens (h : BntL D t a0 b c l) : l.any (badLen t) = false := by
  rw [List.any_eq_false]
  intro r hr
  unfold badLen
  rw [h.len r hr]
  simp
theorem prK_cons (a : Int × List Int) (L : List (Int × List Int)) : ∀ k, prK (a :: L) (k + 1) = prRow a L ++ prK L k := by
  intro k
  induction k with
  | zero => simp [prK]
  | succ k ih =>
    cases hk : L[k]? with
    | none =>
      have : (a :: L)[k + 1]? = none := by simpa using hk
      rw [show prK (a :: L) (k + 1 + 1) = prK (a :: L) (k + 1) by simp only [prK, this], ih, show prK L (k + 1) = prK L k by simp only [prK, hk]]
    | some s =>
      rw [prK_next (l := a :: L) (k := k + 1) (a := s) (by simpa using hk), ih, prK_next hk, List.append_assoc]
      simp
theorem prL_cons (a : Int × List Int) (L : List (Int × List Int)) : prL (a :: L) = prRow a L ++ prL L := prK_cons a L L.length
theorem prL_mem : ∀ (l : List (Int × List Int)) (x : Int × Int), x ∈ prL l → ∃ r s, r ∈ l ∧ s ∈ l ∧ fitB r s = false ∧ x = (r.1, s.1) := by
  intro l
  induction l with
  | nil => intro x hx; simp [prL, prK] at hx
  | cons a L ih =>
    intro x hx
    rw [prL_cons] at hx
    rcases List.mem_append.1 hx with h | h
    · unfold prRow at h
      obtain ⟨s, hs, rfl⟩ := List.mem_map.1 h
      obtain ⟨h1, h2⟩ := List.mem_filter.1 hs
      exact ⟨a, s, by simp, by simp [h1], by simpa using h2, rfl⟩
    · obtain ⟨r, s, h1, h2, h3⟩ := ih x h
      exact ⟨r, s, by simp [h1], by simp [h2], h3⟩
theorem BntL.pairs (h : BntL D t a0 b c l) {x : Int × Int} (hx : x ∈ prL l) : x.1 = a0 ∨ x.2 = a0 := by
  obtain ⟨r, s, hr, hs, hf, rfl⟩ := prL_mem l x hx
  by_cases h1 : r.1 = a0
  · exact .inl h1
  · by_cases h2 : s.1 = a0
    · exact .inr h2
    · rw [h.fit hr hs h1 h2] at hf; cases hf
theorem BntL.tail {a : Int × List Int} {L : List (Int × List Int)} (h : BntL D t a0 b c (a :: L)) : BntL D t a0 b c L := by
  have h1 := h.one
  rw [List.map_cons, List.nodup_cons] at h1
  exact ⟨fun r hr => h.ats r (by simp [hr]), h1.2, fun r hr => h.on r (by simp [hr]), fun r hr => h.off r (by simp [hr]), fun r hr => h.len r (by simp [hr]), h.ne⟩
theorem BntL.many : ∀ l : List (Int × List Int), BntL D t a0 b c l → (∃ r ∈ l, r.1 = a0) → l.length ≤ (prL l).length + 1 := by
  intro l
  induction l with
  | nil => intro _ _; simp
  | cons a L ih =>
    intro h he
    have h1 := h.one
    rw [List.map_cons, List.nodup_cons] at h1
    rw [prL_cons, List.length_append, List.length_cons]
    by_cases ha : a.1 = a0
    · have hall : L.filter (fun s => !fitB a s) = L := by
        rw [List.filter_eq_self]
        intro s hs
        have hne : s.1 ≠ a0 := fun e => h1.1 (List.mem_map.2 ⟨s, hs, by rw [e, ha]⟩)
        rw [(h.bad (by simp) (by simp [hs]) ha hne).1]
        rfl
      unfold prRow
      rw [hall, List.length_map]
      omega
    · obtain ⟨r, hr, hra⟩ := he
      have hrL : r ∈ L := by
        rcases List.mem_cons.1 hr with rfl | h'
        · exact absurd hra ha
        · exact h'
      have h2 := ih h.tail ⟨r, hrL, hra⟩
      have h3 : 0 < (prRow a L).length := by
        unfold prRow
        rw [List.length_map]
        apply List.length_pos_of_mem (a := r)
        rw [List.mem_filter]
        refine ⟨hrL, ?_⟩
        rw [(h.bad hr (by simp) hra ha).2]
        rfl
      omega
theorem cell_grown (w : World) (b j : Nat) (v : Value) : w.grownBy (w.setCell ⟨b, j, none⟩ v) (some b) :=
  ⟨rfl, rfl, rfl, by simp [World.setCell], fun k hk hne => by
    have : b ≠ k := fun e => hne (by rw [e])
    simp [World.setCell, Array.getElem?_modify, this]⟩
theorem OwnRows.setN {w : World} {base : Nat} {v : Value} {vs : List Value} {l : List (Int × List Int)} (h : OwnRows w base v vs l) {k g c n : Nat} {a : Int} {r : List Int} (hv : vs[k]? = some (.slice (some ⟨g, 0, none⟩) n c)) (hl : l[k]? = some (a, r)) (j : Nat) {x : Int} (hx : U64 x) :
    OwnRows (w.setCell ⟨g, j, none⟩ (.int .u64 x)) base v vs (l.set k (a, r.set j x)) := by
  have hr := h.row k _ _ hv hl
  have hg := cell_grown w g j (.int .u64 x)
  have hm : (l.set k (a, r.set j x)).map (·.1) = l.map (·.1) := by
    apply List.ext_getElem?
    intro i
    rw [List.getElem?_map, List.getElem?_map]
    by_cases hik : i = k
    · subst hik
      rw [List.getElem?_set_self (List.getElem?_eq_some_iff.1 hl).1, hl]; rfl
    · rw [List.getElem?_set_ne (Ne.symm hik)]
  refine ⟨?_, by rw [List.length_set]; exact h.len, by rw [List.length_set]; exact h.vlen, fun s hs => ?_, fun i y s hy hs => ?_, h.apart⟩
  · rw [List.length_set, hm]
    exact h.outer.kept hg (by
      cases hb : v.ownBlock with
      | none => exact .inl rfl
      | some b => exact .inr fun hvb => kinds_apart h.outer hr.1 (by decide) hb (by rw [hvb]; rfl))
  · rcases List.mem_or_eq_of_mem_set hs with h' | h'
    · exact h.i64 s h'
    · subst h'; exact h.i64 (a, r) (List.mem_of_getElem? hl)
  · by_cases hik : i = k
    · subst hik
      rw [hv] at hy
      obtain rfl := Option.some.inj hy
      rw [List.getElem?_set_self (List.getElem?_eq_some_iff.1 hl).1] at hs
      obtain rfl := Option.some.inj hs
      exact hr.set_ j hx
    · rw [List.getElem?_set_ne (Ne.symm hik)] at hs
      refine (h.row i y s hy hs).kept hg ?_
      cases hb : y.ownBlock with
      | none => exact .inl rfl
      | some b => exact .inr fun hvb => hik (h.apart i k y _ b hy hv hb (by rw [hvb]; rfl))
theorem bent_rows {D : List Int} {t n k c : Nat} (hn : n ≤ 9) (hk : k < n) {z : Int} {b : F} (hb : b ≠ 0) (hz : (rowL (dMat D t) ((k : Int) + 1))[c]? = some z) :
    BntL D t ((k : Int) + 1) b c ((dRows D t n).set k ((k : Int) + 1, (rowL (dMat D t) ((k : Int) + 1)).set c (ofF (toF z + b)))) := by
  have ho := dRows_on D t n hn
  have hg := dRows_get D t n k hk
  have hlr : ∀ x, (rowL (dMat D t) x).length = t + 1 := fun x => by rw [rowL_length]; simp [dMat, mat_length]
  have hm : ((dRows D t n).set k ((k : Int) + 1, (rowL (dMat D t) ((k : Int) + 1)).set c (ofF (toF z + b)))).map (·.1) = (dRows D t n).map (·.1) := by
    apply List.ext_getElem?
    intro i
    rw [List.getElem?_map, List.getElem?_map]
    by_cases hik : i = k
    · subst hik
      rw [List.getElem?_set_self (List.getElem?_eq_some_iff.1 hg).1, hg]; rfl
    · rw [List.getElem?_set_ne (Ne.symm hik)]
  refine ⟨fun r hr => ?_, by rw [hm]; exact ho.one, fun r hr hne => ?_, fun r hr he y => ?_, fun r hr => ?_, hb⟩
  · rcases List.mem_or_eq_of_mem_set hr with h | rfl
    · exact ho.ats r h
    · have := ho.ats _ (List.mem_of_getElem? hg)
      exact this
  · rcases List.mem_or_eq_of_mem_set hr with h | rfl
    · exact ho.on r h
    · exact absurd rfl hne
  · obtain ⟨i, hi, hri⟩ := List.mem_iff_getElem.1 hr
    have hgi := List.getElem?_eq_getElem hi
    rw [hri] at hgi
    by_cases hik : i = k
    · subst hik
      rw [List.getElem?_set_self (List.getElem?_eq_some_iff.1 hg).1] at hgi
      obtain rfl := Option.some.inj hgi
      have hz2 : (toFs (rowL (dMat D t) ((i : Int) + 1)))[c]? = some (toF z) := toFs_get hz
      rw [show toFs ((rowL (dMat D t) ((i : Int) + 1)).set c (ofF (toF z + b))) = (toFs (rowL (dMat D t) ((i : Int) + 1))).set c (toF z + b) by unfold toFs; rw [List.map_set, toF_ofF]]
      exact peval_bump b y _ c _ hz2
    · rw [List.getElem?_set_ne (Ne.symm hik)] at hgi
      have hil : i < n := by have := (List.getElem?_eq_some_iff.1 hgi).1; rwa [dRows_length] at this
      rw [dRows_get D t n i hil] at hgi
      obtain rfl := Option.some.inj hgi
      exact absurd he (by simp only; omega)
  · rcases List.mem_or_eq_of_mem_set hr with h | rfl
    · rw [ho.on r h, hlr]
    · rw [List.length_set, hlr]
end Go.Proofs.Ytegmeepogjijiaa
