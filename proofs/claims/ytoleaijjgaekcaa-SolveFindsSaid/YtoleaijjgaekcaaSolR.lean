/- Package solve's reduction: what it returns. -/
import Derived.Test.YtoleaijjgaekcaaSolG
import Derived.Test.YtoleaijjgaekcaaSolC
import Derived.Test.YtoleaijjgaekcaaMulP
namespace Go.Proofs.Ytoleaijjgaekcaa
open Go.RowKit Croft

def nats (ls : List Nat) : List Int := ls.map fun (n : Nat) => (n : Int)
theorem nats_length (ls : List Nat) : (nats ls).length = ls.length := by simp [nats]
/-- the first n rows are of numbers below the prime -/
def NormRows (rows : List (List Int)) (n : Nat) : Prop := ∀ q, q < n → ∃ l, rows[q]? = some (ofFs l)
theorem clrL_ofFs (r b : List Int) (t : Int) : clrL r b t = ofFs (List.zipWith (fun u v => toF u - toF t * toF v) r b) := by
  unfold clrL ofFs
  rw [List.map_zipWith]
theorem sclL_ofFs (r : List Int) (x : F) : sclL r x = ofFs (r.map fun u => toF u * x) := by simp [sclL, ofFs]
theorem NormRows.set {rows : List (List Int)} {n i : Nat} {l : List F} (h : NormRows rows n) : NormRows (rows.set i (ofFs l)) n := fun q hq => by
  obtain ⟨l2, h2⟩ := h q hq
  by_cases hqi : q = i
  · subst hqi; exact ⟨l, List.getElem?_set_self (List.getElem?_eq_some_iff.1 h2).1⟩
  · exact ⟨l2, by rw [List.getElem?_set_ne (Ne.symm hqi)]; exact h2⟩
theorem NormRows.far {rows : List (List Int)} {n i : Nat} {r : List Int} (h : NormRows rows n) (hi : n ≤ i) : NormRows (rows.set i r) n := fun q hq => by
  obtain ⟨l2, h2⟩ := h q hq
  exact ⟨l2, by rw [List.getElem?_set_ne (by omega)]; exact h2⟩
def RedRes (w : World) (e : Ending) (w' : World) (rows0 : List (List Int)) (v m : Nat) : Prop :=
  ∃ vm vl vs rows ls, e = .returned (.tuple #[vm, vl]) ∧ Grid w' w.heap.size vm vs rows ∧ OwnInts w' w.heap.size vl (nats ls) ∧ rows.length = m ∧ (∀ r ∈ rows, r.length = v + 1) ∧ Red (mx rows0) (mx rows) m (v + 1) v ls ∧ NormRows rows ls.length ∧ Below w.heap.size w w'
set_option maxRecDepth 100000 in
set_option maxHeartbeats 4000000 in
theorem reduced_ok (va : Value) (rows0 : List (List Int)) (v m : Nat) (w : World) (h1 : IsNumss w va rows0) (hm : rows0.length = m) (hm20 : m ≤ 20) (hv1 : 1 ≤ v) (hv20 : v ≤ 20) (hlen : ∀ r ∈ rows0, r.length = v + 1) :
    Calls Try.prog 77 #[va, .int .i64 v] w fun e w' => RedRes w e w' rows0 v m := by
  have KA := Lib.hid h1
  have HM := Lib.hid hm
  have HLEN := Lib.hid hlen
  suffices hgoal : ∀ Post : Ending → World → Prop, (∀ e w', RedRes w e w' rows0 v m → Post e w') → Calls Try.prog 77 #[va, .int .i64 v] w Post from hgoal _ fun e w' h => h
  intro Post hpo
  have HPO := Lib.hid hpo
  obtain ⟨A1, c1, vs0, rfl, hc1, hm1, hl1, hr1, ha1⟩ := h1
  rw [hm] at KA hc1 hl1 ⊢
  clear hr1 ha1 hm1 hpo hlen hm
  go_enter Try.func77, Try.ntmps77
  go_wp2_with fail
  go_loopw [6, 19] (fun u i wr => ∃ (k : Nat) (vs : List Value), k ≤ m ∧ i = .int .i64 k ∧ Grid wr w.heap.size u vs (rows0.take k) ∧ Below w.heap.size w wr) (fun _ i _ => m - (intOf i).toNat)
  case atStart => exact ⟨0, [], Nat.zero_le _, rfl, Grid.nil _ _, Below.refl _ _⟩
  case round =>
    obtain ⟨k, vs, hk, rfl, hgr, hbel⟩ := hrel
    have KG := Lib.hid hgr
    have BEL := Lib.hid hbel
    have hsz := hbel.size
    clear hgr hbel
    by_cases hlt : k < m
    · obtain ⟨A, c, vs1, hA, _, _, _, hr, ha⟩ := KA.out.below BEL.out
      rw [HM.out] at hA
      injection hA with hA1 hA2 hA3
      subst hA1 hA3
      clear hA2
      obtain ⟨b1, o1, x, r, rfl, hb1, hx, hgk, hn, hc⟩ := numss_at hr ha (k := k) (by rw [HM.out]; exact hlt)
      have HR := Lib.hid hn
      have HRL := Lib.hid (HLEN.out r (List.mem_of_getElem? hgk))
      have HT := Lib.hid (show rows0.take (k + 1) = rows0.take k ++ [r] by rw [List.take_add_one, hgk]; rfl)
      have HTL := Lib.hid (show (rows0.take k).length ≤ 20 by rw [List.length_take]; omega)
      clear hr ha hb1 hx hgk hn
      go_wp2_with fail
      refine (nClone_any _ r _ HR.out (by rw [HRL.out]; omega)).mono ?_
      rintro e W5 ⟨y, rfl, ho, hb⟩
      obtain ⟨gy, cy, hvy, _, _⟩ := ho.1.form (by rw [HRL.out]; omega)
      subst hvy
      have KY := Lib.hid (ho.less hsz)
      have HFAR := Lib.hid (show ∀ (q : Nat) (z : Value) (b : Nat), vs[q]? = some z → z.ownBlock = some b → (Value.slice (some ⟨gy, 0, none⟩) r.length cy).ownBlock ≠ some b from fun q z b hz hzb hyb => by
        have h1 := (ho.1.lt b hyb).1
        have hq := (List.getElem?_eq_some_iff.1 hz).1
        rw [KG.out.vlen] at hq
        have h2 := ((KG.out.row q z _ hz (List.getElem?_eq_getElem hq)).1.lt b hzb).2
        omega)
      have KG5 := Lib.hid (KG.out.below hb)
      have B5 := Lib.hid (below_trans BEL.out hb hsz)
      have hsz5 := B5.out.size
      clear ho hb hc
      try dsimp only
      go_wp2_with (at_builtin; go_loud (refine wpList_push_row rfl _ _ rfl w.heap.size _ vs (rows0.take k) (.slice (some ⟨gy, 0, none⟩) r.length cy) r W5.heap.size 1 rfl (KG5.out.alloc _) rfl (new_cell _ _ _) (KY.out.alloc _) HFAR.out (by have := HTL.out; omega) (by rw [size_alloc]; omega) ?_))
      intro v' w6 hown' hbel'
      rw [← HT.out] at hown'
      have K6 := Lib.hid hown'
      have B6 := Lib.hid ((B5.out.alloc hsz5 (.cells #[.slice (some ⟨gy, 0, none⟩) r.length cy] 23)).trans hbel')
      clear hown' hbel'
      go_wp2_with fail
      exact ⟨⟨k + 1, _, by omega, by go_num, K6.out, B6.out⟩, by simp [intOf] <;> omega⟩
    · obtain rfl : m = k := by omega
      have HTE := Lib.hid (show rows0.take m = rows0 from List.take_of_length_le (by rw [HM.out]; exact Nat.le_refl _))
      rw [HTE.out] at KG
      obtain ⟨Am, cm, hvm, hcm, _⟩ := own_form KG.out.outer
      rw [HM.out] at hvm hcm
      subst hvm
      go_wp2_with fail
      go_loopw [9, 10] (fun u i wq => ∃ (col : Nat) (vs : List Value) (rows : List (List Int)) (ls : List Nat), col ≤ v ∧ i = .int .i64 col ∧ Grid wq w.heap.size (.slice Am m cm) vs rows ∧ rows.length = m ∧ (∀ r ∈ rows, r.length = v + 1) ∧ OwnInts wq w.heap.size u (nats ls) ∧ Red (mx rows0) (mx rows) m (v + 1) col ls ∧ NormRows rows ls.length ∧ Below w.heap.size w wq) (fun _ i _ => v - (intOf i).toNat)
      case atStart => exact ⟨0, vs, rows0, [], Nat.zero_le _, rfl, KG.out, HM.out, HLEN.out, OwnInts.nil _ _, Red.start _ _ _, (fun q hq => by simp at hq), BEL.out⟩
      case round =>
        obtain ⟨col, vs, rows, ls, hcol, rfl, hgr, hrm, hrl, hls, hred, hnr, hbel⟩ := hrel
        have HNR := Lib.hid hnr
        clear hnr
        clear KG BEL hsz
        have KG := Lib.hid hgr
        have HRM := Lib.hid hrm
        have HRL := Lib.hid hrl
        have KL := Lib.hid hls
        have RED := Lib.hid hred
        have BEL := Lib.hid hbel
        have hsz := hbel.size
        obtain ⟨Al, cl, hvl, _, _⟩ := own_form hls.1
        rw [nats_length] at hvl
        subst hvl
        have hlm := hred.len
        clear hgr hrm hrl hls hred hbel
        by_cases hlt : col < v
        · have hdc : decide ((col : Int) < (v : Int)) = true := by simp; omega
          have hdc2 : decide (col < v) = true := by simp; omega
          by_cases hfull : ls.length = m
          · have hdf : decide ((ls.length : Int) < (m : Int)) = false := by simp; omega
            have hdf2 : decide (ls.length < m) = false := by simp; omega
            have HF := Lib.hid hfull
            clear hfull
            go_wp2_with fail
            exact HPO.out _ _ ⟨_, _, vs, rows, ls, rfl, KG.out, KL.out, HRM.out, HRL.out, RED.out.full HF.out v hcol, HNR.out, BEL.out⟩
          · have hdf : decide ((ls.length : Int) < (m : Int)) = true := by simp; omega
            have hdf2 : decide (ls.length < m) = true := by simp; omega
            obtain ⟨g, cg, hvg, hg1, hg2⟩ := KG.out.outer.form (by rw [HRM.out]; omega)
            injection hvg with hvg1 hvg2 hvg3
            subst hvg1
            clear hvg2 hvg3
            clear hfull
            go_wp2_with fail
            obtain ⟨wo, hwo⟩ : ∃ wo, wo = wr := ⟨_, rfl⟩
            subst hwo
            go_loop [12] (fun x => ∃ k : Nat, ls.length ≤ k ∧ k ≤ m ∧ x = .int .i64 k ∧ (∀ r, ls.length ≤ r → r < k → mx rows r col = 0)) (fun x => m - (intOf x).toNat)
            case atStart => exact ⟨ls.length, Nat.le_refl _, hlm, rfl, fun r h1 h2 => by omega⟩
            case round =>
              obtain ⟨k, hk1, hk2, rfl, hz⟩ := hrel
              have HZ := Lib.hid hz
              clear hz hdf hdf2
              by_cases hkm : k < m
              · have hdk : decide ((k : Int) < (m : Int)) = true := by simp; omega
                have hdk2 : decide (k < m) = true := by simp; omega
                obtain ⟨rk, hrk⟩ : ∃ rk, rows[k]? = some rk := ⟨_, List.getElem?_eq_getElem (by rw [HRM.out]; exact hkm)⟩
                have hrkl := HRL.out rk (List.mem_of_getElem? hrk)
                obtain ⟨bk, ck, hvk, hok, _, _, hbk1, hbk2⟩ := KG.out.at_ hrk (by omega)
                rw [hrkl] at hvk hok
                have hcg := KG.out.cell hvk
                obtain ⟨z, hzz⟩ : ∃ z, rk[col]? = some z := ⟨_, List.getElem?_eq_getElem (by omega)⟩
                have hcz := hok.cell hzz
                have hz0 := (hok.2.2 z (List.mem_of_getElem? hzz)).1
                have HMX := Lib.hid (show mx rows k col = toF z by rw [mx_get hrk, co_toFs hzz])
                have HRK := Lib.hid hrk
                have HVK := Lib.hid hvk
                have HZZ := Lib.hid hzz
                have HRKL := Lib.hid hrkl
                have hne : ((k : Int) == (m : Int)) = false := by rw [beq_eq_false_iff_ne]; omega
                clear hrk hvk hok hzz hrkl
                by_cases hzero : toF z = 0
                · have HZR := Lib.hid hzero
                  go_wp2_with fail
                  refine (fNorm_any _ _ hz0).mono ?_
                  rintro e w' ⟨rfl, rfl⟩
                  have hbz : (ofF (toF z) == 0) = true := by rw [HZR.out]; rfl
                  clear hzero
                  try dsimp only
                  go_wp2_with fail
                  refine ⟨⟨k + 1, by omega, by omega, by go_num, fun r h1 h2 => ?_⟩, by simp [intOf] <;> omega⟩
                  rcases Nat.lt_or_ge r k with h | h
                  · exact HZ.out r h1 h
                  · obtain rfl : r = k := by omega
                    rw [HMX.out, HZR.out]
                · have HNZ := Lib.hid (show mx rows k col ≠ 0 by rw [HMX.out]; exact hzero)
                  go_wp2_with fail
                  refine (fNorm_any _ _ hz0).mono ?_
                  rintro e w' ⟨rfl, rfl⟩
                  have hbz : (ofF (toF z) == 0) = false := by rw [beq_eq_false_iff_ne]; intro e; exact hzero (ofF_eq_zero.1 e)
                  clear hzero
                  try dsimp only
                  go_wp2_with fail
                  have ham : ls.length < m := by omega
                  obtain ⟨ra, hra⟩ : ∃ ra, rows[ls.length]? = some ra := ⟨_, List.getElem?_eq_getElem (by rw [HRM.out]; exact ham)⟩
                  obtain ⟨xa, hxa⟩ : ∃ xa, vs[ls.length]? = some xa := ⟨_, List.getElem?_eq_getElem (by rw [KG.out.vlen, HRM.out]; exact ham)⟩
                  have hca := KG.out.cell hxa
                  have hfa := KG.out.frozen ls.length
                  have hoa := (KG.out.row _ _ _ hxa hra).1
                  obtain ⟨Aa, ca_, hxf, _, _⟩ := own_form hoa
                  rw [HRL.out ra (List.mem_of_getElem? hra)] at hxf
                  subst hxf
                  have HXA := Lib.hid hxa
                  have HRA := Lib.hid hra
                  have hal1 : ls.length < 9223372036854775807 := by omega
                  clear hxa hra hoa hcz hbz hdk hdk2 hne
                  refine wp_region_quiet_mask [true, true, true, true, false, false, false, false, false, false, false, false] (by kernel_rfl) (by kernel_rfl) (fun _ _ _ _ _ h => h) ?_
                  simp only [List.length_cons, List.length_nil, Nat.zero_add, Nat.reduceAdd, List.take_succ_cons, List.take_zero, List.drop_succ_cons, List.drop_zero, pickT, pickF, putAll, moved]
                  simp [Act.put, Act.eval]
                  repeat (go_big_quiet_step ((fail)))
                  refine wpQuiet_nil ?_
                  intro nq
                  have G1 := KG.out.drewN nq
                  have hmk : m = rows.length := HRM.out.symm
                  have hout2 := (show (wo.drewN nq).ownsRow w.heap.size 23 1 (.slice (some ⟨g, 0, none⟩) rows.length cm) rows.length vs from hmk ▸ G1.outer).stored ls.length (.slice (some ⟨bk, 0, none⟩) (v + 1) ck)
                  have hc2 : ((wo.drewN nq).setCell ⟨g, ls.length, none⟩ (.slice (some ⟨bk, 0, none⟩) (v + 1) ck)).cell? ⟨g, k, none⟩ = some (.slice (some ⟨bk, 0, none⟩) (v + 1) ck) := by
                    rw [hout2.1.cellAt k (by rw [← hmk]; omega)]
                    by_cases hka : k = ls.length
                    · subst hka
                      exact List.getElem?_set_self (List.getElem?_eq_some_iff.1 HVK.out).1
                    · rw [List.getElem?_set_ne (Ne.symm hka)]; exact HVK.out
                  have hf2 : ((wo.drewN nq).setCell ⟨g, ls.length, none⟩ (.slice (some ⟨bk, 0, none⟩) (v + 1) ck)).frozen? ⟨g, k, none⟩ = false := hout2.1.frozenAt k
                  have G2 := Lib.hid (G1.swap HXA.out HVK.out HRA.out HRK.out)
                  have B2 := Lib.hid (((below_drewN BEL.out nq).setCell (p := ⟨g, ls.length, none⟩) hg1 (.slice (some ⟨bk, 0, none⟩) (v + 1) ck)).setCell (p := ⟨g, k, none⟩) hg1 (.slice Aa (v + 1) ca_))
                  have hL1 := own_apart (KL.out.drewN nq).1 G1.outer (by decide) (set_grown (wo.drewN nq) g ls.length (.slice (some ⟨bk, 0, none⟩) (v + 1) ck))
                  have KL2 := Lib.hid (show OwnInts (((wo.drewN nq).setCell ⟨g, ls.length, none⟩ (.slice (some ⟨bk, 0, none⟩) (v + 1) ck)).setCell ⟨g, k, none⟩ (.slice Aa (v + 1) ca_)) w.heap.size (.slice Al ls.length cl) (nats ls) from ⟨own_apart hL1 hout2.1 (by decide) (set_grown _ g k (.slice Aa (v + 1) ca_)), KL.out.2⟩)
                  have hv2 : ((vs.set ls.length (.slice (some ⟨bk, 0, none⟩) (v + 1) ck)).set k (.slice Aa (v + 1) ca_))[ls.length]? = some (.slice (some ⟨bk, 0, none⟩) (v + 1) ck) := by
                    rw [swap_get HXA.out HVK.out, show sw ls.length k ls.length = k by unfold sw; split <;> simp_all]; exact HVK.out
                  have hr2 : ((rows.set ls.length rk).set k ra)[ls.length]? = some rk := by
                    rw [swap_get HRA.out HRK.out, show sw ls.length k ls.length = k by unfold sw; split <;> simp_all]; exact HRK.out
                  have hc3 := G2.out.cell hv2
                  have hc4 := (G2.out.row _ _ _ hv2 hr2).cell HZZ.out
                  have HV2 := Lib.hid hv2
                  have HR2 := Lib.hid hr2
                  have MX2 := Lib.hid (mx_swap HRA.out HRK.out)
                  have HRM2 := Lib.hid (show ((rows.set ls.length rk).set k ra).length = m by rw [List.length_set, List.length_set]; exact HRM.out)
                  have HRL2 := Lib.hid (show ∀ r ∈ (rows.set ls.length rk).set k ra, r.length = v + 1 from fun r hr => by
                    rcases List.mem_or_eq_of_mem_set hr with h | h
                    · rcases List.mem_or_eq_of_mem_set h with h | h
                      · exact HRL.out r h
                      · rw [h]; exact HRKL.out
                    · rw [h]; exact HRL.out ra (List.mem_of_getElem? HRA.out))
                  have HNR2 := Lib.hid (show NormRows ((rows.set ls.length rk).set k ra) ls.length from (HNR.out.far (Nat.le_refl _)).far hk1)
                  clear G1 hout2 hL1 hmk hv2 hr2
                  go_wp2_with fail
                  obtain ⟨W2, hW2⟩ : ∃ W2, W2 = ((wo.drewN nq).setCell ⟨g, ls.length, none⟩ (.slice (some ⟨bk, 0, none⟩) (v + 1) ck)).setCell ⟨g, k, none⟩ (.slice Aa (v + 1) ca_) := ⟨_, rfl⟩
                  obtain ⟨vs2, hvs2⟩ : ∃ vs2, vs2 = (vs.set ls.length (.slice (some ⟨bk, 0, none⟩) (v + 1) ck)).set k (.slice Aa (v + 1) ca_) := ⟨_, rfl⟩
                  obtain ⟨rows2, hrows2⟩ : ∃ rows2, rows2 = (rows.set ls.length rk).set k ra := ⟨_, rfl⟩
                  rw [← hW2, ← hvs2, ← hrows2] at G2
                  rw [← hW2] at B2 KL2 ⊢
                  rw [← hvs2] at HV2
                  rw [← hrows2] at HR2 MX2 HRM2 HRL2 HNR2
                  clear hW2 hvs2 hrows2 hc2 hf2 hc3 hc4 hca hfa hcg
                  refine (fInv_any _ _ hz0).mono ?_
                  rintro e w' ⟨rfl, rfl⟩
                  try dsimp only
                  obtain ⟨T, hT⟩ : ∃ T, T = sclL rk (inv (toF z)) := ⟨_, rfl⟩
                  have HT := Lib.hid hT
                  have HTL := Lib.hid (show T.length = rk.length by rw [hT, sclL_length])
                  clear hT
                  have hc3 := G2.out.cell HV2.out
                  go_wp2_with fail
                  clear hc3
                  go_loopw [95] (fun x wr => ∃ j : Nat, j ≤ v + 1 ∧ x = .int .i64 j ∧ Grid wr w.heap.size (.slice (some ⟨g, 0, none⟩) m cm) vs2 (rows2.set ls.length (partL T rk j)) ∧ OwnInts wr w.heap.size (.slice Al ls.length cl) (nats ls) ∧ Below w.heap.size w wr) (fun x _ => v + 1 - (intOf x).toNat)
                  case atStart => exact ⟨0, Nat.zero_le _, rfl, by rw [partL_start, set_self HR2.out]; exact G2.out, KL2.out, B2.out⟩
                  case round =>
                    obtain ⟨j, hj, rfl, hgr, hls, hbel⟩ := hrel
                    have G3 := Lib.hid hgr
                    have KL3 := Lib.hid hls
                    have B3 := Lib.hid hbel
                    clear hgr hls hbel
                    by_cases hlt4 : j < v + 1
                    · have hdj : decide ((j : Int) < (v : Int) + 1) = true := by simp; omega
                      obtain ⟨u, hu⟩ : ∃ u, rk[j]? = some u := ⟨_, List.getElem?_eq_getElem (by rw [HRKL.out]; exact hlt4)⟩
                      have hri := set_get_same (b := partL T rk j) HR2.out
                      have hrow := G3.out.row _ _ _ HV2.out hri
                      have hpu : (partL T rk j)[j]? = some u := by rw [partL_get HTL.out (by rw [HRKL.out]; exact hlt4)]; exact hu
                      have hcu := hrow.cell hpu
                      have hfu := hrow.frozen j
                      have hcg3 := G3.out.cell HV2.out
                      have hu0 := (hrow.2.2 u (List.mem_of_getElem? hpu)).1
                      have HSET := Lib.hid (partL_set HTL.out (show T[j]? = some (ofF (toF u * inv (toF z))) by rw [HT.out]; exact sclL_get _ hu))
                      have HRI := Lib.hid hri
                      have HROW := Lib.hid hrow
                      clear hu hri hrow hpu
                      go_wp2_with fail
                      refine wp_region_quiet_mask [false, false, false, false, true, false, false, false, false, false, false, false, false, false] (by kernel_rfl) (by kernel_rfl) (fun _ _ _ _ _ h => h) ?_
                      simp only [List.length_cons, List.length_nil, Nat.zero_add, Nat.reduceAdd, List.take_succ_cons, List.take_zero, List.drop_succ_cons, List.drop_zero, pickT, pickF, putAll, moved]
                      simp [Act.put, Act.eval]
                      repeat (go_big_quiet_step ((exact quietL (fMul_any _ _ _ hu0 (ofF_nonneg _)))))
                      refine wpQuiet_nil ?_
                      intro nq
                      have G4 := Lib.hid ((G3.out.drewN nq).setNum HV2.out HRI.out j (U64.of_ofF (toF u * inv (toF z))))
                      have B4 := Lib.hid ((below_drewN B3.out nq).setCell (p := ⟨bk, j, none⟩) hbk1 (.int .u64 (ofF (toF u * inv (toF z)))))
                      have KL4 := Lib.hid (show OwnInts ((wr.drewN nq).setCell ⟨bk, j, none⟩ (.int .u64 (ofF (toF u * inv (toF z))))) w.heap.size (.slice Al ls.length cl) (nats ls) from ⟨own_apart (KL3.out.drewN nq).1 (HROW.out.drewN nq).1 (by decide) (set_grown (wr.drewN nq) bk j _), KL3.out.2⟩)
                      go_wp2_with fail
                      simp only [toF_ofF]
                      refine ⟨⟨j + 1, by omega, by go_num, ?_, KL4.out, B4.out⟩, by simp [intOf] <;> omega⟩
                      have h := G4.out
                      rw [List.set_set, HSET.out] at h
                      exact h
                    · obtain rfl : j = v + 1 := by omega
                      have HPE := Lib.hid (show partL T rk (v + 1) = T by rw [← HRKL.out]; exact partL_end HTL.out)
                      rw [HPE.out] at G3
                      have hdj : decide (((v + 1 : Nat) : Int) < (v : Int) + 1) = false := by simp
                      go_wp2_with fail
                      obtain ⟨S, hS⟩ : ∃ S, S = mx (rows2.set ls.length T) := ⟨_, rfl⟩
                      have HSE := Lib.hid (show S = scaleM (swapM (mx rows) ls.length k) ls.length (inv (mx rows k col)) by
                        rw [hS, HT.out, mx_scale HR2.out, MX2.out, HMX.out])
                      have HRMS := Lib.hid (show (rows2.set ls.length T).length = m by rw [List.length_set]; exact HRM2.out)
                      have HRLS := Lib.hid (show ∀ r ∈ rows2.set ls.length T, r.length = v + 1 from fun r hr => by
                        rcases List.mem_or_eq_of_mem_set hr with h | h
                        · exact HRL2.out r h
                        · rw [h, HTL.out]; exact HRKL.out)
                      have HRAS := Lib.hid (set_get_same (b := T) HR2.out)
                      have HTV := Lib.hid (show T.length = v + 1 by rw [HTL.out]; exact HRKL.out)
                      have HS := Lib.hid hS
                      clear hS
                      go_loopw [116] (fun x wq => ∃ (i : Nat) (rows3 : List (List Int)), i ≤ m ∧ x = .int .i64 i ∧ Grid wq w.heap.size (.slice (some ⟨g, 0, none⟩) m cm) vs2 rows3 ∧ rows3.length = m ∧ (∀ r ∈ rows3, r.length = v + 1) ∧ rows3[ls.length]? = some T ∧ mx rows3 = clearM S ls.length col i ∧ NormRows rows3 ls.length ∧ OwnInts wq w.heap.size (.slice Al ls.length cl) (nats ls) ∧ Below w.heap.size w wq) (fun x _ => m - (intOf x).toNat)
                      case atStart => exact ⟨0, _, Nat.zero_le _, rfl, G3.out, HRMS.out, HRLS.out, HRAS.out, by rw [clearM_start]; exact HS.out.symm, HNR2.out.far (Nat.le_refl _), KL3.out, B3.out⟩
                      case round =>
                        obtain ⟨i, rows3, hi, rfl, hgr, hrm3, hrl3, hra3, hmx3, hnr3, hls, hbel⟩ := hrel
                        have HNR3 := Lib.hid hnr3
                        clear hnr3
                        clear G3 KL3 B3
                        have G3 := Lib.hid hgr
                        have KL3 := Lib.hid hls
                        have B3 := Lib.hid hbel
                        have HRM3 := Lib.hid hrm3
                        have HRL3 := Lib.hid hrl3
                        have HRA3 := Lib.hid hra3
                        have HMX3 := Lib.hid hmx3
                        have hsz3 := hbel.size
                        clear hgr hls hbel hrm3 hrl3 hra3 hmx3
                        by_cases hlt5 : i < m
                        · have hdi : decide ((i : Int) < (m : Int)) = true := by simp; omega
                          by_cases hia : i = ls.length
                          · have hne5 : ((i : Int) != (ls.length : Int)) = false := by rw [bne_eq_false_iff_eq]; omega
                            have HIA := Lib.hid hia
                            clear hia
                            go_wp2_with fail
                            exact ⟨⟨i + 1, rows3, by omega, by go_num, G3.out, HRM3.out, HRL3.out, HRA3.out, by have h := HMX3.out; rw [HIA.out] at h ⊢; rw [clearM_skip]; exact h, HNR3.out, KL3.out, B3.out⟩, by simp [intOf] <;> omega⟩
                          · have hne5 : ((i : Int) != (ls.length : Int)) = true := by rw [bne_iff_ne]; omega
                            have HIA := Lib.hid hia
                            obtain ⟨ri, hri⟩ : ∃ ri, rows3[i]? = some ri := ⟨_, List.getElem?_eq_getElem (by rw [HRM3.out]; exact hlt5)⟩
                            have hril := HRL3.out ri (List.mem_of_getElem? hri)
                            obtain ⟨bi, ci, hvi, hoi, _, _, hbi1, hbi2⟩ := G3.out.at_ hri (by omega)
                            rw [hril] at hvi hoi
                            obtain ⟨y, hyy⟩ : ∃ y, ri[col]? = some y := ⟨_, List.getElem?_eq_getElem (by omega)⟩
                            have hci := G3.out.cell hvi
                            have hca3 := G3.out.cell HV2.out
                            have hcy := hoi.cell hyy
                            have hy0 := (hoi.2.2 y (List.mem_of_getElem? hyy)).1
                            have HRI := Lib.hid hri
                            have HVI := Lib.hid hvi
                            have HOI := Lib.hid hoi
                            have HRIL := Lib.hid hril
                            have HYY := Lib.hid hyy
                            clear hia hri hvi hoi hril hyy
                            go_wp2_with fail
                            refine wp_region_quiet_tail 15 (by kernel_rfl) (by kernel_rfl) ?_
                            simp only [List.take_succ_cons, List.take_zero, List.drop_succ_cons, List.drop_zero]
                            repeat (go_big_quiet_step ((fail)))
                            refine wpQuiet_nil ?_
                            intro nq
                            go_wp2_with fail
                            refine (sClear_any _ w.heap.size _ _ _ vs2 rows3 i ls.length ri T y (G3.out.drewN nq) HVI.out HV2.out HRI.out HRA3.out HIA.out (by rw [HRIL.out, HTV.out]) (by rw [HRIL.out]; omega) (by rw [HRIL.out]; omega) hy0).mono ?_
                            rintro e w7 ⟨rfl, hg7, hb7, hgw7⟩
                            have G7 := Lib.hid hg7
                            have B7 := Lib.hid ((below_drewN B3.out nq).trans hb7)
                            have KL7 := Lib.hid (show OwnInts w7 w.heap.size (.slice Al ls.length cl) (nats ls) from ⟨own_apart (KL3.out.drewN nq).1 (HOI.out.drewN nq).1 (by decide) hgw7, KL3.out.2⟩)
                            have HMX7 := Lib.hid (mx_clear HMX3.out HRI.out HRA3.out HIA.out (by rw [HRIL.out, HTV.out]) HYY.out)
                            have HRM7 := Lib.hid (show (rows3.set i (clrL ri T y)).length = m by rw [List.length_set]; exact HRM3.out)
                            have HRL7 := Lib.hid (show ∀ r ∈ rows3.set i (clrL ri T y), r.length = v + 1 from fun r hr => by
                              rcases List.mem_or_eq_of_mem_set hr with h | h
                              · exact HRL3.out r h
                              · rw [h, clrL_length y (by rw [HRIL.out, HTV.out])]; exact HRIL.out)
                            have HRA7 := Lib.hid (show (rows3.set i (clrL ri T y))[ls.length]? = some T by rw [List.getElem?_set_ne HIA.out]; exact HRA3.out)
                            clear hg7 hb7 hgw7 hci hca3 hcy
                            try dsimp only
                            go_wp2_with fail
                            exact ⟨⟨i + 1, _, by omega, by go_num, G7.out, HRM7.out, HRL7.out, HRA7.out, HMX7.out, (by rw [clrL_ofFs]; exact HNR3.out.set), KL7.out, B7.out⟩, by simp [intOf] <;> omega⟩
                        · obtain rfl : m = i := by omega
                          have hdi : decide ((m : Int) < (m : Int)) = false := by simp
                          have HRED := Lib.hid (show Red (mx rows0) (mx rows3) m (v + 1) (col + 1) (ls ++ [col]) by
                            have h := RED.out.pivot hk1 hkm HNZ.out
                            rw [HMX3.out, HSE.out]
                            exact h)
                          go_wp2_with (at_builtin; go_loud (refine wpList_push_int_at rfl _ _ rfl w.heap.size _ (nats ls) (col : Int) wr.heap.size 1 rfl (KL3.out.alloc _) rfl (new_cell _ _ _) (by unfold I64; omega) (by rw [nats_length]; omega) (by rw [size_alloc]; omega) ?_))
                          intro v9 w9 ho9 hb9 hgw9
                          have KL9 := Lib.hid (show OwnInts w9 w.heap.size v9 (nats (ls ++ [col])) by
                            rw [show nats (ls ++ [col]) = nats ls ++ [(col : Int)] by simp [nats]]; exact ho9)
                          have G9 := Lib.hid ((G3.out.alloc (.cells #[.int .i64 (col : Int)] 3)).apart_kept (KL3.out.alloc (.cells #[.int .i64 (col : Int)] 3)).1 (by decide) (by decide) hgw9)
                          have B9 := Lib.hid ((B3.out.alloc hsz3 (.cells #[.int .i64 (col : Int)] 3)).trans hb9)
                          have HNR9 := Lib.hid (show NormRows rows3 (ls ++ [col]).length from fun q hq => by
                            rw [List.length_append, List.length_singleton] at hq
                            rcases Nat.lt_or_ge q ls.length with h | h
                            · exact HNR3.out q h
                            · obtain rfl : q = ls.length := by omega
                              exact ⟨_, by rw [HRA3.out, HT.out, sclL_ofFs]⟩)
                          clear ho9 hb9 hgw9
                          go_wp2_with fail
                          exact ⟨⟨col + 1, vs2, rows3, ls ++ [col], by omega, by go_num, G9.out, HRM3.out, HRL3.out, KL9.out, HRED.out, HNR9.out, B9.out⟩, by simp [intOf] <;> omega⟩
              · obtain rfl : k = m := by omega
                have hdk : decide ((k : Int) < (k : Int)) = false := by simp
                have hne : ((k : Int) == (k : Int)) = true := by simp
                go_wp2_with fail
                exact ⟨⟨col + 1, vs, rows, ls, by omega, by go_num, KG.out, HRM.out, HRL.out, KL.out, RED.out.skip HZ.out, HNR.out, BEL.out⟩, by simp [intOf] <;> omega⟩
        · obtain rfl : v = col := by omega
          have hdc : decide ((v : Int) < (v : Int)) = false := by simp
          go_wp2_with fail
          exact HPO.out _ _ ⟨_, _, vs, rows, ls, rfl, KG.out, KL.out, HRM.out, HRL.out, RED.out, HNR.out, BEL.out⟩
end Go.Proofs.Ytoleaijjgaekcaa
