/- Package solve: what solves: what the call returns. -/
import Derived.Test.YtoleaijjgaekcaaSolS
namespace Go.Proofs.Ytoleaijjgaekcaa
open Go.RowKit Croft

def ySolN (M : Mx) (ls : List Nat) (c n j : Nat) : F := fsum n fun i => if ld ls i = j then M i c else 0
def solN (M : Mx) (ls : List Nat) (v n : Nat) : List F := (List.range v).map fun j => ySolN M ls v n j
def solF (M : Mx) (ls : List Nat) (v : Nat) : List F := (List.range v).map fun j => ySol M ls v j
theorem solN_length (M : Mx) (ls : List Nat) (v n : Nat) : (solN M ls v n).length = v := by simp [solN]
theorem solN_end (M : Mx) (ls : List Nat) (v : Nat) : solN M ls v ls.length = solF M ls v := rfl
theorem solN_start (M : Mx) (ls : List Nat) (v : Nat) : ofFs (solN M ls v 0) = List.replicate v 0 := by
  unfold solN ofFs
  rw [List.map_map]
  apply List.ext_getElem
  · simp
  · intro j h1 h2
    simp [ySolN, fsum, ofF_zero]
theorem solN_next {M0 M : Mx} {m v : Nat} {ls : List Nat} (h : Red M0 M m (v + 1) v ls) {i : Nat} (hi : i < ls.length) : (ofFs (solN M ls v i)).set (ld ls i) (ofF (M i v)) = ofFs (solN M ls v (i + 1)) := by
  have hlt := h.lt i hi
  apply List.ext_getElem?
  intro j
  rcases Nat.lt_or_ge j v with hj | hj
  · have hr : (ofFs (solN M ls v (i + 1)))[j]? = some (ofF (ySolN M ls v (i + 1) j)) := ofFs_get (by simp [solN, hj])
    have hl : (ofFs (solN M ls v i))[j]? = some (ofF (ySolN M ls v i j)) := ofFs_get (by simp [solN, hj])
    rw [hr]
    by_cases hc : j = ld ls i
    · subst hc
      rw [List.getElem?_set_self (by rw [ofFs_length, solN_length]; exact hj)]
      have hz : ySolN M ls v i (ld ls i) = 0 := by
        unfold ySolN
        apply fsum_zero
        intro q hq
        rw [if_neg]
        intro he
        have := h.inj (show q < ls.length by omega) hi he
        omega
      have : ySolN M ls v (i + 1) (ld ls i) = M i v := by
        show fsum (i + 1) _ = _
        rw [fsum, if_pos rfl]
        have h0 : (fsum i fun q => if ld ls q = ld ls i then M q v else 0) = 0 := hz
        rw [h0, F_za]
      rw [this]
    · rw [List.getElem?_set_ne (Ne.symm hc), hl]
      have : ySolN M ls v (i + 1) j = ySolN M ls v i j := by
        show fsum (i + 1) _ = fsum i _
        rw [fsum, if_neg (fun e => hc e.symm), F_az]
      rw [this]
  · rw [List.getElem?_eq_none (by rw [List.length_set, ofFs_length, solN_length]; exact hj), List.getElem?_eq_none (by rw [ofFs_length, solN_length]; exact hj)]
theorem sSolve_bad (va : Value) (rows : List (List Int)) (vars : Int) (w : World) (h1 : IsNumss w va rows) (h : solE rows vars ≠ 0) :
    Calls Try.prog 13 #[va, .int .i64 vars] w fun e w' => ListRes w e w' [] (solE rows vars) := by
  have KA := Lib.hid h1
  have hb : (solE rows vars != 0) = true := by rw [bne_iff_ne]; exact h
  clear h1 h
  go_enter Try.func13, Try.ntmps13
  go_wp2_with fail
  refine (sSolCheck_any _ _ _ _ KA.out).mono ?_
  rintro e w' ⟨rfl, hb⟩
  have BEL := Lib.hid hb
  clear hb
  try dsimp only
  go_wp2_with fail
  go_ret2
  exact ⟨_, rfl, OwnNums.nil _ _, BEL.out⟩
def SolRes (w : World) (e : Ending) (w' : World) (rows0 : List (List Int)) (v : Nat) : Prop :=
  ∃ rows ls, Red (mx rows0) (mx rows) rows0.length (v + 1) v ls ∧ (((∃ r, ls.length ≤ r ∧ r < rows0.length ∧ mx rows r v ≠ 0) ∧ ListRes w e w' [] 4) ∨ ((∀ r, ls.length ≤ r → r < rows0.length → mx rows r v = 0) ∧ ListRes w e w' (ofFs (solF (mx rows) ls v)) 0))
set_option maxRecDepth 100000 in
set_option maxHeartbeats 2000000 in
theorem sSolve_ok (va : Value) (rows0 : List (List Int)) (v : Nat) (w : World) (h1 : IsNumss w va rows0) (h0 : solE rows0 v = 0) (hv1 : 1 ≤ v) (hv20 : v ≤ 20) (hm20 : rows0.length ≤ 20) (hlen : ∀ r ∈ rows0, r.length = v + 1) :
    Calls Try.prog 13 #[va, .int .i64 v] w fun e w' => SolRes w e w' rows0 v := by
  have KA := Lib.hid h1
  have H0 := Lib.hid h0
  have HLEN := Lib.hid hlen
  suffices hgoal : ∀ Post : Ending → World → Prop, (∀ e w', SolRes w e w' rows0 v → Post e w') → Calls Try.prog 13 #[va, .int .i64 v] w Post from hgoal _ fun e w' h => h
  intro Post hpo
  have HPO := Lib.hid hpo
  clear h1 h0 hlen hpo
  go_enter Try.func13, Try.ntmps13
  go_wp2_with fail
  refine (sSolCheck_any _ _ _ _ KA.out).mono ?_
  rintro e W1 ⟨rfl, hb⟩
  rw [H0.out]
  have BEL := Lib.hid hb
  have KA1 := Lib.hid (KA.out.below hb)
  clear hb
  try dsimp only
  go_wp2_with fail
  refine (reduced_ok _ rows0 v rows0.length _ KA1.out rfl hm20 hv1 hv20 HLEN.out).mono ?_
  rintro e W2 ⟨vm, vl, vs, rows, ls, rfl, hg, hl, hrm, hrl, hred, hnr, hb⟩
  have RED := Lib.hid hred
  have B2 := Lib.hid (below_trans BEL.out hb BEL.out.size)
  have hlm := hred.len
  obtain ⟨m, hm⟩ : ∃ m, m = rows0.length := ⟨_, rfl⟩
  rw [← hm] at hrm hlm hm20 RED
  have HM := Lib.hid hm
  obtain ⟨Al, cl, hvl, _, _⟩ := own_form hl.1
  rw [nats_length] at hvl
  subst hvl
  obtain ⟨Am, cm, hvm, hcm, _⟩ := own_form hg.outer
  rw [hrm] at hvm hcm
  subst hvm
  have KG := Lib.hid hg
  have KL := Lib.hid hl
  have HRM := Lib.hid hrm
  have HRL := Lib.hid hrl
  have HNR := Lib.hid hnr
  have hsl := slice_rest_run Am m cm ls.length hlm
  have hrest := hg.is.rest ls.length (by rw [hrm]; exact hlm)
  obtain ⟨vr, hvr⟩ : ∃ vr, vr = (if cm = ls.length then Am else Am.map (·.add (ls.length * 1))) := ⟨_, rfl⟩
  rw [← hvr] at hsl hrest
  have KR := Lib.hid hrest
  have hrdl : (rows.drop ls.length).length = m - ls.length := by rw [List.length_drop, hrm]
  have HRDL := Lib.hid hrdl
  clear hg hl hrm hrl hred hnr hb hrest hvr hm hrdl KA KA1 BEL
  try dsimp only
  go_wp2_with fail
  clear hsl
  obtain ⟨wo, hwo⟩ : ∃ wo, wo = W2 := ⟨_, rfl⟩
  subst hwo
  obtain ⟨d, hd⟩ : ∃ d, d = m - ls.length := ⟨_, rfl⟩
  rw [← hd] at HRDL KR ⊢
  have HDD := Lib.hid hd
  have hd20 : d ≤ 20 := by omega
  clear hd
  go_loop [31] (fun x => ∃ q : Nat, q ≤ d ∧ x = .int .i64 q ∧ (∀ r, ls.length ≤ r → r < ls.length + q → mx rows r v = 0)) (fun x => d - (intOf x).toNat)
  case atStart => exact ⟨0, Nat.zero_le _, rfl, fun r h1 h2 => by omega⟩
  case round =>
    obtain ⟨q, hq, rfl, hz⟩ := hrel
    have HZ := Lib.hid hz
    clear hz
    by_cases hlt : q < d
    · obtain ⟨A, c, vs1, hA, _, _, _, hr, ha⟩ := KR.out
      rw [HRDL.out] at hA
      injection hA with hA1 hA2 hA3
      subst hA1 hA3
      clear hA2
      obtain ⟨b1, o1, x, r, rfl, hb1, hx, hgk, hn, hc⟩ := numss_at hr ha (k := q) (by rw [HRDL.out]; exact hlt)
      rw [List.getElem?_drop] at hgk
      have hrl := HRL.out r (List.mem_of_getElem? hgk)
      obtain ⟨Ar, cr, hxr, _, _, _, hur, hrr⟩ := hn
      rw [hrl] at hxr
      subst hxr
      obtain ⟨b2, o2, z, rfl, hb2, hgz, hz64, hcz⟩ := nums_at hrr hur (k := v) (by omega)
      have hz0 := hz64.1
      have HMX := Lib.hid (show mx rows (ls.length + q) v = toF z by rw [mx_get hgk, co_toFs hgz])
      have hdq : decide ((q : Int) < (d : Int)) = true := by simp; omega
      clear hr ha hb1 hx hgk hur hrr hb2 hgz hrl
      by_cases hzero : toF z = 0
      · have HZR := Lib.hid hzero
        go_wp2_with fail
        refine (fNorm_any _ _ hz0).mono ?_
        rintro e w' ⟨rfl, rfl⟩
        have hbz : (ofF (toF z) != 0) = false := by rw [HZR.out]; rfl
        clear hzero
        try dsimp only
        go_wp2_with fail
        refine ⟨⟨q + 1, by omega, by go_num, fun r h1 h2 => ?_⟩, by simp [intOf] <;> omega⟩
        rcases Nat.lt_or_ge r (ls.length + q) with h | h
        · exact HZ.out r h1 h
        · obtain rfl : r = ls.length + q := by omega
          rw [HMX.out, HZR.out]
      · have HNZ := Lib.hid hzero
        go_wp2_with fail
        refine (fNorm_any _ _ hz0).mono ?_
        rintro e w' ⟨rfl, rfl⟩
        have hbz : (ofF (toF z) != 0) = true := by rw [bne_iff_ne]; intro e; exact hzero (ofF_eq_zero.1 e)
        clear hzero
        try dsimp only
        go_wp2_with fail
        exact HPO.out _ _ ⟨rows, ls, HM.out ▸ RED.out, .inl ⟨⟨ls.length + q, by omega, by have := HM.out; have := HDD.out; omega, by rw [HMX.out]; exact HNZ.out⟩, _, rfl, OwnNums.nil _ _, B2.out⟩⟩
    · obtain rfl : q = d := by omega
      have HZA := Lib.hid (show ∀ r, ls.length ≤ r → r < m → mx rows r v = 0 from fun r h1 h2 => HZ.out r h1 (by have := HDD.out; omega))
      clear KR
      go_wp2_with (refine wpList_make_nums rfl _ _ rfl wo.heap.size _ v rfl rfl rfl (by omega) (Nat.le_refl _) ?_)
      intro W3 ho hb
      have KO := Lib.hid (show OwnNums W3 wo.heap.size (.slice (some ⟨wo.heap.size, 0, none⟩) v v) (ofFs (solN (mx rows) ls v 0)) from by rw [solN_start]; exact ho)
      have B3 := Lib.hid hb
      clear ho hb
      go_wp2_with fail
      go_loopw [46] (fun x wr => ∃ i : Nat, i ≤ ls.length ∧ x = .int .i64 i ∧ OwnNums wr wo.heap.size (.slice (some ⟨wo.heap.size, 0, none⟩) v v) (ofFs (solN (mx rows) ls v i)) ∧ Below wo.heap.size wo wr) (fun x _ => ls.length - (intOf x).toNat)
      case atStart => exact ⟨0, Nat.zero_le _, rfl, KO.out, B3.out⟩
      case round =>
        obtain ⟨i, hi, rfl, hown, hbel⟩ := hrel
        clear KO B3
        have KO := Lib.hid hown
        have B3 := Lib.hid hbel
        clear hown hbel
        by_cases hlt2 : i < ls.length
        · have hdi : decide ((i : Int) < (ls.length : Int)) = true := by simp; omega
          obtain ⟨A, c, hA, _, _, _, hu, hr⟩ := KL.out.is.below B3.out
          rw [nats_length] at hA
          injection hA with hA1 hA2 hA3
          subst hA1 hA3
          clear hA2
          obtain ⟨b1, o1, cz, rfl, hb1, hgc, hc64, hcc⟩ := ints_at hr hu (k := i) (by rw [nats_length]; exact hlt2)
          have hce : cz = ((ld ls i : Nat) : Int) := by
            unfold nats at hgc
            rw [List.getElem?_map, ld_get hlt2] at hgc
            simpa using hgc.symm
          subst hce
          obtain ⟨col, hcol⟩ : ∃ col, col = ld ls i := ⟨_, rfl⟩
          have hcv : col < v := by rw [hcol]; exact RED.out.lt i hlt2
          rw [← hcol] at hcc
          obtain ⟨l, hl⟩ := HNR.out i hlt2
          have hll := HRL.out _ (List.mem_of_getElem? hl)
          have KGr := KG.out.below B3.out
          obtain ⟨bi, ci, hvi, hoi, _, _, _, _⟩ := KGr.at_ hl (by omega)
          rw [hll] at hvi hoi
          have hgm := KGr.outer.form (by rw [HRM.out]; omega)
          obtain ⟨gm, cgm, hgmv, _, _⟩ := hgm
          injection hgmv with hg1 hg2 hg3
          subst hg1
          clear hg2 hg3
          have hci := KGr.cell hvi
          rw [ofFs_length] at hll
          have hcy := hoi.cell (ofFs_get (get_co (l := l) (j := v) (by omega)))
          have HMX := Lib.hid (show mx rows i v = co l v by rw [mx_get hl, toFs_ofFs])
          have hoc : (ofFs (solN (mx rows) ls v i))[col]? = some (ofF (co (solN (mx rows) ls v i) col)) := ofFs_get (get_co (by rw [solN_length]; exact hcv))
          have hcs := KO.out.cell hoc
          have hfs := KO.out.frozen col
          have K4 := Lib.hid (show OwnNums (wr.setCell ⟨wo.heap.size, col, none⟩ (.int .u64 (ofF (co l v)))) wo.heap.size (.slice (some ⟨wo.heap.size, 0, none⟩) v v) (ofFs (solN (mx rows) ls v (i + 1))) from by
            rw [← solN_next RED.out hlt2, HMX.out, ← hcol]
            exact KO.out.set_ col (U64.of_ofF _))
          have B4 := Lib.hid (B3.out.setCell (p := ⟨wo.heap.size, col, none⟩) (Nat.le_refl _) (.int .u64 (ofF (co l v))))
          clear hr hu hb1 hgc hcol hl hll KGr hvi hoi hoc
          go_wp2_with fail
          exact ⟨⟨i + 1, by omega, by go_num, K4.out, B4.out⟩, by simp [intOf] <;> omega⟩
        · obtain rfl : ls.length = i := by omega
          rw [solN_end] at KO
          go_wp2_with fail
          exact HPO.out _ _ ⟨rows, ls, HM.out ▸ RED.out, .inr ⟨fun r h1 h2 => HZA.out r h1 (by have := HM.out; omega), _, rfl, KO.out.less B2.out.size, below_trans B2.out B3.out B2.out.size⟩⟩
end Go.Proofs.Ytoleaijjgaekcaa
