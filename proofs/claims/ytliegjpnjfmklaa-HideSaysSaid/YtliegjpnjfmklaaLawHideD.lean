/- The law HideSays, walked: part D. -/
import Derived.Test.YtliegjpnjfmklaaHideL
namespace Go.Proofs.Ytliegjpnjfmklaa
open Go.RowKit Croft

set_option maxRecDepth 100000 in
set_option maxHeartbeats 4000000 in
theorem hideSays_big_ok (t : Int) (frm to : Int) (va vd : Value) (zs ds : List Int) (w : World) (hf : U64 frm) (hto : U64 to) (h1 : IsInts w va zs) (h2 : IsNums w vd ds) (hp : partyB zs = true) (hd : (ds.length : Int) > 4) (ht : 0 ≤ t ∧ t ≤ 4) (hm : (zs.length : Int) ≤ t) (hn : (ds.length : Int) = needN t) (h1t : 1 ≤ t) :
    Calls Try.prog 8 #[va, .int .i64 t, .int .u64 frm, .int .u64 to, vd] w fun e w' => e = .returned (.bool true) ∧ Below w.heap.size w w' := by
  have hf0 := hf.1
  have ht0 := hto.1
  have KA := Lib.hid h1
  have KD := Lib.hid h2
  have HP := Lib.hid hp
  have BEL := Lib.hid (Below.refl w.heap.size w)
  obtain ⟨A1, c1, rfl, hc1, hm1_, hl1, hu1, hr1⟩ := h1
  obtain ⟨A2, c2, rfl, hc2, hm2_, hl2, hu2, hr2⟩ := h2
  clear hu1 hr1 hm1_ hu2 hr2 hm2_ hp
  have hd1 : decide ((ds.length : Int) > 4) = true := by simpa using hd
  have HARG := Lib.hid (show ¬ (ds.length ≤ 4 ∧ zs.length ≤ ds.length) by omega)
  clear hd
  have HIN := Lib.hid (show decide (0 ≤ t ∧ t ≤ 4) = true from decide_eq_true ht)
  have HTO := Lib.hid ht
  obtain ⟨T, rfl⟩ := Int.eq_ofNat_of_zero_le ht.1
  have hT4 : T ≤ 4 := by omega
  have hmT : zs.length ≤ T := by omega
  have hm1 : decide ((zs.length : Int) > (T : Int)) = false := by simp; omega
  have hm2 : decide (T < zs.length) = false := by simp; omega
  have hn1 : ((ds.length : Int) != needN T) = false := by rw [bne_eq_false_iff_eq]; exact hn
  have hmn : min (T : Int) 4 = (T : Int) := by omega
  have hmx : max 0 (T : Int) = (T : Int) := by omega
  have HDN := Lib.hid hn
  have HDL := Lib.hid (show ds.length + 1 = off T (T + 1) by have := off_need' T (by omega); omega)
  clear ht hm hn
  have h1T : 1 ≤ T := by omega
  clear h1t
  go_enter Try.func8, Try.ntmps8
  go_wp2_with fail
  refine (rNeg_any _ _ hf).mono ?_
  rintro e w' ⟨rfl, rfl⟩
  try dsimp only
  go_wp2_with fail
  refine (rAdd_any _ _ _ hto (U64.of_ofF _)).mono ?_
  rintro e w' ⟨rfl, rfl⟩
  rw [toF_ofF, F_addneg]
  obtain ⟨d, hdd⟩ : ∃ d, d = toF to - toF frm := ⟨_, rfl⟩
  rw [← hdd]
  have HD := Lib.hid hdd
  clear hdd
  try dsimp only
  go_wp2_with fail
  refine (rWho_any _ _ _ KA.out).mono ?_
  rintro e w' ⟨rfl, nd, rfl⟩
  rw [HP.out]
  try dsimp only
  have hb := below_drewN (Below.refl w.heap.size w) nd
  replace KA := Lib.hid (KA.out.below hb)
  replace KD := Lib.hid (KD.out.below hb)
  replace BEL := Lib.hid (below_trans BEL.out hb BEL.out.size)
  clear hb
  generalize hW : w.drewN nd = W1 at *
  clear hW
  go_wp2_with fail
  refine (hShift_arg _ _ zs ds frm to _ KA.out KD.out HP.out HARG.out).mono ?_
  rintro e W2 ⟨v1, rfl, ho, hb⟩
  try dsimp only
  replace KA := Lib.hid (KA.out.below hb)
  replace KD := Lib.hid (KD.out.below hb)
  replace BEL := Lib.hid (below_trans BEL.out hb BEL.out.size)
  have K1 := Lib.hid ho.is
  clear ho hb
  have KW := Lib.hid (IsNums.nil W2)
  go_wp2_with fail
  refine (equal_any _ _ _ _ _ K1.out KW.out).mono ?_
  rintro e w' ⟨rfl, nd, rfl⟩
  rw [decide_eq_true rfl]
  try dsimp only
  clear K1 KW
  have hb := below_drewN (Below.refl W2.heap.size W2) nd
  replace KA := Lib.hid (KA.out.below hb)
  replace KD := Lib.hid (KD.out.below hb)
  replace BEL := Lib.hid (below_trans BEL.out hb BEL.out.size)
  clear hb
  generalize hW : W2.drewN nd = W3 at *
  clear hW
  go_wp2_with fail
  refine (rWho_any _ _ _ KA.out).mono ?_
  rintro e w' ⟨rfl, nd, rfl⟩
  rw [HP.out]
  try dsimp only
  have hb := below_drewN (Below.refl W3.heap.size W3) nd
  replace KA := Lib.hid (KA.out.below hb)
  replace KD := Lib.hid (KD.out.below hb)
  replace BEL := Lib.hid (below_trans BEL.out hb BEL.out.size)
  clear hb
  generalize hW : W3.drewN nd = W4 at *
  clear hW
  go_wp2_with fail
  refine (rIn_any _ _ _ _).mono ?_
  rintro e w' ⟨rfl, rfl⟩
  rw [HIN.out]
  try dsimp only
  go_wp2_with fail
  all_goals
    have hTT := HTO.out
    refine (rTwoNeed_ok _ _ (by omega)).mono ?_
    rintro e w' ⟨rfl, rfl⟩
    try rw [show needN 0 = needN (T : Int) from by congr 1; omega]
    clear hTT
    try dsimp only
    go_wp2_with fail
    clear hm1 hm2 hn1 hmn hmx
    obtain ⟨WC, hWC⟩ : ∃ WC, WC = W4 := ⟨_, rfl⟩
    rw [← hWC] at KA KD BEL ⊢
    clear hWC
    obtain ⟨B, hB⟩ : ∃ B, B = blindP zs := ⟨_, rfl⟩
    have HB := Lib.hid hB
    clear hB
    go_loopw [13, 18, 19] (fun v x i wr => ∃ k : Nat, k ≤ T + 1 ∧ i = .int .i64 k ∧ x = .int .i64 ((off T k - 1 : Nat) : Int) ∧ OwnNums wr WC.heap.size v (twL B (toFs ds) d T (off T k)) ∧ Below WC.heap.size WC wr) (fun _ _ i _ => T + 1 - (intOf i).toNat)
    case atStart => exact ⟨0, Nat.zero_le _, rfl, rfl, OwnNums.nil _ _, Below.refl _ _⟩
    case round =>
      obtain ⟨k, hk, rfl, rfl, hown, hbel⟩ := hrel
      have KO := Lib.hid hown
      have BW := Lib.hid hbel
      clear hown hbel
      by_cases hlt : k < T + 1
      · have hdk : decide ((k : Int) ≤ (T : Int)) = true := by simp; omega
        have hdk2 : decide (k ≤ T) = true := by simp; omega
        go_wp2_with fail
        clear hdk2
        obtain ⟨wo, hwo⟩ : ∃ wo, wo = wr := ⟨_, rfl⟩
        subst hwo
        go_loopw [13, 18, 20] (fun v x j wq => ∃ (m q : Nat) (z : Int), m ≤ T + 1 - k ∧ q = off T k + m ∧ z = ((q - 1 : Nat) : Int) ∧ j = .int .i64 ((k : Int) + m) ∧ x = .int .i64 z ∧ OwnNums wq WC.heap.size v (twL B (toFs ds) d T q) ∧ Below WC.heap.size WC wq) (fun _ _ j _ => T + 1 - (intOf j).toNat)
        case atStart => exact ⟨0, off T k, _, Nat.zero_le _, rfl, rfl, by simp, rfl, KO.out, BW.out⟩
        case round =>
          obtain ⟨m, q, z, hm, hq, hzq, rfl, rfl, hown, hbel⟩ := hrel
          clear KO BW
          have KO := Lib.hid hown
          have BW := Lib.hid hbel
          have hsz := hbel.size
          clear hown hbel
          by_cases hlt2 : k + m ≤ T
          · have hdj : decide ((k : Int) + (m : Int) ≤ (T : Int)) = true := by simp; omega
            have hpos := off_pos' T (by omega) k (by omega) m (by omega) hlt2
            by_cases hq0 : q = 0
            · subst hq0
              obtain rfl : z = 0 := by simpa using hzq
              have hkm0 : k + m = 0 := hpos.1 hq.symm
              obtain rfl : k = 0 := by omega
              obtain rfl : m = 0 := by omega
              have HQ := Lib.hid hq
              clear hq hzq hpos hkm0 hdj hdk
              go_wp2_with fail
              exact ⟨⟨1, 1, 0, by omega, by have := HQ.out; omega, rfl, by go_num, rfl, KO.out, BW.out⟩, by simp [intOf] <;> omega⟩
            · obtain ⟨a, rfl⟩ : ∃ a, q = a + 1 := ⟨q - 1, by omega⟩
              obtain rfl : z = (a : Int) := by simpa using hzq
              have hkmp : 0 < k + m := by
                rcases Nat.eq_zero_or_pos (k + m) with h | h
                · have := hpos.2 h; omega
                · exact h
              have hgt : decide ((k : Int) + ((k : Int) + (m : Int)) > 0) = true := by simp; omega
              have hql := off_lt' T (by omega) k (by omega) m (by omega) hlt2
              have hdl := HDL.out
              have hal : a < ds.length := by omega
              obtain ⟨A, c, hA, _, _, _, hu, hr⟩ := KD.out
              injection hA with hA1 hA2 hA3
              subst hA1 hA3
              clear hA2
              obtain ⟨b1, o1, x, rfl, hb1, hgx, hx64, hcx0⟩ := nums_at hr hu hal
              have hcx := (BW.out.cell (p := ⟨b1, o1 + a, none⟩) hb1).trans hcx0
              have hb1r : b1 < wr.heap.size := Nat.lt_of_lt_of_le hb1 hsz
              have hbs := hb1
              have HT2 := Lib.hid (twL_next B (toFs ds) d hT4 hlt2 hq.symm)
              have HX := Lib.hid (co_toFs hgx)
              have HLN := Lib.hid (show (twL B (toFs ds) d T (a + 1)).length ≤ 20 by rw [twL_length]; have := off_le' T (by omega); omega)
              have BD1 := Lib.hid (below_drewN (Below.refl wr.heap.size wr) 1)
              have KA1 := Lib.hid ((KA.out.below BW.out).below BD1.out)
              have HQ := Lib.hid hq
              have hw1 : IntKind.i64.wrap ((k : Int) + (m : Int)) = (k : Int) + (m : Int) := IntWalk.i64_in _ (by omega)
              clear hu hr hgx hb1 hcx0 hql hdl hq hzq hpos
              go_wp2_with fail
              go_region_held3 (fun w' => w'.cell? ⟨b1, o1 + a, none⟩ = some (.int .u64 x)) (go_keep) (first | (go_at_call 51; refine (rBlind_any _ zs _ _ KA1.out HP.out).mono ?_; rintro e wB1 ⟨rfl, hbB1⟩; have q0 := (hbB1.cell (p := ⟨b1, o1 + a, none⟩) hb1r).trans hcx) | (go_at_call 51; refine (rBlind_any _ zs _ _ (KA1.out.below hbB1) HP.out).mono ?_; rintro e wB2 ⟨rfl, hbB2⟩; have q1 := (hbB2.cell (p := ⟨b1, o1 + a, none⟩) (Nat.lt_of_lt_of_le hb1r hbB1.size)).trans q0) | (go_at_call 50; refine (rMul_any _ _ _ (U64.of_ofF _) (U64.of_ofF _)).mono ?_; rintro e w' ⟨rfl, rfl⟩; rw [toF_ofF, toF_ofF]) | (go_at_call 47; refine (rAdd_any _ _ _ hx64 (U64.of_ofF _)).mono ?_; rintro e w' ⟨rfl, rfl⟩; rw [toF_ofF]) | (refine step_push rfl _ _ (by rfl) WC.heap.size _ _ _ _ 1 (by rfl) (((KO.out.drewN 1).below hbB1 |>.below hbB2).alloc _) (by rfl) (new_cell _ _ _) (U64.of_ofF _) (by have := HLN.out; omega) (by rw [size_alloc]; have h1 := hbB1.size; have h2 := hbB2.size; have h3 : wr.heap.size ≤ (wr.drewN 1).heap.size := Nat.le_refl _; omega) ?_; intro bb cap w7 ho7 hb7; have q2 := (hb7.cell (p := ⟨b1, o1 + a, none⟩) hbs); rw [World.cell?_alloc_lt (a := ⟨b1, o1 + a, none⟩) (h := Nat.lt_of_lt_of_le (Nat.lt_of_lt_of_le hb1r hbB1.size) hbB2.size)] at q2; have q3 := q2.trans q1))
              all_goals
                have KO7 := Lib.hid (show OwnNums w7 WC.heap.size (.slice (some ⟨bb, 0, none⟩) ((twL B (toFs ds) d T (a + 1)).length + 1) cap) (twL B (toFs ds) d T (a + 2)) by
                  rw [HT2.out, HX.out]
                  rw [HB.out]
                  rw [HB.out] at ho7
                  exact ho7)
                have B7 := Lib.hid (((below_trans (below_trans (below_trans BW.out BD1.out hsz) hbB1 (by have := BD1.out.size; omega)) hbB2 (by have := hbB1.size; have := BD1.out.size; omega)).alloc (by have := hbB2.size; have := hbB1.size; have := BD1.out.size; omega) _).trans hb7)
                clear ho7 hb7 hbB1 hbB2 q0 q1 q2 q3 hcx hgt hw1 hdj hdk hkmp hb1r hbs h1T hx64
                go_wp2_with fail
                first
                  | exact ⟨⟨m + 1, a + 2, ((a + 1 : Nat) : Int), by omega, by have := HQ.out; omega, rfl, by go_num, by go_num, KO7.out, B7.out⟩, by simp [intOf] <;> omega⟩
                  | (refine ⟨⟨_, _, _, _, _, _, _, _, _, _, _, _, _, _, _, _, _, _, _, _, _, _, _, _, _, _, _, _, _, _, _, ?_, rfl⟩, ?_⟩
                     · exact ⟨m + 1, a + 2, ((a + 1 : Nat) : Int), by omega, by have := HQ.out; omega, rfl, by go_num, by go_num, KO7.out, B7.out⟩
                     · simp [intOf]; omega)
          · have hdj : decide ((k : Int) + (m : Int) ≤ (T : Int)) = false := by simp; omega
            have hme : m = T + 1 - k := by omega
            have hqe : q = off T (k + 1) := by rw [hq, off_next, hme]
            have HQE := Lib.hid hqe
            have HZQ := Lib.hid (show z = ((off T (k + 1) - 1 : Nat) : Int) by rw [hzq, hqe])
            clear hq hzq hme hqe
            rw [HQE.out] at KO
            rw [HZQ.out]
            go_wp2_with fail
            exact ⟨⟨k + 1, by omega, by go_num, rfl, KO.out, BW.out⟩, by simp [intOf] <;> omega⟩
      · obtain rfl : k = T + 1 := by omega
        have KW := Lib.hid KO.out.is
        have KA2 := Lib.hid (KA.out.below BW.out)
        have KD2 := Lib.hid (KD.out.below BW.out)
        have BEL2 := Lib.hid (below_trans BEL.out BW.out BEL.out.size)
        rw [HB.out] at KW
        clear KA KD BEL KO BW
        have KA := KA2
        have KD := KD2
        have BEL := BEL2
        clear KA2 KD2 BEL2
        obtain ⟨wl, hwl⟩ : ∃ wl, wl = wr := ⟨_, rfl⟩
        subst hwl
        go_wp2_with fail
        refine (hTwine_ok _ _ zs ds T frm to _ KA.out KD.out HP.out hT4 hmT HDN.out hf0 ht0).mono ?_
        rintro e WZ ⟨v1, rfl, ho, hb⟩
        rw [← HD.out] at ho
        try dsimp only
        replace BEL := Lib.hid (below_trans BEL.out hb BEL.out.size)
        have KWZ := Lib.hid (KW.out.below hb)
        have K1 := Lib.hid ho.is
        clear ho hb
        go_wp2_with fail
        refine (equal_any _ _ _ _ _ K1.out KWZ.out).mono ?_
        rintro e w' ⟨rfl, nd, rfl⟩
        rw [decide_eq_true rfl]
        try dsimp only
        go_wp2_with fail
        go_ret
        exact ⟨rfl, below_drewN BEL.out nd⟩
end Go.Proofs.Ytliegjpnjfmklaa
