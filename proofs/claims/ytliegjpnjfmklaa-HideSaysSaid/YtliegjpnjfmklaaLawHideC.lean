/- The law HideSays, walked: part C. -/
import Derived.Test.YtliegjpnjfmklaaHideL
namespace Go.Proofs.Ytliegjpnjfmklaa
open Go.RowKit Croft

set_option maxRecDepth 100000 in
set_option maxHeartbeats 4000000 in
theorem hideSays_ok_out (t : Int) (frm to : Int) (va vd : Value) (zs ds : List Int) (w : World) (hf : U64 frm) (hto : U64 to) (h1 : IsInts w va zs) (h2 : IsNums w vd ds) (hp : partyB zs = true) (hd : ds.length ≤ 4) (hz : zs.length ≤ ds.length) (ht : ¬ (0 ≤ t ∧ t ≤ 4)) :
    Calls Try.prog 8 #[va, .int .i64 t, .int .u64 frm, .int .u64 to, vd] w fun e w' => e = .returned (.bool true) ∧ Below w.heap.size w w' := by
  have hf0 := hf.1
  have ht0 := hto.1
  have KA := Lib.hid h1
  have KD := Lib.hid h2
  have HP := Lib.hid hp
  have BEL := Lib.hid (Below.refl w.heap.size w)
  obtain ⟨A1, c1, rfl, hc1, hm1_, hl1, hu1, hr1⟩ := h1
  obtain ⟨A2, c2, rfl, hc2, hm2_, hl2, hu2, hr2⟩ := h2
  clear hu1 hr1 hm1_ hu2 hr2 hm2_ hp
  have hd1 : decide ((ds.length : Int) > 4) = false := by simp; omega
  have hd2 : decide (ds.length < zs.length) = false := by simp; omega
  have HIN := Lib.hid (show decide (0 ≤ t ∧ t ≤ 4) = false from decide_eq_false ht)
  have HTA := Lib.hid (show ¬ ((0 ≤ t ∧ t ≤ 4) ∧ (zs.length : Int) ≤ t ∧ (ds.length : Int) = needN t) from fun h => ht h.1)
  clear ht
  go_enter Try.func8, Try.ntmps8
  go_wp2_with fail
  refine (rNeg_any _ _ hf).mono ?_
  rintro e w' ⟨rfl, rfl⟩
  try dsimp only
  go_wp2_with fail
  refine (rAdd_any _ _ _ hto (U64.of_ofF _)).mono ?_
  rintro e w' ⟨rfl, rfl⟩
  rw [toF_ofF, F_addneg]
  obtain ⟨d, hdd⟩ : ∃ d, d = toF to - toF frm := ⟨_, rfl⟩
  rw [← hdd]
  have HD := Lib.hid hdd
  clear hdd
  try dsimp only
  go_wp2_with fail
  refine (rWho_any _ _ _ KA.out).mono ?_
  rintro e w' ⟨rfl, nd, rfl⟩
  rw [HP.out]
  try dsimp only
  have hb := below_drewN (Below.refl w.heap.size w) nd
  replace KA := Lib.hid (KA.out.below hb)
  replace KD := Lib.hid (KD.out.below hb)
  replace BEL := Lib.hid (below_trans BEL.out hb BEL.out.size)
  clear hb
  generalize hW : w.drewN nd = W1 at *
  clear hW
  go_wp2_with fail
  clear hd1 hd2
  obtain ⟨WB, hWB⟩ : ∃ WB, WB = W1 := ⟨_, rfl⟩
  rw [← hWB] at KA KD BEL ⊢
  clear hWB
  obtain ⟨S, hS⟩ : ∃ S, S = shiftL (blindP zs) (toFs ds) d := ⟨_, rfl⟩
  have HS := Lib.hid hS
  have HSL := Lib.hid (show S.length = ds.length by rw [hS, shiftL_length, toFs_length])
  clear hS
  go_loopw [13, 27] (fun v i wr => ∃ k : Nat, k ≤ ds.length ∧ i = .int .i64 k ∧ OwnNums wr WB.heap.size v (ofFs (S.take k)) ∧ Below WB.heap.size WB wr) (fun _ i _ => ds.length - (intOf i).toNat)
  case atStart => exact ⟨0, Nat.zero_le _, rfl, OwnNums.nil _ _, Below.refl _ _⟩
  case round =>
    obtain ⟨k, hk, rfl, hown, hbel⟩ := hrel
    have KO := Lib.hid hown
    have BW := Lib.hid hbel
    have hsz := hbel.size
    clear hown hbel
    by_cases hlt : k < ds.length
    · obtain ⟨A, c, hA, _, _, _, hu, hr⟩ := KD.out.below BW.out
      injection hA with hA1 hA2 hA3
      subst hA1 hA3
      clear hA2
      obtain ⟨b1, o1, x, rfl, hb1, hgk, hx64, hcx⟩ := nums_at hr hu hlt
      have HX := Lib.hid (co_toFs hgk)
      have KAr := Lib.hid (KA.out.below BW.out)
      have hx0 := hx64.1
      have HLN := Lib.hid (show (ofFs (S.take k)).length ≤ 4 by rw [ofFs_length, List.length_take]; omega)
      have HT := Lib.hid (show ofFs (S.take (k + 1)) = ofFs (S.take k) ++ [ofF (toF x + d * co (blindP zs) (k + 1))] by
        rw [HS.out, shiftL_next _ _ _ (by rw [toFs_length]; exact hlt), co_toFs hgk])
      clear hu hr hgk hb1
      go_wp2_with fail
      refine (rBlind_any _ zs (k + 1) _ KAr.out HP.out).mono ?_
      rintro e w6 ⟨rfl, hb6⟩
      have KO6 := Lib.hid (KO.out.below hb6)
      have B6 := Lib.hid (below_trans BW.out hb6 hsz)
      have hsz6 := B6.out.size
      clear hb6 hcx
      try dsimp only
      go_wp2_with fail
      refine (rMul_any _ _ _ (U64.of_ofF _) (U64.of_ofF _)).mono ?_
      rintro e w' ⟨rfl, rfl⟩
      rw [toF_ofF, toF_ofF]
      try dsimp only
      go_wp2_with fail
      refine (rAdd_any _ _ _ hx64 (U64.of_ofF _)).mono ?_
      rintro e w' ⟨rfl, rfl⟩
      rw [toF_ofF]
      try dsimp only
      go_wp2_with (at_builtin; go_loud (refine wpList_push rfl _ _ rfl WB.heap.size _ _ (ofF (toF x + d * co (blindP zs) (k + 1))) w6.heap.size 1 rfl (KO6.out.alloc _) rfl (new_cell _ _ _) (U64.of_ofF _) (by have := HLN.out; omega) (by rw [size_alloc]; omega) ?_))
      intro v' w5 hown' hbel'
      have K5 := Lib.hid (show OwnNums w5 WB.heap.size v' (ofFs (S.take (k + 1))) by rw [HT.out]; exact hown')
      have B5 := Lib.hid ((B6.out.alloc hsz6 (.cells #[.int .u64 (ofF (toF x + d * co (blindP zs) (k + 1)))] 40)).trans hbel')
      clear hown' hbel'
      go_wp2_with fail
      exact ⟨⟨k + 1, by omega, by go_num, K5.out, B5.out⟩, by simp [intOf] <;> omega⟩
    · obtain rfl : k = ds.length := by omega
      have HTE := Lib.hid (show S.take ds.length = S from List.take_of_length_le (by rw [HSL.out]; exact Nat.le_refl _))
      rw [HTE.out] at KO
      have KW := Lib.hid KO.out.is
      have KA2 := Lib.hid (KA.out.below BW.out)
      have KD2 := Lib.hid (KD.out.below BW.out)
      have BEL2 := Lib.hid (below_trans BEL.out BW.out BEL.out.size)
      rw [HS.out] at KW
      clear KA KD BEL KO BW hsz
      have KA := KA2
      have KD := KD2
      have BEL := BEL2
      clear KA2 KD2 BEL2
      obtain ⟨wl, hwl⟩ : ∃ wl, wl = wr := ⟨_, rfl⟩
      subst hwl
      go_wp2_with fail
      refine (hShift_ok _ _ zs ds frm to _ KA.out KD.out HP.out hd hz hf0 ht0).mono ?_
      rintro e W2 ⟨v1, rfl, ho, hb⟩
      rw [← HD.out] at ho
      try dsimp only
      replace KA := Lib.hid (KA.out.below hb)
      replace KD := Lib.hid (KD.out.below hb)
      replace KW := Lib.hid (KW.out.below hb)
      replace BEL := Lib.hid (below_trans BEL.out hb BEL.out.size)
      have K1 := Lib.hid ho.is
      clear ho hb
      go_wp2_with fail
      refine (equal_any _ _ _ _ _ K1.out KW.out).mono ?_
      rintro e w' ⟨rfl, nd, rfl⟩
      rw [decide_eq_true rfl]
      try dsimp only
      clear K1 KW
      have hb := below_drewN (Below.refl W2.heap.size W2) nd
      replace KA := Lib.hid (KA.out.below hb)
      replace KD := Lib.hid (KD.out.below hb)
      replace BEL := Lib.hid (below_trans BEL.out hb BEL.out.size)
      clear hb
      generalize hW : W2.drewN nd = W3 at *
      clear hW
      go_wp2_with fail
      refine (rWho_any _ _ _ KA.out).mono ?_
      rintro e w' ⟨rfl, nd, rfl⟩
      rw [HP.out]
      try dsimp only
      have hb := below_drewN (Below.refl W3.heap.size W3) nd
      replace KA := Lib.hid (KA.out.below hb)
      replace KD := Lib.hid (KD.out.below hb)
      replace BEL := Lib.hid (below_trans BEL.out hb BEL.out.size)
      clear hb
      generalize hW : W3.drewN nd = W4 at *
      clear hW
      go_wp2_with fail
      refine (rIn_any _ _ _ _).mono ?_
      rintro e w' ⟨rfl, rfl⟩
      rw [HIN.out]
      try dsimp only
      go_wp2_with fail
      refine (hTwine_arg _ _ zs ds t frm to _ KA.out KD.out HP.out HTA.out).mono ?_
      rintro e W5 ⟨v1, rfl, ho, hb⟩
      try dsimp only
      replace KA := Lib.hid (KA.out.below hb)
      replace KD := Lib.hid (KD.out.below hb)
      replace BEL := Lib.hid (below_trans BEL.out hb BEL.out.size)
      have K1 := Lib.hid ho.is
      clear ho hb
      have KW := Lib.hid (IsNums.nil W5)
      go_wp2_with fail
      refine (equal_any _ _ _ _ _ K1.out KW.out).mono ?_
      rintro e w' ⟨rfl, nd, rfl⟩
      rw [decide_eq_true rfl]
      try dsimp only
      clear K1 KW
      have hb := below_drewN (Below.refl W5.heap.size W5) nd
      replace KA := Lib.hid (KA.out.below hb)
      replace KD := Lib.hid (KD.out.below hb)
      replace BEL := Lib.hid (below_trans BEL.out hb BEL.out.size)
      clear hb
      generalize hW : W5.drewN nd = W6 at *
      clear hW
      go_wp2_with fail
      go_ret
      exact ⟨rfl, BEL.out⟩
set_option maxRecDepth 100000 in
set_option maxHeartbeats 4000000 in
theorem hideSays_ok_many (t : Int) (frm to : Int) (va vd : Value) (zs ds : List Int) (w : World) (hf : U64 frm) (hto : U64 to) (h1 : IsInts w va zs) (h2 : IsNums w vd ds) (hp : partyB zs = true) (hd : ds.length ≤ 4) (hz : zs.length ≤ ds.length) (ht : 0 ≤ t ∧ t ≤ 4) (hm : (zs.length : Int) > t) :
    Calls Try.prog 8 #[va, .int .i64 t, .int .u64 frm, .int .u64 to, vd] w fun e w' => e = .returned (.bool true) ∧ Below w.heap.size w w' := by
  have hf0 := hf.1
  have ht0 := hto.1
  have KA := Lib.hid h1
  have KD := Lib.hid h2
  have HP := Lib.hid hp
  have BEL := Lib.hid (Below.refl w.heap.size w)
  obtain ⟨A1, c1, rfl, hc1, hm1_, hl1, hu1, hr1⟩ := h1
  obtain ⟨A2, c2, rfl, hc2, hm2_, hl2, hu2, hr2⟩ := h2
  clear hu1 hr1 hm1_ hu2 hr2 hm2_ hp
  have hd1 : decide ((ds.length : Int) > 4) = false := by simp; omega
  have hd2 : decide (ds.length < zs.length) = false := by simp; omega
  have HIN := Lib.hid (show decide (0 ≤ t ∧ t ≤ 4) = true from decide_eq_true ht)
  have hm1 : decide ((zs.length : Int) > t) = true := by simpa using hm
  have HTA := Lib.hid (show ¬ ((0 ≤ t ∧ t ≤ 4) ∧ (zs.length : Int) ≤ t ∧ (ds.length : Int) = needN t) from fun h => by omega)
  clear ht hm
  go_enter Try.func8, Try.ntmps8
  go_wp2_with fail
  refine (rNeg_any _ _ hf).mono ?_
  rintro e w' ⟨rfl, rfl⟩
  try dsimp only
  go_wp2_with fail
  refine (rAdd_any _ _ _ hto (U64.of_ofF _)).mono ?_
  rintro e w' ⟨rfl, rfl⟩
  rw [toF_ofF, F_addneg]
  obtain ⟨d, hdd⟩ : ∃ d, d = toF to - toF frm := ⟨_, rfl⟩
  rw [← hdd]
  have HD := Lib.hid hdd
  clear hdd
  try dsimp only
  go_wp2_with fail
  refine (rWho_any _ _ _ KA.out).mono ?_
  rintro e w' ⟨rfl, nd, rfl⟩
  rw [HP.out]
  try dsimp only
  have hb := below_drewN (Below.refl w.heap.size w) nd
  replace KA := Lib.hid (KA.out.below hb)
  replace KD := Lib.hid (KD.out.below hb)
  replace BEL := Lib.hid (below_trans BEL.out hb BEL.out.size)
  clear hb
  generalize hW : w.drewN nd = W1 at *
  clear hW
  go_wp2_with fail
  clear hd1 hd2
  obtain ⟨WB, hWB⟩ : ∃ WB, WB = W1 := ⟨_, rfl⟩
  rw [← hWB] at KA KD BEL ⊢
  clear hWB
  obtain ⟨S, hS⟩ : ∃ S, S = shiftL (blindP zs) (toFs ds) d := ⟨_, rfl⟩
  have HS := Lib.hid hS
  have HSL := Lib.hid (show S.length = ds.length by rw [hS, shiftL_length, toFs_length])
  clear hS
  go_loopw [13, 27] (fun v i wr => ∃ k : Nat, k ≤ ds.length ∧ i = .int .i64 k ∧ OwnNums wr WB.heap.size v (ofFs (S.take k)) ∧ Below WB.heap.size WB wr) (fun _ i _ => ds.length - (intOf i).toNat)
  case atStart => exact ⟨0, Nat.zero_le _, rfl, OwnNums.nil _ _, Below.refl _ _⟩
  case round =>
    obtain ⟨k, hk, rfl, hown, hbel⟩ := hrel
    have KO := Lib.hid hown
    have BW := Lib.hid hbel
    have hsz := hbel.size
    clear hown hbel
    by_cases hlt : k < ds.length
    · obtain ⟨A, c, hA, _, _, _, hu, hr⟩ := KD.out.below BW.out
      injection hA with hA1 hA2 hA3
      subst hA1 hA3
      clear hA2
      obtain ⟨b1, o1, x, rfl, hb1, hgk, hx64, hcx⟩ := nums_at hr hu hlt
      have HX := Lib.hid (co_toFs hgk)
      have KAr := Lib.hid (KA.out.below BW.out)
      have hx0 := hx64.1
      have HLN := Lib.hid (show (ofFs (S.take k)).length ≤ 4 by rw [ofFs_length, List.length_take]; omega)
      have HT := Lib.hid (show ofFs (S.take (k + 1)) = ofFs (S.take k) ++ [ofF (toF x + d * co (blindP zs) (k + 1))] by
        rw [HS.out, shiftL_next _ _ _ (by rw [toFs_length]; exact hlt), co_toFs hgk])
      clear hu hr hgk hb1
      go_wp2_with fail
      refine (rBlind_any _ zs (k + 1) _ KAr.out HP.out).mono ?_
      rintro e w6 ⟨rfl, hb6⟩
      have KO6 := Lib.hid (KO.out.below hb6)
      have B6 := Lib.hid (below_trans BW.out hb6 hsz)
      have hsz6 := B6.out.size
      clear hb6 hcx
      try dsimp only
      go_wp2_with fail
      refine (rMul_any _ _ _ (U64.of_ofF _) (U64.of_ofF _)).mono ?_
      rintro e w' ⟨rfl, rfl⟩
      rw [toF_ofF, toF_ofF]
      try dsimp only
      go_wp2_with fail
      refine (rAdd_any _ _ _ hx64 (U64.of_ofF _)).mono ?_
      rintro e w' ⟨rfl, rfl⟩
      rw [toF_ofF]
      try dsimp only
      go_wp2_with (at_builtin; go_loud (refine wpList_push rfl _ _ rfl WB.heap.size _ _ (ofF (toF x + d * co (blindP zs) (k + 1))) w6.heap.size 1 rfl (KO6.out.alloc _) rfl (new_cell _ _ _) (U64.of_ofF _) (by have := HLN.out; omega) (by rw [size_alloc]; omega) ?_))
      intro v' w5 hown' hbel'
      have K5 := Lib.hid (show OwnNums w5 WB.heap.size v' (ofFs (S.take (k + 1))) by rw [HT.out]; exact hown')
      have B5 := Lib.hid ((B6.out.alloc hsz6 (.cells #[.int .u64 (ofF (toF x + d * co (blindP zs) (k + 1)))] 40)).trans hbel')
      clear hown' hbel'
      go_wp2_with fail
      exact ⟨⟨k + 1, by omega, by go_num, K5.out, B5.out⟩, by simp [intOf] <;> omega⟩
    · obtain rfl : k = ds.length := by omega
      have HTE := Lib.hid (show S.take ds.length = S from List.take_of_length_le (by rw [HSL.out]; exact Nat.le_refl _))
      rw [HTE.out] at KO
      have KW := Lib.hid KO.out.is
      have KA2 := Lib.hid (KA.out.below BW.out)
      have KD2 := Lib.hid (KD.out.below BW.out)
      have BEL2 := Lib.hid (below_trans BEL.out BW.out BEL.out.size)
      rw [HS.out] at KW
      clear KA KD BEL KO BW hsz
      have KA := KA2
      have KD := KD2
      have BEL := BEL2
      clear KA2 KD2 BEL2
      obtain ⟨wl, hwl⟩ : ∃ wl, wl = wr := ⟨_, rfl⟩
      subst hwl
      go_wp2_with fail
      refine (hShift_ok _ _ zs ds frm to _ KA.out KD.out HP.out hd hz hf0 ht0).mono ?_
      rintro e W2 ⟨v1, rfl, ho, hb⟩
      rw [← HD.out] at ho
      try dsimp only
      replace KA := Lib.hid (KA.out.below hb)
      replace KD := Lib.hid (KD.out.below hb)
      replace KW := Lib.hid (KW.out.below hb)
      replace BEL := Lib.hid (below_trans BEL.out hb BEL.out.size)
      have K1 := Lib.hid ho.is
      clear ho hb
      go_wp2_with fail
      refine (equal_any _ _ _ _ _ K1.out KW.out).mono ?_
      rintro e w' ⟨rfl, nd, rfl⟩
      rw [decide_eq_true rfl]
      try dsimp only
      clear K1 KW
      have hb := below_drewN (Below.refl W2.heap.size W2) nd
      replace KA := Lib.hid (KA.out.below hb)
      replace KD := Lib.hid (KD.out.below hb)
      replace BEL := Lib.hid (below_trans BEL.out hb BEL.out.size)
      clear hb
      generalize hW : W2.drewN nd = W3 at *
      clear hW
      go_wp2_with fail
      refine (rWho_any _ _ _ KA.out).mono ?_
      rintro e w' ⟨rfl, nd, rfl⟩
      rw [HP.out]
      try dsimp only
      have hb := below_drewN (Below.refl W3.heap.size W3) nd
      replace KA := Lib.hid (KA.out.below hb)
      replace KD := Lib.hid (KD.out.below hb)
      replace BEL := Lib.hid (below_trans BEL.out hb BEL.out.size)
      clear hb
      generalize hW : W3.drewN nd = W4 at *
      clear hW
      go_wp2_with fail
      refine (rIn_any _ _ _ _).mono ?_
      rintro e w' ⟨rfl, rfl⟩
      rw [HIN.out]
      try dsimp only
      go_wp2_with fail
      refine (hTwine_arg _ _ zs ds t frm to _ KA.out KD.out HP.out HTA.out).mono ?_
      rintro e W5 ⟨v1, rfl, ho, hb⟩
      try dsimp only
      replace KA := Lib.hid (KA.out.below hb)
      replace KD := Lib.hid (KD.out.below hb)
      replace BEL := Lib.hid (below_trans BEL.out hb BEL.out.size)
      have K1 := Lib.hid ho.is
      clear ho hb
      have KW := Lib.hid (IsNums.nil W5)
      go_wp2_with fail
      refine (equal_any _ _ _ _ _ K1.out KW.out).mono ?_
      rintro e w' ⟨rfl, nd, rfl⟩
      rw [decide_eq_true rfl]
      try dsimp only
      clear K1 KW
      have hb := below_drewN (Below.refl W5.heap.size W5) nd
      replace KA := Lib.hid (KA.out.below hb)
      replace KD := Lib.hid (KD.out.below hb)
      replace BEL := Lib.hid (below_trans BEL.out hb BEL.out.size)
      clear hb
      generalize hW : W5.drewN nd = W6 at *
      clear hW
      go_wp2_with fail
      go_ret
      exact ⟨rfl, BEL.out⟩
set_option maxRecDepth 100000 in
set_option maxHeartbeats 4000000 in
theorem hideSays_ok_draws (t : Int) (frm to : Int) (va vd : Value) (zs ds : List Int) (w : World) (hf : U64 frm) (hto : U64 to) (h1 : IsInts w va zs) (h2 : IsNums w vd ds) (hp : partyB zs = true) (hd : ds.length ≤ 4) (hz : zs.length ≤ ds.length) (ht : 0 ≤ t ∧ t ≤ 4) (hm : (zs.length : Int) ≤ t) (hn : (ds.length : Int) ≠ needN t) :
    Calls Try.prog 8 #[va, .int .i64 t, .int .u64 frm, .int .u64 to, vd] w fun e w' => e = .returned (.bool true) ∧ Below w.heap.size w w' := by
  have hf0 := hf.1
  have ht0 := hto.1
  have KA := Lib.hid h1
  have KD := Lib.hid h2
  have HP := Lib.hid hp
  have BEL := Lib.hid (Below.refl w.heap.size w)
  obtain ⟨A1, c1, rfl, hc1, hm1_, hl1, hu1, hr1⟩ := h1
  obtain ⟨A2, c2, rfl, hc2, hm2_, hl2, hu2, hr2⟩ := h2
  clear hu1 hr1 hm1_ hu2 hr2 hm2_ hp
  have hd1 : decide ((ds.length : Int) > 4) = false := by simp; omega
  have hd2 : decide (ds.length < zs.length) = false := by simp; omega
  have HIN := Lib.hid (show decide (0 ≤ t ∧ t ≤ 4) = true from decide_eq_true ht)
  have hm1 : decide ((zs.length : Int) > t) = false := by simp; omega
  have hn1 : ((ds.length : Int) != needN t) = true := by rw [bne_iff_ne]; exact hn
  have hmn : min t 4 = t := by omega
  have hmx : max 0 t = t := by omega
  have HT := Lib.hid ht
  have HTA := Lib.hid (show ¬ ((0 ≤ t ∧ t ≤ 4) ∧ (zs.length : Int) ≤ t ∧ (ds.length : Int) = needN t) from fun h => hn h.2.2)
  clear ht hm hn
  go_enter Try.func8, Try.ntmps8
  go_wp2_with fail
  refine (rNeg_any _ _ hf).mono ?_
  rintro e w' ⟨rfl, rfl⟩
  try dsimp only
  go_wp2_with fail
  refine (rAdd_any _ _ _ hto (U64.of_ofF _)).mono ?_
  rintro e w' ⟨rfl, rfl⟩
  rw [toF_ofF, F_addneg]
  obtain ⟨d, hdd⟩ : ∃ d, d = toF to - toF frm := ⟨_, rfl⟩
  rw [← hdd]
  have HD := Lib.hid hdd
  clear hdd
  try dsimp only
  go_wp2_with fail
  refine (rWho_any _ _ _ KA.out).mono ?_
  rintro e w' ⟨rfl, nd, rfl⟩
  rw [HP.out]
  try dsimp only
  have hb := below_drewN (Below.refl w.heap.size w) nd
  replace KA := Lib.hid (KA.out.below hb)
  replace KD := Lib.hid (KD.out.below hb)
  replace BEL := Lib.hid (below_trans BEL.out hb BEL.out.size)
  clear hb
  generalize hW : w.drewN nd = W1 at *
  clear hW
  go_wp2_with fail
  clear hd1 hd2
  obtain ⟨WB, hWB⟩ : ∃ WB, WB = W1 := ⟨_, rfl⟩
  rw [← hWB] at KA KD BEL ⊢
  clear hWB
  obtain ⟨S, hS⟩ : ∃ S, S = shiftL (blindP zs) (toFs ds) d := ⟨_, rfl⟩
  have HS := Lib.hid hS
  have HSL := Lib.hid (show S.length = ds.length by rw [hS, shiftL_length, toFs_length])
  clear hS
  go_loopw [13, 27] (fun v i wr => ∃ k : Nat, k ≤ ds.length ∧ i = .int .i64 k ∧ OwnNums wr WB.heap.size v (ofFs (S.take k)) ∧ Below WB.heap.size WB wr) (fun _ i _ => ds.length - (intOf i).toNat)
  case atStart => exact ⟨0, Nat.zero_le _, rfl, OwnNums.nil _ _, Below.refl _ _⟩
  case round =>
    obtain ⟨k, hk, rfl, hown, hbel⟩ := hrel
    have KO := Lib.hid hown
    have BW := Lib.hid hbel
    have hsz := hbel.size
    clear hown hbel
    by_cases hlt : k < ds.length
    · obtain ⟨A, c, hA, _, _, _, hu, hr⟩ := KD.out.below BW.out
      injection hA with hA1 hA2 hA3
      subst hA1 hA3
      clear hA2
      obtain ⟨b1, o1, x, rfl, hb1, hgk, hx64, hcx⟩ := nums_at hr hu hlt
      have HX := Lib.hid (co_toFs hgk)
      have KAr := Lib.hid (KA.out.below BW.out)
      have hx0 := hx64.1
      have HLN := Lib.hid (show (ofFs (S.take k)).length ≤ 4 by rw [ofFs_length, List.length_take]; omega)
      have HT := Lib.hid (show ofFs (S.take (k + 1)) = ofFs (S.take k) ++ [ofF (toF x + d * co (blindP zs) (k + 1))] by
        rw [HS.out, shiftL_next _ _ _ (by rw [toFs_length]; exact hlt), co_toFs hgk])
      clear hu hr hgk hb1
      go_wp2_with fail
      refine (rBlind_any _ zs (k + 1) _ KAr.out HP.out).mono ?_
      rintro e w6 ⟨rfl, hb6⟩
      have KO6 := Lib.hid (KO.out.below hb6)
      have B6 := Lib.hid (below_trans BW.out hb6 hsz)
      have hsz6 := B6.out.size
      clear hb6 hcx
      try dsimp only
      go_wp2_with fail
      refine (rMul_any _ _ _ (U64.of_ofF _) (U64.of_ofF _)).mono ?_
      rintro e w' ⟨rfl, rfl⟩
      rw [toF_ofF, toF_ofF]
      try dsimp only
      go_wp2_with fail
      refine (rAdd_any _ _ _ hx64 (U64.of_ofF _)).mono ?_
      rintro e w' ⟨rfl, rfl⟩
      rw [toF_ofF]
      try dsimp only
      go_wp2_with (at_builtin; go_loud (refine wpList_push rfl _ _ rfl WB.heap.size _ _ (ofF (toF x + d * co (blindP zs) (k + 1))) w6.heap.size 1 rfl (KO6.out.alloc _) rfl (new_cell _ _ _) (U64.of_ofF _) (by have := HLN.out; omega) (by rw [size_alloc]; omega) ?_))
      intro v' w5 hown' hbel'
      have K5 := Lib.hid (show OwnNums w5 WB.heap.size v' (ofFs (S.take (k + 1))) by rw [HT.out]; exact hown')
      have B5 := Lib.hid ((B6.out.alloc hsz6 (.cells #[.int .u64 (ofF (toF x + d * co (blindP zs) (k + 1)))] 40)).trans hbel')
      clear hown' hbel'
      go_wp2_with fail
      exact ⟨⟨k + 1, by omega, by go_num, K5.out, B5.out⟩, by simp [intOf] <;> omega⟩
    · obtain rfl : k = ds.length := by omega
      have HTE := Lib.hid (show S.take ds.length = S from List.take_of_length_le (by rw [HSL.out]; exact Nat.le_refl _))
      rw [HTE.out] at KO
      have KW := Lib.hid KO.out.is
      have KA2 := Lib.hid (KA.out.below BW.out)
      have KD2 := Lib.hid (KD.out.below BW.out)
      have BEL2 := Lib.hid (below_trans BEL.out BW.out BEL.out.size)
      rw [HS.out] at KW
      clear KA KD BEL KO BW hsz
      have KA := KA2
      have KD := KD2
      have BEL := BEL2
      clear KA2 KD2 BEL2
      obtain ⟨wl, hwl⟩ : ∃ wl, wl = wr := ⟨_, rfl⟩
      subst hwl
      go_wp2_with fail
      refine (hShift_ok _ _ zs ds frm to _ KA.out KD.out HP.out hd hz hf0 ht0).mono ?_
      rintro e W2 ⟨v1, rfl, ho, hb⟩
      rw [← HD.out] at ho
      try dsimp only
      replace KA := Lib.hid (KA.out.below hb)
      replace KD := Lib.hid (KD.out.below hb)
      replace KW := Lib.hid (KW.out.below hb)
      replace BEL := Lib.hid (below_trans BEL.out hb BEL.out.size)
      have K1 := Lib.hid ho.is
      clear ho hb
      go_wp2_with fail
      refine (equal_any _ _ _ _ _ K1.out KW.out).mono ?_
      rintro e w' ⟨rfl, nd, rfl⟩
      rw [decide_eq_true rfl]
      try dsimp only
      clear K1 KW
      have hb := below_drewN (Below.refl W2.heap.size W2) nd
      replace KA := Lib.hid (KA.out.below hb)
      replace KD := Lib.hid (KD.out.below hb)
      replace BEL := Lib.hid (below_trans BEL.out hb BEL.out.size)
      clear hb
      generalize hW : W2.drewN nd = W3 at *
      clear hW
      go_wp2_with fail
      refine (rWho_any _ _ _ KA.out).mono ?_
      rintro e w' ⟨rfl, nd, rfl⟩
      rw [HP.out]
      try dsimp only
      have hb := below_drewN (Below.refl W3.heap.size W3) nd
      replace KA := Lib.hid (KA.out.below hb)
      replace KD := Lib.hid (KD.out.below hb)
      replace BEL := Lib.hid (below_trans BEL.out hb BEL.out.size)
      clear hb
      generalize hW : W3.drewN nd = W4 at *
      clear hW
      go_wp2_with fail
      refine (rIn_any _ _ _ _).mono ?_
      rintro e w' ⟨rfl, rfl⟩
      rw [HIN.out]
      try dsimp only
      go_wp2_with fail
      all_goals
        have hTT := HT.out
        refine (rTwoNeed_ok _ _ (by omega)).mono ?_
        rintro e w' ⟨rfl, rfl⟩
        try rw [show needN 0 = needN t from by congr 1; omega]
        clear hTT
        try dsimp only
        go_wp2_with fail
        refine (hTwine_arg _ _ zs ds t frm to _ KA.out KD.out HP.out HTA.out).mono ?_
        rintro e W5 ⟨v1, rfl, ho, hb⟩
        try dsimp only
        replace KA := Lib.hid (KA.out.below hb)
        replace KD := Lib.hid (KD.out.below hb)
        replace BEL := Lib.hid (below_trans BEL.out hb BEL.out.size)
        have K1 := Lib.hid ho.is
        clear ho hb
        have KW := Lib.hid (IsNums.nil W5)
        go_wp2_with fail
        refine (equal_any _ _ _ _ _ K1.out KW.out).mono ?_
        rintro e w' ⟨rfl, nd, rfl⟩
        rw [decide_eq_true rfl]
        try dsimp only
        clear K1 KW
        have hb := below_drewN (Below.refl W5.heap.size W5) nd
        replace KA := Lib.hid (KA.out.below hb)
        replace KD := Lib.hid (KD.out.below hb)
        replace BEL := Lib.hid (below_trans BEL.out hb BEL.out.size)
        clear hb
        generalize hW : W5.drewN nd = W6 at *
        clear hW
        go_wp2_with fail
        go_ret
        exact ⟨rfl, BEL.out⟩
end Go.Proofs.Ytliegjpnjfmklaa
