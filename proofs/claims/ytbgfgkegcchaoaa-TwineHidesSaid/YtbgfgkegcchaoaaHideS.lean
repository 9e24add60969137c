/- Package hide's shift: what the call returns. -/
import Derived.Test.YtbgfgkegcchaoaaHideW
namespace Go.Proofs.Ytbgfgkegcchaoaa
open Go.RowKit Croft

theorem fillL_co (B : List F) {n j : Nat} (h : j < n) : (fillL (ofFs B) n)[j]? = some (ofF (co B j)) := by
  unfold fillL
  rcases Nat.lt_or_ge j B.length with h1 | h1
  · rw [List.getElem?_append_left (by simp [ofFs]; omega), List.getElem?_take, if_pos h]
    exact ofFs_get (get_co h1)
  · rw [List.getElem?_append_right (by simp [ofFs]; omega), List.getElem?_replicate, if_pos (by simp [ofFs]; omega), co_of_le h1, ofF_zero]
theorem shiftL_next (B D : List F) (d : F) {k : Nat} (h : k < D.length) : ofFs ((shiftL B D d).take (k + 1)) = ofFs ((shiftL B D d).take k) ++ [ofF (co D k + d * co B (k + 1))] := by
  rw [List.take_add_one, get_co (by rw [shiftL_length]; exact h), shiftL_co _ _ _ h]
  simp [ofFs]
theorem hShift_form (va vd : Value) (zs : List Int) (frm to : Int) (w : World) (h1 : IsInts w va zs) (hp : partyB zs = false) :
    Calls Try.prog 43 #[va, .int .u64 frm, .int .u64 to, vd] w fun e w' => ListRes w e w' [] 5 := by
  have KA := Lib.hid h1
  have HE := Lib.hid (show whoE zs = 5 by unfold whoE; rw [hp]; rfl)
  clear h1 hp
  go_enter Try.func43, Try.ntmps43
  go_wp2_with fail
  refine (hForm_any _ _ _ KA.out).mono ?_
  rintro e w' ⟨rfl, hb⟩
  rw [HE.out]
  have BEL := Lib.hid hb
  clear hb
  try dsimp only
  go_wp2_with fail
  go_ret2
  exact ⟨_, rfl, OwnNums.nil _ _, BEL.out⟩
theorem hShift_arg (va vd : Value) (zs ds : List Int) (frm to : Int) (w : World) (h1 : IsInts w va zs) (h2 : IsNums w vd ds) (hp : partyB zs = true) (hb : ¬ (ds.length ≤ 4 ∧ zs.length ≤ ds.length)) :
    Calls Try.prog 43 #[va, .int .u64 frm, .int .u64 to, vd] w fun e w' => ListRes w e w' [] 1 := by
  have KA := Lib.hid h1
  have HE := Lib.hid (show whoE zs = 0 by unfold whoE; rw [hp]; rfl)
  obtain ⟨A1, c1, rfl, hc1, hm1, hl1, hu1, hr1⟩ := h1
  obtain ⟨A2, c2, rfl, hc2, hm2, hl2, hu2, hr2⟩ := h2
  clear hp hu1 hr1 hm1 hu2 hr2 hm2
  by_cases h4 : (ds.length : Int) > 4
  · clear hb
    go_enter Try.func43, Try.ntmps43
    go_wp2_with fail
    refine (hForm_any _ _ _ KA.out).mono ?_
    rintro e w' ⟨rfl, hb⟩
    rw [HE.out]
    have BEL := Lib.hid hb
    clear hb
    try dsimp only
    go_wp2_with fail
    go_ret2
    exact ⟨_, rfl, OwnNums.nil _ _, BEL.out⟩
  · have hd1 : decide ((ds.length : Int) > 4) = false := by simpa using h4
    have hlt : (ds.length : Int) < zs.length := by omega
    clear hb
    go_enter Try.func43, Try.ntmps43
    go_wp2_with fail
    refine (hForm_any _ _ _ KA.out).mono ?_
    rintro e w' ⟨rfl, hb⟩
    rw [HE.out]
    have BEL := Lib.hid hb
    clear hb
    try dsimp only
    go_wp2_with fail
    go_ret2
    exact ⟨_, rfl, OwnNums.nil _ _, BEL.out⟩
set_option maxRecDepth 100000 in
set_option maxHeartbeats 1000000 in
theorem hShift_ok (va vd : Value) (zs ds : List Int) (frm to : Int) (w : World) (h1 : IsInts w va zs) (h2 : IsNums w vd ds) (hp : partyB zs = true) (hd : ds.length ≤ 4) (hz : zs.length ≤ ds.length) (hf : 0 ≤ frm) (ht : 0 ≤ to) :
    Calls Try.prog 43 #[va, .int .u64 frm, .int .u64 to, vd] w fun e w' => ListRes w e w' (ofFs (shiftL (blindP zs) (toFs ds) (toF to - toF frm))) 0 := by
  have KA := Lib.hid h1
  have KD := Lib.hid h2
  have HP := Lib.hid hp
  have HE := Lib.hid (show whoE zs = 0 by unfold whoE; rw [hp]; rfl)
  suffices hgoal : ∀ Post : Ending → World → Prop, (∀ e w', ListRes w e w' (ofFs (shiftL (blindP zs) (toFs ds) (toF to - toF frm))) 0 → Post e w') → Calls Try.prog 43 #[va, .int .u64 frm, .int .u64 to, vd] w Post from hgoal _ fun e w' h => h
  intro Post hpost
  have HPO := Lib.hid hpost
  obtain ⟨A1, c1, rfl, hc1, hm1, hl1, hu1, hr1⟩ := h1
  obtain ⟨A2, c2, rfl, hc2, hm2, hl2, hu2, hr2⟩ := h2
  have hd1 : decide ((ds.length : Int) > 4) = false := by simp; omega
  have hd2 : decide (ds.length < zs.length) = false := by simp; omega
  clear hp hu1 hr1 hm1 hu2 hr2 hm2 hpost
  go_enter Try.func43, Try.ntmps43
  go_wp2_with fail
  refine (hForm_any _ _ _ KA.out).mono ?_
  rintro e W1 ⟨rfl, hb⟩
  rw [HE.out]
  have BEL := Lib.hid hb
  have KA1 := Lib.hid (KA.out.below hb)
  have KD1 := Lib.hid (KD.out.below hb)
  clear hb KA KD
  try dsimp only
  go_wp2_with fail
  refine (hBlind_any _ zs (ds.length + 1) _ KA1.out HP.out (by omega)).mono ?_
  rintro e W2 ⟨vp, rfl, ho, hb⟩
  obtain ⟨gp, cp, hv, _, _⟩ := own_slice ho.1 (by rw [fillL_length]; omega)
  rw [fillL_length] at hv
  subst hv
  have KP := Lib.hid ho
  have KD2 := Lib.hid (KD1.out.below hb)
  have B2 := Lib.hid (below_trans BEL.out hb BEL.out.size)
  clear ho hb KA1 KD1 BEL
  try dsimp only
  go_wp2_with fail
  refine (fSub_any _ _ _ ht hf).mono ?_
  rintro e w' ⟨rfl, rfl⟩
  obtain ⟨d, hdd⟩ : ∃ d, d = toF to - toF frm := ⟨_, rfl⟩
  rw [← hdd]
  replace HPO := Lib.hid (show ∀ e w', ListRes w e w' (ofFs (shiftL (blindP zs) (toFs ds) d)) 0 → Post e w' from by rw [hdd]; exact HPO.out)
  clear hdd
  try dsimp only
  go_wp2_with fail
  obtain ⟨B, hB⟩ : ∃ B, B = blindP zs := ⟨_, rfl⟩
  rw [← hB] at KP HPO
  clear hB hd1 hd2
  go_loopw [13, 41] (fun v i wr => ∃ k : Nat, k ≤ ds.length ∧ i = .int .i64 k ∧ OwnNums wr W2.heap.size v (ofFs ((shiftL B (toFs ds) d).take k)) ∧ Below W2.heap.size W2 wr) (fun _ i _ => ds.length - (intOf i).toNat)
  case atStart => exact ⟨0, Nat.zero_le _, rfl, OwnNums.nil _ _, Below.refl _ _⟩
  case round =>
    obtain ⟨k, hk, rfl, hown, hbel⟩ := hrel
    have KO := Lib.hid hown
    have BEL := Lib.hid hbel
    have hsz := hbel.size
    clear hown hbel
    by_cases hlt : k < ds.length
    · obtain ⟨A, c, hA, _, _, _, hu, hr⟩ := KD2.out.below BEL.out
      injection hA with hA1 hA2 hA3
      subst hA1 hA3
      obtain ⟨b1, o1, x, rfl, hb1, hgk, hx64, hcx⟩ := nums_at hr hu hlt
      have hcp := (KP.out.below BEL.out).cell (fillL_co B (show k + 1 < ds.length + 1 by omega))
      have HT := Lib.hid (shiftL_next B (toFs ds) d (by rw [toFs_length]; exact hlt))
      have HX := Lib.hid (co_toFs hgk)
      have hx0 := hx64.1
      have HLN := Lib.hid (show (ofFs ((shiftL B (toFs ds) d).take k)).length ≤ 4 by rw [ofFs_length, List.length_take, shiftL_length, toFs_length]; omega)
      clear hu hr hgk hb1
      go_wp2_with fail
      refine (fMul_any _ _ _ (ofF_nonneg _) (ofF_nonneg _)).mono ?_
      rintro e w' ⟨rfl, rfl⟩
      rw [toF_ofF, toF_ofF]
      try dsimp only
      go_wp2_with fail
      refine (fAdd_any _ _ _ hx0 (ofF_nonneg _)).mono ?_
      rintro e w' ⟨rfl, rfl⟩
      rw [toF_ofF]
      try dsimp only
      go_wp2_with (at_builtin; go_loud (refine wpList_push rfl _ _ rfl W2.heap.size _ _ (ofF (toF x + d * co B (k + 1))) wr.heap.size 1 rfl (KO.out.alloc _) rfl (new_cell _ _ _) (U64.of_ofF _) (by have := HLN.out; omega) (by rw [size_alloc]; omega) ?_))
      intro v' w5 hown' hbel'
      have K5 := Lib.hid (show OwnNums w5 W2.heap.size v' (ofFs ((shiftL B (toFs ds) d).take (k + 1))) by rw [HT.out, HX.out]; exact hown')
      have B5 := Lib.hid ((BEL.out.alloc hsz (.cells #[.int .u64 (ofF (toF x + d * co B (k + 1)))] 31)).trans hbel')
      clear hown' hbel'
      go_wp2_with fail
      exact ⟨⟨k + 1, by omega, by go_num, K5.out, B5.out⟩, by simp [intOf] <;> omega⟩
    · obtain rfl : k = ds.length := by omega
      have HTE := Lib.hid (show (shiftL B (toFs ds) d).take ds.length = shiftL B (toFs ds) d from List.take_of_length_le (by rw [shiftL_length, toFs_length]; exact Nat.le_refl _))
      rw [HTE.out] at KO
      go_wp2_with fail
      exact HPO.out _ _ ⟨_, rfl, KO.out.less B2.out.size, below_trans B2.out BEL.out B2.out.size⟩
end Go.Proofs.Ytbgfgkegcchaoaa
