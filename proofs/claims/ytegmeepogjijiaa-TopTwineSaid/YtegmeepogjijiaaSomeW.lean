/- Package hide's shift: what the call returns. -/
import Derived.Test.YtegmeepogjijiaaHideW
import Derived.Test.YtegmeepogjijiaaTwineW
import Derived.Test.YtegmeepogjijiaaMat
import Derived.Test.YtegmeepogjijiaaShamK
namespace Go.Proofs.Ytegmeepogjijiaa
open Go.RowKit Croft

theorem fillL_co (B : List F) {n j : Nat} (h : j < n) : (fillL (ofFs B) n)[j]? = some (ofF (co B j)) := by
  unfold fillL
  rcases Nat.lt_or_ge j B.length with h1 | h1
  · rw [List.getElem?_append_left (by simp [ofFs]; omega), List.getElem?_take, if_pos h]
    exact ofFs_get (get_co h1)
  · rw [List.getElem?_append_right (by simp [ofFs]; omega), List.getElem?_replicate, if_pos (by simp [ofFs]; omega), co_of_le h1, ofF_zero]
theorem shiftL_next (B D : List F) (d : F) {k : Nat} (h : k < D.length) : ofFs ((shiftL B D d).take (k + 1)) = ofFs ((shiftL B D d).take k) ++ [ofF (co D k + d * co B (k + 1))] := by
  rw [List.take_add_one, get_co (by rw [shiftL_length]; exact h), shiftL_co _ _ _ h]
  simp [ofFs]
theorem hShift_form (va vd : Value) (zs : List Int) (frm to : Int) (w : World) (h1 : IsInts w va zs) (hp : partyB zs = false) :
    Calls Try.prog 37 #[va, .int .u64 frm, .int .u64 to, vd] w fun e w' => ListRes w e w' [] 5 := by
  have KA := Lib.hid h1
  have HE := Lib.hid (show whoE zs = 5 by unfold whoE; rw [hp]; rfl)
  clear h1 hp
  go_enter Try.func37, Try.ntmps37
  go_wp2_with fail
  refine (hForm_any _ _ _ KA.out).mono ?_
  rintro e w' ⟨rfl, hb⟩
  rw [HE.out]
  have BEL := Lib.hid hb
  clear hb
  try dsimp only
  go_wp2_with fail
  go_ret2
  exact ⟨_, rfl, OwnNums.nil _ _, BEL.out⟩
theorem hShift_arg (va vd : Value) (zs ds : List Int) (frm to : Int) (w : World) (h1 : IsInts w va zs) (h2 : IsNums w vd ds) (hp : partyB zs = true) (hb : ¬ (ds.length ≤ 4 ∧ zs.length ≤ ds.length)) :
    Calls Try.prog 37 #[va, .int .u64 frm, .int .u64 to, vd] w fun e w' => ListRes w e w' [] 1 := by
  have KA := Lib.hid h1
  have HE := Lib.hid (show whoE zs = 0 by unfold whoE; rw [hp]; rfl)
  obtain ⟨A1, c1, rfl, hc1, hm1, hl1, hu1, hr1⟩ := h1
  obtain ⟨A2, c2, rfl, hc2, hm2, hl2, hu2, hr2⟩ := h2
  clear hp hu1 hr1 hm1 hu2 hr2 hm2
  by_cases h4 : (ds.length : Int) > 4
  · clear hb
    go_enter Try.func37, Try.ntmps37
    go_wp2_with fail
    refine (hForm_any _ _ _ KA.out).mono ?_
    rintro e w' ⟨rfl, hb⟩
    rw [HE.out]
    have BEL := Lib.hid hb
    clear hb
    try dsimp only
    go_wp2_with fail
    go_ret2
    exact ⟨_, rfl, OwnNums.nil _ _, BEL.out⟩
  · have hd1 : decide ((ds.length : Int) > 4) = false := by simpa using h4
    have hlt : (ds.length : Int) < zs.length := by omega
    clear hb
    go_enter Try.func37, Try.ntmps37
    go_wp2_with fail
    refine (hForm_any _ _ _ KA.out).mono ?_
    rintro e w' ⟨rfl, hb⟩
    rw [HE.out]
    have BEL := Lib.hid hb
    clear hb
    try dsimp only
    go_wp2_with fail
    go_ret2
    exact ⟨_, rfl, OwnNums.nil _ _, BEL.out⟩
set_option maxRecDepth 100000 in
set_option maxHeartbeats 1000000 in
theorem hShift_ok (va vd : Value) (zs ds : List Int) (frm to : Int) (w : World) (h1 : IsInts w va zs) (h2 : IsNums w vd ds) (hp : partyB zs = true) (hd : ds.length ≤ 4) (hz : zs.length ≤ ds.length) (hf : 0 ≤ frm) (ht : 0 ≤ to) :
    Calls Try.prog 37 #[va, .int .u64 frm, .int .u64 to, vd] w fun e w' => ListRes w e w' (ofFs (shiftL (blindP zs) (toFs ds) (toF to - toF frm))) 0 := by
  have KA := Lib.hid h1
  have KD := Lib.hid h2
  have HP := Lib.hid hp
  have HE := Lib.hid (show whoE zs = 0 by unfold whoE; rw [hp]; rfl)
  suffices hgoal : ∀ Post : Ending → World → Prop, (∀ e w', ListRes w e w' (ofFs (shiftL (blindP zs) (toFs ds) (toF to - toF frm))) 0 → Post e w') → Calls Try.prog 37 #[va, .int .u64 frm, .int .u64 to, vd] w Post from hgoal _ fun e w' h => h
  intro Post hpost
  have HPO := Lib.hid hpost
  obtain ⟨A1, c1, rfl, hc1, hm1, hl1, hu1, hr1⟩ := h1
  obtain ⟨A2, c2, rfl, hc2, hm2, hl2, hu2, hr2⟩ := h2
  have hd1 : decide ((ds.length : Int) > 4) = false := by simp; omega
  have hd2 : decide (ds.length < zs.length) = false := by simp; omega
  clear hp hu1 hr1 hm1 hu2 hr2 hm2 hpost
  go_enter Try.func37, Try.ntmps37
  go_wp2_with fail
  refine (hForm_any _ _ _ KA.out).mono ?_
  rintro e W1 ⟨rfl, hb⟩
  rw [HE.out]
  have BEL := Lib.hid hb
  have KA1 := Lib.hid (KA.out.below hb)
  have KD1 := Lib.hid (KD.out.below hb)
  clear hb KA KD
  try dsimp only
  go_wp2_with fail
  refine (hBlind_any _ zs (ds.length + 1) _ KA1.out HP.out (by omega)).mono ?_
  rintro e W2 ⟨vp, rfl, ho, hb⟩
  obtain ⟨gp, cp, hv, _, _⟩ := own_slice ho.1 (by rw [fillL_length]; omega)
  rw [fillL_length] at hv
  subst hv
  have KP := Lib.hid ho
  have KD2 := Lib.hid (KD1.out.below hb)
  have B2 := Lib.hid (below_trans BEL.out hb BEL.out.size)
  clear ho hb KA1 KD1 BEL
  try dsimp only
  go_wp2_with fail
  refine (fSub_any _ _ _ ht hf).mono ?_
  rintro e w' ⟨rfl, rfl⟩
  obtain ⟨d, hdd⟩ : ∃ d, d = toF to - toF frm := ⟨_, rfl⟩
  rw [← hdd]
  replace HPO := Lib.hid (show ∀ e w', ListRes w e w' (ofFs (shiftL (blindP zs) (toFs ds) d)) 0 → Post e w' from by rw [hdd]; exact HPO.out)
  clear hdd
  try dsimp only
  go_wp2_with fail
  obtain ⟨B, hB⟩ : ∃ B, B = blindP zs := ⟨_, rfl⟩
  rw [← hB] at KP HPO
  clear hB hd1 hd2
  go_loopw [13, 41] (fun v i wr => ∃ k : Nat, k ≤ ds.length ∧ i = .int .i64 k ∧ OwnNums wr W2.heap.size v (ofFs ((shiftL B (toFs ds) d).take k)) ∧ Below W2.heap.size W2 wr) (fun _ i _ => ds.length - (intOf i).toNat)
  case atStart => exact ⟨0, Nat.zero_le _, rfl, OwnNums.nil _ _, Below.refl _ _⟩
  case round =>
    obtain ⟨k, hk, rfl, hown, hbel⟩ := hrel
    have KO := Lib.hid hown
    have BEL := Lib.hid hbel
    have hsz := hbel.size
    clear hown hbel
    by_cases hlt : k < ds.length
    · obtain ⟨A, c, hA, _, _, _, hu, hr⟩ := KD2.out.below BEL.out
      injection hA with hA1 hA2 hA3
      subst hA1 hA3
      obtain ⟨b1, o1, x, rfl, hb1, hgk, hx64, hcx⟩ := nums_at hr hu hlt
      have hcp := (KP.out.below BEL.out).cell (fillL_co B (show k + 1 < ds.length + 1 by omega))
      have HT := Lib.hid (shiftL_next B (toFs ds) d (by rw [toFs_length]; exact hlt))
      have HX := Lib.hid (co_toFs hgk)
      have hx0 := hx64.1
      have HLN := Lib.hid (show (ofFs ((shiftL B (toFs ds) d).take k)).length ≤ 4 by rw [ofFs_length, List.length_take, shiftL_length, toFs_length]; omega)
      clear hu hr hgk hb1
      go_wp2_with fail
      refine (fMul_any _ _ _ (ofF_nonneg _) (ofF_nonneg _)).mono ?_
      rintro e w' ⟨rfl, rfl⟩
      rw [toF_ofF, toF_ofF]
      try dsimp only
      go_wp2_with fail
      refine (fAdd_any _ _ _ hx0 (ofF_nonneg _)).mono ?_
      rintro e w' ⟨rfl, rfl⟩
      rw [toF_ofF]
      try dsimp only
      go_wp2_with (at_builtin; go_loud (refine wpList_push rfl _ _ rfl W2.heap.size _ _ (ofF (toF x + d * co B (k + 1))) wr.heap.size 1 rfl (KO.out.alloc _) rfl (new_cell _ _ _) (U64.of_ofF _) (by have := HLN.out; omega) (by rw [size_alloc]; omega) ?_))
      intro v' w5 hown' hbel'
      have K5 := Lib.hid (show OwnNums w5 W2.heap.size v' (ofFs ((shiftL B (toFs ds) d).take (k + 1))) by rw [HT.out, HX.out]; exact hown')
      have B5 := Lib.hid ((BEL.out.alloc hsz (.cells #[.int .u64 (ofF (toF x + d * co B (k + 1)))] 23)).trans hbel')
      clear hown' hbel'
      go_wp2_with fail
      exact ⟨⟨k + 1, by omega, by go_num, K5.out, B5.out⟩, by simp [intOf] <;> omega⟩
    · obtain rfl : k = ds.length := by omega
      have HTE := Lib.hid (show (shiftL B (toFs ds) d).take ds.length = shiftL B (toFs ds) d from List.take_of_length_le (by rw [shiftL_length, toFs_length]; exact Nat.le_refl _))
      rw [HTE.out] at KO
      go_wp2_with fail
      exact HPO.out _ _ ⟨_, rfl, KO.out.less B2.out.size, below_trans B2.out BEL.out B2.out.size⟩
end Go.Proofs.Ytegmeepogjijiaa
namespace Go.Proofs.Ytegmeepogjijiaa
open Go.RowKit Croft

def prs (t : Nat) : List (Nat × Nat) := (List.range (t + 1)).flatMap fun i => (List.range (t + 1 - i)).map fun m => (i, i + m)
theorem prs_at' (t : Nat) (ht : t < 5) (i : Nat) (hi : i < 5) (m : Nat) (hm : m < 5) (h : i + m ≤ t) : (prs t)[off t i + m]? = some (i, i + m) := by
  have h5 : ∀ t i m : Fin 5, i.1 + m.1 ≤ t.1 → (prs t.1)[off t.1 i.1 + m.1]? = some (i.1, i.1 + m.1) := by decide
  exact h5 ⟨t, ht⟩ ⟨i, hi⟩ ⟨m, hm⟩ h
theorem off_need' (t : Nat) (ht : t < 5) : needN (t : Int) + 1 = (off t (t + 1) : Int) := by
  have h5 : ∀ t : Fin 5, needN (t.1 : Int) + 1 = (off t.1 (t.1 + 1) : Int) := by decide
  exact h5 ⟨t, ht⟩
theorem off_lt' (t : Nat) (ht : t < 5) (i : Nat) (hi : i < 5) (m : Nat) (hm : m < 5) (h : i + m ≤ t) : off t i + m + 1 ≤ off t (t + 1) := by
  have h5 : ∀ t i m : Fin 5, i.1 + m.1 ≤ t.1 → off t.1 i.1 + m.1 + 1 ≤ off t.1 (t.1 + 1) := by decide
  exact h5 ⟨t, ht⟩ ⟨i, hi⟩ ⟨m, hm⟩ h
theorem off_le' (t : Nat) (ht : t < 5) : off t (t + 1) ≤ 15 := by
  have h5 : ∀ t : Fin 5, off t.1 (t.1 + 1) ≤ 15 := by decide
  exact h5 ⟨t, ht⟩
theorem off_next (t k : Nat) : off t (k + 1) = off t k + (t + 1 - k) := rfl
def twVal (B D : List F) (d : F) (a : Nat) (ij : Nat × Nat) : Int := ofF (co D a + d * (co B ij.1 * co B ij.2))
def twL (B D : List F) (d : F) (t q : Nat) : List Int := (List.range (q - 1)).map fun a => twVal B D d a ((prs t).getD (a + 1) (0, 0))
theorem twL_length (B D : List F) (d : F) (t q : Nat) : (twL B D d t q).length = q - 1 := by simp [twL]
theorem twL_next (B D : List F) (d : F) {t i m a : Nat} (ht : t ≤ 4) (him : i + m ≤ t) (ha : off t i + m = a + 1) : twL B D d t (a + 2) = twL B D d t (a + 1) ++ [ofF (co D a + d * (co B i * co B (i + m)))] := by
  have h := prs_at' t (by omega) i (by omega) m (by omega) him
  rw [ha] at h
  unfold twL
  rw [show a + 2 - 1 = a + 1 by omega, show a + 1 - 1 = a by omega, List.range_succ, List.map_append]
  congr 1
  simp [List.getD, h, twVal]
theorem ListRes.none (w w' : World) (err : Int) (hb : Below w.heap.size w w') : ListRes w (.returned (.tuple #[.slice none 0 0, .int .i64 err])) w' [] err := ⟨_, rfl, OwnNums.nil _ _, hb⟩
theorem hTwine_form (va vd : Value) (zs : List Int) (t frm to : Int) (w : World) (h1 : IsInts w va zs) (hp : partyB zs = false) :
    Calls Try.prog 66 #[va, .int .i64 t, .int .u64 frm, .int .u64 to, vd] w fun e w' => ListRes w e w' [] 5 := by
  have KA := Lib.hid h1
  have HE := Lib.hid (show whoE zs = 5 by unfold whoE; rw [hp]; rfl)
  clear h1 hp
  go_enter Try.func66, Try.ntmps66
  go_wp2_with fail
  refine (hForm_any _ _ _ KA.out).mono ?_
  rintro e w' ⟨rfl, hb⟩
  rw [HE.out]
  have BEL := Lib.hid hb
  clear hb
  try dsimp only
  go_wp2_with fail
  go_ret2
  exact ListRes.none _ _ _ BEL.out
theorem hTwine_arg (va vd : Value) (zs ds : List Int) (t frm to : Int) (w : World) (h1 : IsInts w va zs) (h2 : IsNums w vd ds) (hp : partyB zs = true) (hb : ¬ ((0 ≤ t ∧ t ≤ 4) ∧ (zs.length : Int) ≤ t ∧ (ds.length : Int) = needN t)) :
    Calls Try.prog 66 #[va, .int .i64 t, .int .u64 frm, .int .u64 to, vd] w fun e w' => ListRes w e w' [] 1 := by
  have KA := Lib.hid h1
  have HE := Lib.hid (show whoE zs = 0 by unfold whoE; rw [hp]; rfl)
  obtain ⟨A1, c1, rfl, hc1, hm1, hl1, hu1, hr1⟩ := h1
  obtain ⟨A2, c2, rfl, hc2, hm2, hl2, hu2, hr2⟩ := h2
  clear hp hu1 hr1 hm1 hu2 hr2 hm2
  by_cases ht : 0 ≤ t ∧ t ≤ 4
  · have HT := Lib.hid ht
    by_cases hz : (zs.length : Int) > t
    · have hd1 : decide ((zs.length : Int) > t) = true := by simpa using hz
      clear hb ht
      go_enter Try.func66, Try.ntmps66
      go_wp2_with fail
      refine (hForm_any _ _ _ KA.out).mono ?_
      rintro e w' ⟨rfl, hb⟩
      rw [HE.out]
      have BEL := Lib.hid hb
      clear hb
      try dsimp only
      go_wp2_with fail
      refine (pNeed_ok t _ HT.out).mono ?_
      rintro e w' ⟨rfl, rfl⟩
      try dsimp only
      go_wp2_with fail
      go_ret2
      exact ListRes.none _ _ _ BEL.out
    · have hd1 : decide ((zs.length : Int) > t) = false := by simpa using hz
      have hdn : ((ds.length : Int) != needN t) = true := by rw [bne_iff_ne]; intro e; exact hb ⟨ht, by omega, e⟩
      clear hb ht hz
      go_enter Try.func66, Try.ntmps66
      go_wp2_with fail
      refine (hForm_any _ _ _ KA.out).mono ?_
      rintro e w' ⟨rfl, hb⟩
      rw [HE.out]
      have BEL := Lib.hid hb
      clear hb
      try dsimp only
      go_wp2_with fail
      refine (pNeed_ok t _ HT.out).mono ?_
      rintro e w' ⟨rfl, rfl⟩
      try dsimp only
      go_wp2_with fail
      go_ret2
      exact ListRes.none _ _ _ BEL.out
  · have HT := Lib.hid ht
    clear hb ht
    go_enter Try.func66, Try.ntmps66
    go_wp2_with fail
    refine (hForm_any _ _ _ KA.out).mono ?_
    rintro e w' ⟨rfl, hb⟩
    rw [HE.out]
    have BEL := Lib.hid hb
    clear hb
    try dsimp only
    go_wp2_with fail
    refine (pNeed_bad t _ HT.out).mono ?_
    rintro e w' ⟨rfl, rfl⟩
    try dsimp only
    go_wp2_with fail
    go_ret2
    exact ListRes.none _ _ _ BEL.out
set_option maxRecDepth 100000 in
set_option maxHeartbeats 2000000 in
theorem hTwine_ok (va vd : Value) (zs ds : List Int) (t : Nat) (frm to : Int) (w : World) (h1 : IsInts w va zs) (h2 : IsNums w vd ds) (hp : partyB zs = true) (ht : t ≤ 4) (hz : zs.length ≤ t) (hd : (ds.length : Int) = needN t) (hf : 0 ≤ frm) (hto : 0 ≤ to) :
    Calls Try.prog 66 #[va, .int .i64 t, .int .u64 frm, .int .u64 to, vd] w fun e w' => ListRes w e w' (twL (blindP zs) (toFs ds) (toF to - toF frm) t (off t (t + 1))) 0 := by
  have KA := Lib.hid h1
  have KD := Lib.hid h2
  have HP := Lib.hid hp
  have HE := Lib.hid (show whoE zs = 0 by unfold whoE; rw [hp]; rfl)
  have HT := Lib.hid (show 0 ≤ (t : Int) ∧ (t : Int) ≤ 4 by omega)
  have HDL := Lib.hid (show ds.length + 1 = off t (t + 1) by have := off_need' t (by omega); omega)
  suffices hgoal : ∀ Post : Ending → World → Prop, (∀ e w', ListRes w e w' (twL (blindP zs) (toFs ds) (toF to - toF frm) t (off t (t + 1))) 0 → Post e w') → Calls Try.prog 66 #[va, .int .i64 t, .int .u64 frm, .int .u64 to, vd] w Post from hgoal _ fun e w' h => h
  intro Post hpost
  have HPO := Lib.hid hpost
  obtain ⟨A1, c1, rfl, hc1, hm1, hl1, hu1, hr1⟩ := h1
  obtain ⟨A2, c2, rfl, hc2, hm2, hl2, hu2, hr2⟩ := h2
  have hd1 : decide ((zs.length : Int) > (t : Int)) = false := by simp; omega
  have hd1' : decide (zs.length > t) = false := by simp; omega
  have hd1'' : decide (t < zs.length) = false := by simp; omega
  have hdn : ((ds.length : Int) != needN t) = false := by rw [bne_eq_false_iff_eq]; exact hd
  clear hp hu1 hr1 hm1 hu2 hr2 hm2 hpost hd
  go_enter Try.func66, Try.ntmps66
  go_wp2_with fail
  refine (hForm_any _ _ _ KA.out).mono ?_
  rintro e W1 ⟨rfl, hb⟩
  rw [HE.out]
  have BEL := Lib.hid hb
  have KA1 := Lib.hid (KA.out.below hb)
  have KD1 := Lib.hid (KD.out.below hb)
  clear hb KA KD
  try dsimp only
  go_wp2_with fail
  refine (pNeed_ok t _ HT.out).mono ?_
  rintro e w' ⟨rfl, rfl⟩
  try dsimp only
  go_wp2_with fail
  refine (hBlind_any _ zs (t + 1) _ KA1.out HP.out (by omega)).mono ?_
  rintro e W2 ⟨vp, rfl, ho, hb⟩
  obtain ⟨gp, cp, hv, _, _⟩ := own_slice ho.1 (by rw [fillL_length]; omega)
  rw [fillL_length] at hv
  subst hv
  have KP := Lib.hid ho
  have KD2 := Lib.hid (KD1.out.below hb)
  have B2 := Lib.hid (below_trans BEL.out hb BEL.out.size)
  clear ho hb KA1 KD1 BEL
  try dsimp only
  go_wp2_with fail
  refine (fSub_any _ _ _ hto hf).mono ?_
  rintro e w' ⟨rfl, rfl⟩
  obtain ⟨d, hdd⟩ : ∃ d, d = toF to - toF frm := ⟨_, rfl⟩
  rw [← hdd]
  replace HPO := Lib.hid (show ∀ e w', ListRes w e w' (twL (blindP zs) (toFs ds) d t (off t (t + 1))) 0 → Post e w' from by rw [hdd]; exact HPO.out)
  clear hdd
  try dsimp only
  go_wp2_with fail
  obtain ⟨B, hB⟩ : ∃ B, B = blindP zs := ⟨_, rfl⟩
  rw [← hB] at KP HPO
  clear hB hd1 hd1' hd1'' hdn
  go_loopw [17, 18, 55] (fun v x i wr => ∃ k : Nat, k ≤ t + 1 ∧ i = .int .i64 k ∧ x = .int .i64 ((off t k : Int) - 1) ∧ OwnNums wr W2.heap.size v (twL B (toFs ds) d t (off t k)) ∧ Below W2.heap.size W2 wr) (fun _ _ i _ => t + 1 - (intOf i).toNat)
  case atStart => exact ⟨0, Nat.zero_le _, rfl, rfl, OwnNums.nil _ _, Below.refl _ _⟩
  case round =>
    obtain ⟨k, hk, rfl, rfl, hown, hbel⟩ := hrel
    have KO := Lib.hid hown
    have BEL := Lib.hid hbel
    clear hown hbel
    by_cases hlt : k < t + 1
    · have hdk : decide ((k : Int) < (t : Int) + 1) = true := by simp; omega
      go_wp2_with fail
      obtain ⟨wo, hwo⟩ : ∃ wo, wo = wr := ⟨_, rfl⟩
      subst hwo
      go_loopw [17, 18, 20] (fun v x j wq => ∃ (m q : Nat) (z : Int), m ≤ t + 1 - k ∧ q = off t k + m ∧ z + 1 = q ∧ j = .int .i64 ((k : Int) + m) ∧ x = .int .i64 z ∧ OwnNums wq W2.heap.size v (twL B (toFs ds) d t q) ∧ Below W2.heap.size W2 wq) (fun _ _ j _ => t + 1 - (intOf j).toNat)
      case atStart => exact ⟨0, off t k, _, Nat.zero_le _, rfl, by omega, by simp, rfl, KO.out, BEL.out⟩
      case round =>
        obtain ⟨m, q, z, hm, hq, hzq, rfl, rfl, hown, hbel⟩ := hrel
        clear KO BEL
        have KO := Lib.hid hown
        have BEL := Lib.hid hbel
        have hsz := hbel.size
        clear hown hbel
        by_cases hlt2 : k + m ≤ t
        · have hdj : decide ((k : Int) + (m : Int) ≤ (t : Int)) = true := by simp; omega
          by_cases hq0 : q = 0
          · subst hq0
            obtain rfl : z = -1 := by omega
            have HQ := Lib.hid hq
            clear hq hzq
            go_wp2_with fail
            exact ⟨⟨m + 1, 1, 0, by omega, by have := HQ.out; omega, by omega, by go_num, rfl, KO.out, BEL.out⟩, by simp [intOf] <;> omega⟩
          · obtain ⟨a, rfl⟩ : ∃ a, q = a + 1 := ⟨q - 1, by omega⟩
            obtain rfl : z = (a : Int) := by omega
            have hql := off_lt' t (by omega) k (by omega) m (by omega) hlt2
            have hdl := HDL.out
            have hal : a < ds.length := by omega
            obtain ⟨A, c, hA, _, _, _, hu, hr⟩ := KD2.out.below BEL.out
            injection hA with hA1 hA2 hA3
            subst hA1 hA3
            clear hA2
            obtain ⟨b1, o1, x, rfl, hb1, hgx, hx64, hcx⟩ := nums_at hr hu hal
            have hcp1 := (KP.out.below BEL.out).cell (fillL_co B (show k < t + 1 by omega))
            have hcp2 := (KP.out.below BEL.out).cell (fillL_co B (show k + m < t + 1 by omega))
            have HT2 := Lib.hid (twL_next B (toFs ds) d ht hlt2 hq.symm)
            have HX := Lib.hid (co_toFs hgx)
            have hx0 := hx64.1
            have HLN := Lib.hid (show (twL B (toFs ds) d t (a + 1)).length ≤ 20 by rw [twL_length]; have := off_le' t (by omega); omega)
            have hda : decide ((a : Int) ≥ 0) = true := by simp
            have hw1 : IntKind.i64.wrap ((k : Int) + (m : Int)) = (k : Int) + (m : Int) := IntWalk.i64_in _ (by omega)
            have HQ := Lib.hid hq
            clear hu hr hgx hb1 hql hdl hq hzq
            go_wp2_with fail
            refine wp_region_quiet_tail_from 1 17 (by kernel_rfl) (by kernel_rfl) (fun _ _ _ _ _ h => h) ?_
            simp only [List.take_succ_cons, List.take_zero, List.drop_succ_cons, List.drop_zero, putAll, moved]
            simp [Act.put, Act.eval]
            repeat (go_big_quiet_step ((first | exact quietL (fMul_any _ _ _ (ofF_nonneg _) (ofF_nonneg _)) | exact quietL (fAdd_any _ _ _ hx0 (ofF_nonneg _)))))
            refine wpQuiet_nil ?_
            intro nq
            go_wp2_with (at_builtin; refine wpList_push rfl _ _ rfl W2.heap.size _ _ (ofF (toF x + toF (ofF (toF (ofF d) * toF (ofF (toF (ofF (co B k)) * toF (ofF (co B (k + m))))))))) (wr.drewN nq).heap.size 1 rfl ((KO.out.drewN nq).alloc _) rfl (new_cell _ _ _) (U64.of_ofF _) (by have := HLN.out; omega) (by simp; omega) ?_)
            intro v' w5 hown' hbel'
            simp only [toF_ofF] at hown'
            have K5 := Lib.hid (show OwnNums w5 W2.heap.size v' (twL B (toFs ds) d t (a + 2)) by rw [HT2.out, HX.out]; exact hown')
            have B5 := Lib.hid (((below_drewN BEL.out nq).alloc (by simp; omega) _).trans hbel')
            clear hown' hbel' hcp1 hcp2 hcx
            go_wp2_with fail
            exact ⟨⟨m + 1, a + 2, (a : Int) + 1, by omega, by have := HQ.out; omega, by omega, by go_num, rfl, K5.out, B5.out⟩, by simp [intOf] <;> omega⟩
        · have hdj : decide ((k : Int) + (m : Int) ≤ (t : Int)) = false := by simp; omega
          have hme : m = t + 1 - k := by omega
          have hqe : q = off t (k + 1) := by rw [hq, off_next, hme]
          have HQE := Lib.hid hqe
          obtain rfl : z = (off t (k + 1) : Int) - 1 := by omega
          clear hq hzq hme hqe
          rw [HQE.out] at KO
          go_wp2_with fail
          exact ⟨⟨k + 1, by omega, by go_num, rfl, KO.out, BEL.out⟩, by simp [intOf] <;> omega⟩
    · obtain rfl : k = t + 1 := by omega
      go_wp2_with fail
      exact HPO.out _ _ ⟨_, rfl, KO.out.less B2.out.size, below_trans B2.out BEL.out B2.out.size⟩
end Go.Proofs.Ytegmeepogjijiaa
namespace Go.Proofs.Ytegmeepogjijiaa
open Go.RowKit Croft

theorem iIndex_any (va : Value) (zs : List Int) (x : Int) (w : World) (h1 : IsInts w va zs) :
    Calls Try.prog 141 #[va, .int .i64 x] w fun e w' => (∃ r : Int, e = .returned (.int .i64 r) ∧ ((0 ≤ r) ↔ x ∈ zs)) ∧ w = w' := by
  obtain ⟨A1, c1, rfl, hc1, hm1, hl1, hu1, hr1⟩ := h1
  have HU := Lib.hid hu1
  have HR := Lib.hid hr1
  clear hu1 hr1 hm1
  go_enter Try.func141, Try.ntmps141
  go_wp2_with fail
  go_loop [8] (fun i => ∃ k : Nat, k ≤ zs.length ∧ i = .int .i64 k ∧ x ∉ zs.take k) (fun i => zs.length - (intOf i).toNat)
  case atStart => exact ⟨0, Nat.zero_le _, rfl, by simp⟩
  case round =>
    obtain ⟨k, hk, rfl, hn⟩ := hrel
    have HN := Lib.hid hn
    clear hn
    by_cases hlt : k < zs.length
    · obtain ⟨b1, o1, z, rfl, hb1, hgk, hz64, hca⟩ := ints_at HR.out HU.out hlt
      have HG := Lib.hid hgk
      clear hgk hb1
      by_cases hxz : x = z
      · subst hxz
        have hbe : (x == x) = true := by simp
        go_wp2_with fail
        go_ret
        exact ⟨⟨_, rfl, by simp only [Int.natCast_nonneg, true_iff]; exact List.mem_of_getElem? HG.out⟩, rfl⟩
      · have hbe : (x == z) = false := by rw [beq_eq_false_iff_ne]; exact hxz
        have HX := Lib.hid hxz
        clear hxz
        go_wp2_with fail
        refine ⟨⟨k + 1, by omega, by go_num, ?_⟩, by simp [intOf] <;> omega⟩
        rw [List.take_add_one, HG.out]
        intro hm
        rcases List.mem_append.1 hm with h | h
        · exact HN.out h
        · simp at h; exact HX.out h
    · obtain rfl : zs.length = k := by omega
      go_wp2_with fail
      go_ret
      refine ⟨⟨_, rfl, ?_⟩, rfl⟩
      have := HN.out
      rw [List.take_length] at this
      exact ⟨fun h => by omega, fun h => absurd h this⟩
theorem iContains_any (va : Value) (zs : List Int) (x : Int) (w : World) (h1 : IsInts w va zs) :
    Calls Try.prog 118 #[va, .int .i64 x] w fun e w' => e = .returned (.bool (decide (x ∈ zs))) ∧ w = w' := by
  have KA := Lib.hid h1
  clear h1
  go_enter Try.func118, Try.ntmps118
  go_wp2_with fail
  refine (iIndex_any _ zs x _ KA.out).mono ?_
  rintro e w' ⟨⟨r, rfl, hr⟩, rfl⟩
  have hd : decide (r ≥ 0) = decide (x ∈ zs) := by rw [Bool.eq_iff_iff, decide_eq_true_iff, decide_eq_true_iff]; exact hr
  clear hr
  try dsimp only
  cases hc : decide (x ∈ zs) with
  | true =>
    rw [hc] at hd
    have HC := Lib.hid hc
    clear hc
    go_wp2_with fail
    go_ret
    exact ⟨by rw [HC.out]; rfl, rfl⟩
  | false =>
    rw [hc] at hd
    have HC := Lib.hid hc
    clear hc
    go_wp2_with fail
    go_ret
    exact ⟨by rw [HC.out]; rfl, rfl⟩
/-- parties, none twice, at most so many -/
structure Some_ (T N : Nat) (who : List Int) : Prop where
  len : who.length ≤ T
  in_ : ∀ k ∈ who, 1 ≤ k ∧ k ≤ (N : Int)
  nodup : who.Nodup
theorem Some_.nil (T N : Nat) : Some_ T N [] := ⟨by simp, by simp, by simp⟩
theorem Some_.add {T N : Nat} {who : List Int} (h : Some_ T N who) {k : Int} (hl : who.length < T) (h1 : 1 ≤ k ∧ k ≤ (N : Int)) (h2 : k ∉ who) : Some_ T N (who ++ [k]) := by
  refine ⟨by simp; omega, fun y hy => ?_, ?_⟩
  · rcases List.mem_append.1 hy with h3 | h3
    · exact h.in_ y h3
    · simp at h3; subst h3; exact h1
  · rw [List.nodup_append]
    refine ⟨h.nodup, by simp, fun a ha b hb e => ?_⟩
    simp at hb
    subst hb e
    exact h2 ha
theorem Some_.party {T N : Nat} {who : List Int} (h : Some_ T N who) (hN : N ≤ 9) : partyB who = true := by
  unfold partyB
  exact decide_eq_true ⟨fun z hz => by have := h.in_ z hz; omega, h.nodup⟩
end Go.Proofs.Ytegmeepogjijiaa
