/- Package hide's turn of a dealing in two variables: what the call returns. -/
import Derived.Test.YtbgfgkegcchaoaaHideS
import Derived.Test.YtbgfgkegcchaoaaTwineW
import Derived.Test.YtbgfgkegcchaoaaMat
namespace Go.Proofs.Ytbgfgkegcchaoaa
open Go.RowKit Croft

def prs (t : Nat) : List (Nat × Nat) := (List.range (t + 1)).flatMap fun i => (List.range (t + 1 - i)).map fun m => (i, i + m)
theorem prs_at' (t : Nat) (ht : t < 5) (i : Nat) (hi : i < 5) (m : Nat) (hm : m < 5) (h : i + m ≤ t) : (prs t)[off t i + m]? = some (i, i + m) := by
  have h5 : ∀ t i m : Fin 5, i.1 + m.1 ≤ t.1 → (prs t.1)[off t.1 i.1 + m.1]? = some (i.1, i.1 + m.1) := by decide
  exact h5 ⟨t, ht⟩ ⟨i, hi⟩ ⟨m, hm⟩ h
theorem off_need' (t : Nat) (ht : t < 5) : needN (t : Int) + 1 = (off t (t + 1) : Int) := by
  have h5 : ∀ t : Fin 5, needN (t.1 : Int) + 1 = (off t.1 (t.1 + 1) : Int) := by decide
  exact h5 ⟨t, ht⟩
theorem off_lt' (t : Nat) (ht : t < 5) (i : Nat) (hi : i < 5) (m : Nat) (hm : m < 5) (h : i + m ≤ t) : off t i + m + 1 ≤ off t (t + 1) := by
  have h5 : ∀ t i m : Fin 5, i.1 + m.1 ≤ t.1 → off t.1 i.1 + m.1 + 1 ≤ off t.1 (t.1 + 1) := by decide
  exact h5 ⟨t, ht⟩ ⟨i, hi⟩ ⟨m, hm⟩ h
theorem off_le' (t : Nat) (ht : t < 5) : off t (t + 1) ≤ 15 := by
  have h5 : ∀ t : Fin 5, off t.1 (t.1 + 1) ≤ 15 := by decide
  exact h5 ⟨t, ht⟩
theorem off_next (t k : Nat) : off t (k + 1) = off t k + (t + 1 - k) := rfl
def twVal (B D : List F) (d : F) (a : Nat) (ij : Nat × Nat) : Int := ofF (co D a + d * (co B ij.1 * co B ij.2))
def twL (B D : List F) (d : F) (t q : Nat) : List Int := (List.range (q - 1)).map fun a => twVal B D d a ((prs t).getD (a + 1) (0, 0))
theorem twL_length (B D : List F) (d : F) (t q : Nat) : (twL B D d t q).length = q - 1 := by simp [twL]
theorem twL_next (B D : List F) (d : F) {t i m a : Nat} (ht : t ≤ 4) (him : i + m ≤ t) (ha : off t i + m = a + 1) : twL B D d t (a + 2) = twL B D d t (a + 1) ++ [ofF (co D a + d * (co B i * co B (i + m)))] := by
  have h := prs_at' t (by omega) i (by omega) m (by omega) him
  rw [ha] at h
  unfold twL
  rw [show a + 2 - 1 = a + 1 by omega, show a + 1 - 1 = a by omega, List.range_succ, List.map_append]
  congr 1
  simp [List.getD, h, twVal]
theorem ListRes.none (w w' : World) (err : Int) (hb : Below w.heap.size w w') : ListRes w (.returned (.tuple #[.slice none 0 0, .int .i64 err])) w' [] err := ⟨_, rfl, OwnNums.nil _ _, hb⟩
theorem hTwine_form (va vd : Value) (zs : List Int) (t frm to : Int) (w : World) (h1 : IsInts w va zs) (hp : partyB zs = false) :
    Calls Try.prog 62 #[va, .int .i64 t, .int .u64 frm, .int .u64 to, vd] w fun e w' => ListRes w e w' [] 5 := by
  have KA := Lib.hid h1
  have HE := Lib.hid (show whoE zs = 5 by unfold whoE; rw [hp]; rfl)
  clear h1 hp
  go_enter Try.func62, Try.ntmps62
  go_wp2_with fail
  refine (hForm_any _ _ _ KA.out).mono ?_
  rintro e w' ⟨rfl, hb⟩
  rw [HE.out]
  have BEL := Lib.hid hb
  clear hb
  try dsimp only
  go_wp2_with fail
  go_ret2
  exact ListRes.none _ _ _ BEL.out
theorem hTwine_arg (va vd : Value) (zs ds : List Int) (t frm to : Int) (w : World) (h1 : IsInts w va zs) (h2 : IsNums w vd ds) (hp : partyB zs = true) (hb : ¬ ((0 ≤ t ∧ t ≤ 4) ∧ (zs.length : Int) ≤ t ∧ (ds.length : Int) = needN t)) :
    Calls Try.prog 62 #[va, .int .i64 t, .int .u64 frm, .int .u64 to, vd] w fun e w' => ListRes w e w' [] 1 := by
  have KA := Lib.hid h1
  have HE := Lib.hid (show whoE zs = 0 by unfold whoE; rw [hp]; rfl)
  obtain ⟨A1, c1, rfl, hc1, hm1, hl1, hu1, hr1⟩ := h1
  obtain ⟨A2, c2, rfl, hc2, hm2, hl2, hu2, hr2⟩ := h2
  clear hp hu1 hr1 hm1 hu2 hr2 hm2
  by_cases ht : 0 ≤ t ∧ t ≤ 4
  · have HT := Lib.hid ht
    by_cases hz : (zs.length : Int) > t
    · have hd1 : decide ((zs.length : Int) > t) = true := by simpa using hz
      clear hb ht
      go_enter Try.func62, Try.ntmps62
      go_wp2_with fail
      refine (hForm_any _ _ _ KA.out).mono ?_
      rintro e w' ⟨rfl, hb⟩
      rw [HE.out]
      have BEL := Lib.hid hb
      clear hb
      try dsimp only
      go_wp2_with fail
      refine (pNeed_ok t _ HT.out).mono ?_
      rintro e w' ⟨rfl, rfl⟩
      try dsimp only
      go_wp2_with fail
      go_ret2
      exact ListRes.none _ _ _ BEL.out
    · have hd1 : decide ((zs.length : Int) > t) = false := by simpa using hz
      have hdn : ((ds.length : Int) != needN t) = true := by rw [bne_iff_ne]; intro e; exact hb ⟨ht, by omega, e⟩
      clear hb ht hz
      go_enter Try.func62, Try.ntmps62
      go_wp2_with fail
      refine (hForm_any _ _ _ KA.out).mono ?_
      rintro e w' ⟨rfl, hb⟩
      rw [HE.out]
      have BEL := Lib.hid hb
      clear hb
      try dsimp only
      go_wp2_with fail
      refine (pNeed_ok t _ HT.out).mono ?_
      rintro e w' ⟨rfl, rfl⟩
      try dsimp only
      go_wp2_with fail
      go_ret2
      exact ListRes.none _ _ _ BEL.out
  · have HT := Lib.hid ht
    clear hb ht
    go_enter Try.func62, Try.ntmps62
    go_wp2_with fail
    refine (hForm_any _ _ _ KA.out).mono ?_
    rintro e w' ⟨rfl, hb⟩
    rw [HE.out]
    have BEL := Lib.hid hb
    clear hb
    try dsimp only
    go_wp2_with fail
    refine (pNeed_bad t _ HT.out).mono ?_
    rintro e w' ⟨rfl, rfl⟩
    try dsimp only
    go_wp2_with fail
    go_ret2
    exact ListRes.none _ _ _ BEL.out
set_option maxRecDepth 100000 in
set_option maxHeartbeats 2000000 in
theorem hTwine_ok (va vd : Value) (zs ds : List Int) (t : Nat) (frm to : Int) (w : World) (h1 : IsInts w va zs) (h2 : IsNums w vd ds) (hp : partyB zs = true) (ht : t ≤ 4) (hz : zs.length ≤ t) (hd : (ds.length : Int) = needN t) (hf : 0 ≤ frm) (hto : 0 ≤ to) :
    Calls Try.prog 62 #[va, .int .i64 t, .int .u64 frm, .int .u64 to, vd] w fun e w' => ListRes w e w' (twL (blindP zs) (toFs ds) (toF to - toF frm) t (off t (t + 1))) 0 := by
  have KA := Lib.hid h1
  have KD := Lib.hid h2
  have HP := Lib.hid hp
  have HE := Lib.hid (show whoE zs = 0 by unfold whoE; rw [hp]; rfl)
  have HT := Lib.hid (show 0 ≤ (t : Int) ∧ (t : Int) ≤ 4 by omega)
  have HDL := Lib.hid (show ds.length + 1 = off t (t + 1) by have := off_need' t (by omega); omega)
  suffices hgoal : ∀ Post : Ending → World → Prop, (∀ e w', ListRes w e w' (twL (blindP zs) (toFs ds) (toF to - toF frm) t (off t (t + 1))) 0 → Post e w') → Calls Try.prog 62 #[va, .int .i64 t, .int .u64 frm, .int .u64 to, vd] w Post from hgoal _ fun e w' h => h
  intro Post hpost
  have HPO := Lib.hid hpost
  obtain ⟨A1, c1, rfl, hc1, hm1, hl1, hu1, hr1⟩ := h1
  obtain ⟨A2, c2, rfl, hc2, hm2, hl2, hu2, hr2⟩ := h2
  have hd1 : decide ((zs.length : Int) > (t : Int)) = false := by simp; omega
  have hd1' : decide (zs.length > t) = false := by simp; omega
  have hd1'' : decide (t < zs.length) = false := by simp; omega
  have hdn : ((ds.length : Int) != needN t) = false := by rw [bne_eq_false_iff_eq]; exact hd
  clear hp hu1 hr1 hm1 hu2 hr2 hm2 hpost hd
  go_enter Try.func62, Try.ntmps62
  go_wp2_with fail
  refine (hForm_any _ _ _ KA.out).mono ?_
  rintro e W1 ⟨rfl, hb⟩
  rw [HE.out]
  have BEL := Lib.hid hb
  have KA1 := Lib.hid (KA.out.below hb)
  have KD1 := Lib.hid (KD.out.below hb)
  clear hb KA KD
  try dsimp only
  go_wp2_with fail
  refine (pNeed_ok t _ HT.out).mono ?_
  rintro e w' ⟨rfl, rfl⟩
  try dsimp only
  go_wp2_with fail
  refine (hBlind_any _ zs (t + 1) _ KA1.out HP.out (by omega)).mono ?_
  rintro e W2 ⟨vp, rfl, ho, hb⟩
  obtain ⟨gp, cp, hv, _, _⟩ := own_slice ho.1 (by rw [fillL_length]; omega)
  rw [fillL_length] at hv
  subst hv
  have KP := Lib.hid ho
  have KD2 := Lib.hid (KD1.out.below hb)
  have B2 := Lib.hid (below_trans BEL.out hb BEL.out.size)
  clear ho hb KA1 KD1 BEL
  try dsimp only
  go_wp2_with fail
  refine (fSub_any _ _ _ hto hf).mono ?_
  rintro e w' ⟨rfl, rfl⟩
  obtain ⟨d, hdd⟩ : ∃ d, d = toF to - toF frm := ⟨_, rfl⟩
  rw [← hdd]
  replace HPO := Lib.hid (show ∀ e w', ListRes w e w' (twL (blindP zs) (toFs ds) d t (off t (t + 1))) 0 → Post e w' from by rw [hdd]; exact HPO.out)
  clear hdd
  try dsimp only
  go_wp2_with fail
  obtain ⟨B, hB⟩ : ∃ B, B = blindP zs := ⟨_, rfl⟩
  rw [← hB] at KP HPO
  clear hB hd1 hd1' hd1'' hdn
  go_loopw [17, 18, 55] (fun v x i wr => ∃ k : Nat, k ≤ t + 1 ∧ i = .int .i64 k ∧ x = .int .i64 ((off t k : Int) - 1) ∧ OwnNums wr W2.heap.size v (twL B (toFs ds) d t (off t k)) ∧ Below W2.heap.size W2 wr) (fun _ _ i _ => t + 1 - (intOf i).toNat)
  case atStart => exact ⟨0, Nat.zero_le _, rfl, rfl, OwnNums.nil _ _, Below.refl _ _⟩
  case round =>
    obtain ⟨k, hk, rfl, rfl, hown, hbel⟩ := hrel
    have KO := Lib.hid hown
    have BEL := Lib.hid hbel
    clear hown hbel
    by_cases hlt : k < t + 1
    · have hdk : decide ((k : Int) < (t : Int) + 1) = true := by simp; omega
      go_wp2_with fail
      obtain ⟨wo, hwo⟩ : ∃ wo, wo = wr := ⟨_, rfl⟩
      subst hwo
      go_loopw [17, 18, 20] (fun v x j wq => ∃ (m q : Nat) (z : Int), m ≤ t + 1 - k ∧ q = off t k + m ∧ z + 1 = q ∧ j = .int .i64 ((k : Int) + m) ∧ x = .int .i64 z ∧ OwnNums wq W2.heap.size v (twL B (toFs ds) d t q) ∧ Below W2.heap.size W2 wq) (fun _ _ j _ => t + 1 - (intOf j).toNat)
      case atStart => exact ⟨0, off t k, _, Nat.zero_le _, rfl, by omega, by simp, rfl, KO.out, BEL.out⟩
      case round =>
        obtain ⟨m, q, z, hm, hq, hzq, rfl, rfl, hown, hbel⟩ := hrel
        clear KO BEL
        have KO := Lib.hid hown
        have BEL := Lib.hid hbel
        have hsz := hbel.size
        clear hown hbel
        by_cases hlt2 : k + m ≤ t
        · have hdj : decide ((k : Int) + (m : Int) ≤ (t : Int)) = true := by simp; omega
          by_cases hq0 : q = 0
          · subst hq0
            obtain rfl : z = -1 := by omega
            have HQ := Lib.hid hq
            clear hq hzq
            go_wp2_with fail
            exact ⟨⟨m + 1, 1, 0, by omega, by have := HQ.out; omega, by omega, by go_num, rfl, KO.out, BEL.out⟩, by simp [intOf] <;> omega⟩
          · obtain ⟨a, rfl⟩ : ∃ a, q = a + 1 := ⟨q - 1, by omega⟩
            obtain rfl : z = (a : Int) := by omega
            have hql := off_lt' t (by omega) k (by omega) m (by omega) hlt2
            have hdl := HDL.out
            have hal : a < ds.length := by omega
            obtain ⟨A, c, hA, _, _, _, hu, hr⟩ := KD2.out.below BEL.out
            injection hA with hA1 hA2 hA3
            subst hA1 hA3
            clear hA2
            obtain ⟨b1, o1, x, rfl, hb1, hgx, hx64, hcx⟩ := nums_at hr hu hal
            have hcp1 := (KP.out.below BEL.out).cell (fillL_co B (show k < t + 1 by omega))
            have hcp2 := (KP.out.below BEL.out).cell (fillL_co B (show k + m < t + 1 by omega))
            have HT2 := Lib.hid (twL_next B (toFs ds) d ht hlt2 hq.symm)
            have HX := Lib.hid (co_toFs hgx)
            have hx0 := hx64.1
            have HLN := Lib.hid (show (twL B (toFs ds) d t (a + 1)).length ≤ 20 by rw [twL_length]; have := off_le' t (by omega); omega)
            have hda : decide ((a : Int) ≥ 0) = true := by simp
            have hw1 : IntKind.i64.wrap ((k : Int) + (m : Int)) = (k : Int) + (m : Int) := IntWalk.i64_in _ (by omega)
            have HQ := Lib.hid hq
            clear hu hr hgx hb1 hql hdl hq hzq
            go_wp2_with fail
            refine wp_region_quiet_tail_from 1 17 (by kernel_rfl) (by kernel_rfl) (fun _ _ _ _ _ h => h) ?_
            simp only [List.take_succ_cons, List.take_zero, List.drop_succ_cons, List.drop_zero, putAll, moved]
            simp [Act.put, Act.eval]
            repeat (go_big_quiet_step ((first | exact quietL (fMul_any _ _ _ (ofF_nonneg _) (ofF_nonneg _)) | exact quietL (fAdd_any _ _ _ hx0 (ofF_nonneg _)))))
            refine wpQuiet_nil ?_
            intro nq
            go_wp2_with (at_builtin; refine wpList_push rfl _ _ rfl W2.heap.size _ _ (ofF (toF x + toF (ofF (toF (ofF d) * toF (ofF (toF (ofF (co B k)) * toF (ofF (co B (k + m))))))))) (wr.drewN nq).heap.size 1 rfl ((KO.out.drewN nq).alloc _) rfl (new_cell _ _ _) (U64.of_ofF _) (by have := HLN.out; omega) (by simp; omega) ?_)
            intro v' w5 hown' hbel'
            simp only [toF_ofF] at hown'
            have K5 := Lib.hid (show OwnNums w5 W2.heap.size v' (twL B (toFs ds) d t (a + 2)) by rw [HT2.out, HX.out]; exact hown')
            have B5 := Lib.hid (((below_drewN BEL.out nq).alloc (by simp; omega) _).trans hbel')
            clear hown' hbel' hcp1 hcp2 hcx
            go_wp2_with fail
            exact ⟨⟨m + 1, a + 2, (a : Int) + 1, by omega, by have := HQ.out; omega, by omega, by go_num, rfl, K5.out, B5.out⟩, by simp [intOf] <;> omega⟩
        · have hdj : decide ((k : Int) + (m : Int) ≤ (t : Int)) = false := by simp; omega
          have hme : m = t + 1 - k := by omega
          have hqe : q = off t (k + 1) := by rw [hq, off_next, hme]
          have HQE := Lib.hid hqe
          obtain rfl : z = (off t (k + 1) : Int) - 1 := by omega
          clear hq hzq hme hqe
          rw [HQE.out] at KO
          go_wp2_with fail
          exact ⟨⟨k + 1, by omega, by go_num, rfl, KO.out, BEL.out⟩, by simp [intOf] <;> omega⟩
    · obtain rfl : k = t + 1 := by omega
      go_wp2_with fail
      exact HPO.out _ _ ⟨_, rfl, KO.out.less B2.out.size, below_trans B2.out BEL.out B2.out.size⟩
end Go.Proofs.Ytbgfgkegcchaoaa
