/- Package poly's division: what it returns. -/
import Derived.Test.YtknjcdlknnfhaaaPolyX
import Derived.Test.YtknjcdlknnfhaaaPlainB
namespace Go.Proofs.Ytknjcdlknnfhaaa
open Go.RowKit Croft

theorem OwnNums.form {w : World} {base : Nat} {v : Value} {zs : List Int} (h : OwnNums w base v zs) (hn : 0 < zs.length) : ∃ g cap, v = .slice (some ⟨g, 0, none⟩) zs.length cap ∧ base ≤ g ∧ g < w.heap.size ∧ zs.length ≤ cap ∧ cap ≤ maxLen := by
  rcases h.1.2 with ⟨_, h0⟩ | ⟨g, cap, cur, hv, hb, hg, hc, hm, _⟩
  · omega
  · exact ⟨g, cap, hv, hb, (Array.getElem?_eq_some_iff.1 hg).1, hc, hm⟩
theorem OwnNums.far {w : World} {base g n c : Nat} {zs : List Int} (h : OwnNums w base (.slice (some ⟨g, 0, none⟩) n c) zs) {g' : Nat} (hne : g ≠ g') (k : Nat) (u : Value) : OwnNums (w.setCell ⟨g', k, none⟩ u) base (.slice (some ⟨g, 0, none⟩) n c) zs := by
  refine ⟨?_, h.2⟩
  have hg : w.grownBy (w.setCell ⟨g', k, none⟩ u) (some g') := ⟨rfl, rfl, rfl, by simp [World.setCell], fun i _ hi => Below.heap_setCell _ _ _ _ (by rintro rfl; exact hi rfl)⟩
  exact h.1.kept hg (.inr (by simp [Value.ownBlock, hne]))
theorem OwnNums.lt_zs {w : World} {base : Nat} {v : Value} {zs : List Int} (h : OwnNums w base v zs) : zs.length ≤ 17592186043904 := h.2.1
structure DivOut (A B Q R : List F) : Prop where
  nq : pnorm Q = Q
  nr : pnorm R = R
  short : R.length < B.length
  eq : pnorm (padd (pmulS Q B) R) = A
  lq : Q.length ≤ A.length + 1
def DivRes (w : World) (e : Ending) (w' : World) (A B : List F) : Prop :=
  ∃ vq vr Q R, e = .returned (.tuple #[vq, vr, .int .i64 0]) ∧ OwnNums w' w.heap.size vq (ofFs Q) ∧ OwnNums w' w.heap.size vr (ofFs R) ∧ DivOut A B Q R ∧ Below w.heap.size w w'
def DivBad (w : World) (e : Ending) (w' : World) (err : Int) : Prop := e = .returned (.tuple #[.slice none 0 0, .slice none 0 0, .int .i64 err]) ∧ Below w.heap.size w w'
theorem pDiv_big (va vb : Value) (xs ys : List Int) (w : World) (h1 : IsNums w va xs) (h2 : IsNums w vb ys) (h : 40 < xs.length ∨ 40 < ys.length) :
    Calls Try.prog 98 #[va, vb] w fun e w' => DivBad w e w' 2 := by
  obtain ⟨A1, c1, rfl, hc1, hm1, hl1, hu1, hr1⟩ := h1
  obtain ⟨A2, c2, rfl, hc2, hm2, hl2, hu2, hr2⟩ := h2
  clear hr1 hu1 hr2 hu2
  by_cases hx : (40 : Int) < (xs.length : Int)
  · clear h
    go_enter Try.func98, Try.ntmps98
    go_wp2_with fail
    go_ret3
    exact ⟨rfl, Below.refl _ _⟩
  · have hy : (40 : Int) < (ys.length : Int) := by omega
    have hd : decide ((40 : Int) < (xs.length : Int)) = false := by simpa using hx
    clear h
    go_enter Try.func98, Try.ntmps98
    go_wp2_with fail
    go_ret3
    exact ⟨rfl, Below.refl _ _⟩
set_option maxRecDepth 100000 in
theorem pDiv_small (va vb : Value) (xs ys : List Int) (w : World) (h1 : IsNums w va xs) (h2 : IsNums w vb ys) (hx : xs.length ≤ 40) (hy : ys.length ≤ 40) :
    Calls Try.prog 98 #[va, vb] w fun e w' => (pnorm (toFs ys) = [] → DivBad w e w' 4) ∧ (pnorm (toFs ys) ≠ [] → DivRes w e w' (pnorm (toFs xs)) (pnorm (toFs ys))) := by
  have KA := Lib.hid h1
  have KB := Lib.hid h2
  have BEL := Lib.hid (Below.refl w.heap.size w)
  have hlx := pnorm_length (toFs xs)
  have hly := pnorm_length (toFs ys)
  rw [toFs_length] at hlx hly
  obtain ⟨A1, c1, rfl, hc1, hm1, hl1, hu1, hr1⟩ := h1
  obtain ⟨A2, c2, rfl, hc2, hm2, hl2, hu2, hr2⟩ := h2
  clear hr1 hu1 hr2 hu2
  have hx' : ¬ (40 : Int) < (xs.length : Int) := by omega
  have hy' : ¬ (40 : Int) < (ys.length : Int) := by omega
  have hd : decide ((40 : Int) < (xs.length : Int)) = false := by simpa using hx'
  obtain ⟨A, hA⟩ : ∃ A, pnorm (toFs xs) = A := ⟨_, rfl⟩
  obtain ⟨B, hB⟩ : ∃ B, pnorm (toFs ys) = B := ⟨_, rfl⟩
  have hnA : pnorm A = A := by rw [← hA, pnorm_norm]
  have hnB : pnorm B = B := by rw [← hB, pnorm_norm]
  rw [hA] at hlx ⊢
  rw [hB] at hly ⊢
  have EA := Lib.hid hA
  have EB := Lib.hid hB
  have NA := Lib.hid hnA
  have NB := Lib.hid hnB
  clear hA hB hnA hnB
  suffices hgoal : ∀ Post : Ending → World → Prop, (∀ e w', B = [] → DivBad w e w' 4 → Post e w') → (∀ e w', B ≠ [] → DivRes w e w' A B → Post e w') → Calls Try.prog 98 #[.slice A1 xs.length c1, .slice A2 ys.length c2] w Post from
    hgoal _ (fun e w' hb h => ⟨fun _ => h, fun hn => absurd hb hn⟩) (fun e w' hb h => ⟨fun hn => absurd hn hb, fun _ => h⟩)
  intro Post hp1 hp2
  have HP1 := Lib.hid hp1
  have HP2 := Lib.hid hp2
  clear hp1 hp2
  go_enter Try.func98, Try.ntmps98
  go_wp2_with fail
  refine (pNormal_any _ _ _ KA.out).mono ?_
  rintro e W1 ⟨v1, rfl, ho, hb⟩
  rw [EA.out] at ho
  replace KB := Lib.hid (KB.out.below hb)
  replace BEL := Lib.hid (below_trans BEL.out hb BEL.out.size)
  have K1 := Lib.hid ho
  have LT1 := Lib.hid (fun g (hg : v1.ownBlock = some g) => (ho.1.lt g hg).2)
  clear ho hb KA
  go_wp2_with fail
  refine (pNormal_any _ _ _ KB.out).mono ?_
  rintro e W2 ⟨v2, rfl, ho, hb⟩
  rw [EB.out] at ho
  have hs1 := BEL.out.size
  have hs2 := hb.size
  replace K1 := Lib.hid (K1.out.below hb)
  replace BEL := Lib.hid (below_trans BEL.out hb BEL.out.size)
  have K2 := Lib.hid ho
  clear ho hb KB
  dsimp only
  by_cases hB0 : B.length = 0
  · obtain ⟨A', c', hv, _, _⟩ := own_form K2.out.1
    subst hv
    rw [ofFs_length]
    have he : ((B.length : Int) == 0) = true := by rw [beq_iff_eq]; omega
    have HB0 := Lib.hid (List.eq_nil_of_length_eq_zero hB0)
    clear hB0
    go_wp2_with fail
    go_ret3
    exact HP1.out _ _ HB0.out ⟨rfl, BEL.out⟩
  have heB : ((B.length : Int) == 0) = false := by rw [beq_eq_false_iff_ne]; omega
  have hB1 : 1 ≤ B.length := by omega
  have HBN := Lib.hid (show B ≠ [] by rintro rfl; simp at hB0)
  clear hB0
  by_cases hAB : A.length < B.length
  · obtain ⟨A', c', hv, _, _⟩ := own_form K2.out.1
    obtain ⟨A'', c'', hv2, _, _⟩ := own_form K1.out.1
    subst hv hv2
    rw [ofFs_length, ofFs_length]
    have hlt : (A.length : Int) < (B.length : Int) := by omega
    have HAB := Lib.hid hAB
    clear hAB
    go_wp2_with fail
    go_ret3
    have k1 := K1.out
    rw [ofFs_length] at k1
    refine HP2.out _ _ HBN.out ⟨_, _, [], A, rfl, OwnNums.nil _ _, k1, ⟨rfl, NA.out, HAB.out, ?_, by simp⟩, BEL.out⟩
    rw [show pmulS [] B = [] from if_pos (.inl rfl), show padd [] A = A from rfl, NA.out]
  · obtain ⟨ga, ca, hv1, hga1, hga2, hca, hcam⟩ := K1.out.form (by rw [ofFs_length]; omega)
    obtain ⟨gb, cb, hv2, hgb1, hgb2, hcb, hcbm⟩ := K2.out.form (by rw [ofFs_length]; omega)
    have hgab := LT1.out ga (by rw [hv1]; rfl)
    rw [ofFs_length] at hv1 hv2 hca hcb
    subst hv1 hv2
    obtain ⟨N, hN⟩ : ∃ N, N = A.length - B.length + 1 := ⟨_, rfl⟩
    have hN1 : N + B.length ≤ A.length + 1 := by omega
    have hN2 : A.length + 1 ≤ N + B.length := by omega
    have HN := Lib.hid hN
    have hlt : ¬ (A.length : Int) < (B.length : Int) := by omega
    have hAB' : B.length ≤ A.length := by omega
    obtain ⟨t, ht⟩ : ∃ t, t = B.length - 1 := ⟨_, rfl⟩
    have ht1 : B.length ≤ t + 1 := by omega
    have ht2 : t + 1 ≤ B.length := by omega
    have hbl := K2.out.cell (ofFs_get (get_co (l := B) (j := t) (by omega)))
    have HV := Lib.hid (mul_inv (by rw [ht]; exact pnorm_full NB.out HBN.out : co B t ≠ 0))
    have HZ := Lib.hid (show zErr (co B t) = 0 by unfold zErr; rw [if_neg (by rw [ht]; exact pnorm_full NB.out HBN.out)])
    have HT := Lib.hid ht
    have hi1 : ((B.length : Int) - 1).toNat = t := by omega
    clear hAB hN ht
    go_wp2_with fail
    refine (fInv_any _ _ (ofF_nonneg _)).mono ?_
    rintro e w' ⟨rfl, rfl⟩
    rw [toF_ofF, HZ.out]
    clear hbl hi1
    obtain ⟨v, hv⟩ : ∃ v, inv (co B t) = v := ⟨_, rfl⟩
    rw [hv]
    rw [hv] at HV
    clear hv HZ
    go_wp2_with (refine wpList_make_nums rfl _ _ rfl W2.heap.size _ N rfl rfl (by omega) (by omega) (Nat.le_refl _) ?_)
    intro W3 ho3 hb3
    have K3 := Lib.hid (show OwnNums W3 W2.heap.size (.slice (some ⟨W2.heap.size, 0, none⟩) N N) (ofFs (List.replicate N 0)) by
      have : ofFs (List.replicate N 0) = List.replicate N 0 := by simp [ofFs, ofF_zero]
      rw [this]; exact ho3)
    replace K1 := Lib.hid (K1.out.below hb3)
    replace K2 := Lib.hid (K2.out.below hb3)
    have hs3 := BEL.out.size
    have hs4 := hb3.size
    replace BEL := Lib.hid (below_trans BEL.out hb3 BEL.out.size)
    have ST := Lib.hid (by have h := DivInv.start A B hB1 hAB'; rw [← HN.out] at h; exact h)
    clear ho3 hb3
    go_wp2_with fail
    go_loopw [10] (fun i wr => ∃ (m : Nat) (q a : List F), m ≤ N ∧ i = .int .i64 ((m : Int) - 1) ∧ DivInv A B q a m ∧ OwnNums wr w.heap.size (.slice (some ⟨ga, 0, none⟩) A.length ca) (ofFs a) ∧ OwnNums wr W1.heap.size (.slice (some ⟨gb, 0, none⟩) B.length cb) (ofFs B) ∧ OwnNums wr W2.heap.size (.slice (some ⟨W2.heap.size, 0, none⟩) N N) (ofFs q) ∧ Below w.heap.size w wr) (fun i _ => (intOf i + 1).toNat)
    case atStart => exact ⟨N, List.replicate N 0, A, Nat.le_refl _, by go_num, ST.out, K1.out, K2.out, K3.out, BEL.out⟩
    case round =>
      obtain ⟨m, q, a, hm, rfl, hinv, hoa, hob, hoq, hbel⟩ := hrel
      clear K1 K2 K3 BEL ST
      have HI := Lib.hid hinv
      have hqN : q.length = N := by rw [hinv.lq, ← HN.out]
      have hlq : N ≤ q.length := by omega
      have haA := hinv.la
      have hla : A.length ≤ a.length := by omega
      clear hinv hqN haA
      by_cases h0 : m = 0
      · subst h0
        have D := Lib.hid (HI.out.done hB1)
        have HA' := Lib.hid hoa
        have HQ := Lib.hid hoq.is
        have HB' := Lib.hid hbel
        have hsz := hbel.size
        clear hoa hob hoq hbel
        go_wp2_with fail
        refine (pNormal_any _ _ _ HQ.out).mono ?_
        rintro e W4 ⟨v4, rfl, ho, hb⟩
        rw [toFs_ofFs] at ho
        have K4 := Lib.hid ho
        have KA := Lib.hid (HA'.out.is.below hb)
        have hsz2 := hb.size
        have BEL := Lib.hid (below_trans HB'.out hb hsz)
        clear ho hb HA' HQ HB'
        dsimp only
        go_wp2_with fail
        refine (pNormal_any _ _ _ KA.out).mono ?_
        rintro e W5 ⟨v5, rfl, ho, hb⟩
        rw [toFs_ofFs] at ho
        have K5 := Lib.hid (ho.less BEL.out.size)
        replace K4 := Lib.hid ((K4.out.below hb).less hsz)
        replace BEL := Lib.hid (below_trans BEL.out hb BEL.out.size)
        clear ho hb KA
        dsimp only
        go_wp2_with fail
        go_ret3
        obtain ⟨d1, d2⟩ := D.out
        rw [NA.out] at d2
        exact HP2.out _ _ HBN.out ⟨_, _, pnorm q, pnorm a, rfl, K4.out, K5.out, ⟨pnorm_norm _, pnorm_norm _, d1, d2, by have := pnorm_length q; have := HI.out.lq; omega⟩, BEL.out⟩
      · obtain ⟨j, rfl⟩ : ∃ j, m = j + 1 := ⟨m - 1, by omega⟩
        have hjt : j + t < a.length := by omega
        have hca := hoa.cell (ofFs_get (get_co hjt))
        have hi : ((j : Int) + (B.length : Int) - 1).toNat = j + t := by omega
        have hcq := hoq.cell (ofFs_get (get_co (l := q) (j := j) (by omega)))
        have hfq := hoq.frozen j
        obtain ⟨c, hc⟩ : ∃ c, c = co a (j + t) * v := ⟨_, rfl⟩
        have HC := Lib.hid hc
        have hoq2 := hoq.set_ j (U64.of_ofF c)
        rw [ofFs_set] at hoq2
        have HQ := Lib.hid hoq2
        have HA' := Lib.hid (hoa.far (g' := W2.heap.size) (by omega) j (.int .u64 (ofF c)))
        have HB' := Lib.hid (hob.far (g' := W2.heap.size) (by omega) j (.int .u64 (ofF c)))
        have HBE := Lib.hid (hbel.setCell (p := ⟨W2.heap.size, j, none⟩) (show w.heap.size ≤ W2.heap.size by omega) (.int .u64 (ofF c)))
        have STEP := Lib.hid (HI.out.step hB1 hAB' (show j < q.length by omega) c v (by rw [hc]; congr 2; have := HT.out; omega) (by rw [← HT.out]; exact HV.out))
        clear hoa hob hoq hoq2 hbel hc h0
        go_wp2_with fail
        refine (fMul_any _ _ _ (ofF_nonneg _) (ofF_nonneg _)).mono ?_
        rintro e w' ⟨rfl, rfl⟩
        rw [toF_ofF, toF_ofF, ← HC.out]
        dsimp only
        go_wp2_with fail
        clear hca hcq hfq hi
        obtain ⟨wo, hwo⟩ : ∃ wo, wo = wr.setCell ⟨W2.heap.size, j, none⟩ (.int .u64 (ofF c)) := ⟨_, rfl⟩
        rw [← hwo] at HQ HA' HB' HBE ⊢
        clear hwo
        go_loopw [73] (fun i wr => ∃ p : Nat, p ≤ B.length ∧ i = .int .i64 p ∧ OwnNums wr w.heap.size (.slice (some ⟨ga, 0, none⟩) A.length ca) (ofFs (subAt a j c B p)) ∧ OwnNums wr W1.heap.size (.slice (some ⟨gb, 0, none⟩) B.length cb) (ofFs B) ∧ OwnNums wr W2.heap.size (.slice (some ⟨W2.heap.size, 0, none⟩) N N) (ofFs (q.set j c)) ∧ Below w.heap.size w wr) (fun i _ => B.length - (intOf i).toNat)
        case atStart => exact ⟨0, Nat.zero_le _, rfl, by rw [subAt_zero]; exact HA'.out, HB'.out, HQ.out, HBE.out⟩
        case round =>
          obtain ⟨p, hp, rfl, hoa, hob, hoq, hbel⟩ := hrel
          clear HQ HA' HB' HBE
          by_cases hlt2 : p < B.length
          · have hcb := hob.cell (ofFs_get (get_co hlt2))
            have hcq := hoq.cell (ofFs_get (show (q.set j c)[j]? = some c by rw [List.getElem?_set_self (by omega)]))
            have hca := hoa.cell (ofFs_get (get_co (l := subAt a j c B p) (j := j + p) (by rw [subAt_length]; omega)))
            have hfa := hoa.frozen (j + p)
            obtain ⟨s, hs⟩ : ∃ s, s = co (subAt a j c B p) (j + p) := ⟨_, rfl⟩
            obtain ⟨y, hy⟩ : ∃ y, y = co B p := ⟨_, rfl⟩
            have hoa2 := hoa.set_ (j + p) (U64.of_ofF (s - c * y))
            rw [ofFs_set, hs, hy, subAt_set] at hoa2
            rw [← hs] at hca
            rw [← hy] at hcb
            have HS := Lib.hid hs
            have HY := Lib.hid hy
            have HA' := Lib.hid hoa2
            have HB' := Lib.hid (hob.far (g' := ga) (by omega) (j + p) (.int .u64 (ofF (s - c * y))))
            have HQ := Lib.hid (hoq.far (g' := ga) (by omega) (j + p) (.int .u64 (ofF (s - c * y))))
            have HBE := Lib.hid (hbel.setCell (p := ⟨ga, j + p, none⟩) hga1 (.int .u64 (ofF (s - c * y))))
            rw [← HS.out, ← HY.out] at HA'
            have hjp : j + p < A.length := by omega
            have hjN : j < N := by omega
            clear hoa hob hoq hoa2 hbel hs hy
            go_wp2_with fail
            refine wp_region_quiet_tail 18 (by kernel_rfl) (by kernel_rfl) ?_
            simp only [List.take_succ_cons, List.take_zero, List.drop_succ_cons, List.drop_zero]
            repeat (go_big_quiet_step ((first | exact quietL (fMul_any _ _ _ (ofF_nonneg _) (ofF_nonneg _)) | exact quietL (fSub_any _ _ _ (ofF_nonneg _) (ofF_nonneg _)))))
            refine wpQuiet_nil ?_
            intro nq
            go_wp2_with fail
            simp only [toF_ofF]
            refine ⟨⟨p + 1, by omega, by go_num, HA'.out.drewN nq, HB'.out.drewN nq, HQ.out.drewN nq, below_drewN HBE.out nq⟩, by simp [intOf]; omega⟩
          · have HA' := Lib.hid hoa
            have HB' := Lib.hid hob
            have HQ := Lib.hid hoq
            have HBE := Lib.hid hbel
            clear hoa hob hoq hbel
            go_wp2_with fail
            obtain rfl : p = B.length := by omega
            exact ⟨⟨j, q.set j c, subAt a j c B B.length, by omega, by go_num, STEP.out, HA'.out, HB'.out, HQ.out, HBE.out⟩, by simp [intOf] <;> omega⟩
end Go.Proofs.Ytknjcdlknnfhaaa
