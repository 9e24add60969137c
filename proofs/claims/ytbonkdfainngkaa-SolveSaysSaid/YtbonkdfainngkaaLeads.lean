/- The document's columns that lead: what the call returns. -/
import Derived.Test.YtbonkdfainngkaaSolS
import Derived.Test.YtbonkdfainngkaaPushW
namespace Go.Proofs.Ytbonkdfainngkaa
open Go.RowKit Croft

def fcol (f : Nat → F) (m : Nat) : List F := (List.range m).map f
theorem fcol_length (f : Nat → F) (m : Nat) : (fcol f m).length = m := by simp [fcol]
theorem fcol_at {f : Nat → F} {m i : Nat} (h : i < m) : (fcol f m)[i]? = some (f i) := by simp [fcol, h]
theorem fcol_get {f : Nat → F} {m i : Nat} (h : i < m) : (ofFs (fcol f m))[i]? = some (ofF (f i)) := by simp [fcol, ofFs, h]
theorem fcol_next (f : Nat → F) (m : Nat) : ofFs (fcol f (m + 1)) = ofFs (fcol f m) ++ [ofF (f m)] := by simp [fcol, ofFs, List.range_succ]
theorem fcol_congr {f g : Nat → F} {m : Nat} (h : ∀ i, i < m → f i = g i) : fcol f m = fcol g m := List.map_congr_left fun i hi => h i (List.mem_range.1 hi)
/-- the first so many of them turned -/
def mixC (Y X : Nat → F) (i : Nat) : Nat → F := fun r => if r < i then Y r else X r
theorem mixC_set {Y X : Nat → F} {i m : Nat} (h : i < m) : (ofFs (fcol (mixC Y X i) m)).set i (ofF (Y i)) = ofFs (fcol (mixC Y X (i + 1)) m) := by
  apply List.ext_getElem?
  intro r
  by_cases hr : r < m
  · rw [fcol_get hr]
    by_cases e : r = i
    · subst e
      rw [List.getElem?_set_self (by rw [ofFs_length, fcol_length]; exact h)]
      unfold mixC
      rw [if_pos (by omega)]
    · rw [List.getElem?_set_ne (Ne.symm e), fcol_get hr]
      unfold mixC
      by_cases h2 : r < i
      · rw [if_pos h2, if_pos (by omega)]
      · rw [if_neg h2, if_neg (by omega)]
  · rw [List.getElem?_eq_none (by rw [List.length_set, ofFs_length, fcol_length]; omega), List.getElem?_eq_none (by rw [ofFs_length, fcol_length]; omega)]
theorem mixC_zero (Y X : Nat → F) : mixC Y X 0 = X := by funext r; unfold mixC; rw [if_neg (by omega)]
theorem mixC_all (Y X : Nat → F) (m : Nat) : fcol (mixC Y X m) m = fcol Y m := fcol_congr fun i hi => by unfold mixC; rw [if_pos hi]
def Bof (cols : List (List F)) : Nat → Nat → F := fun k r => co (cols.getD k []) r
theorem Bof_get {cols : List (List F)} {k : Nat} {l : List F} (h : cols[k]? = some l) (r : Nat) : Bof cols k r = co l r := by unfold Bof; simp [List.getD, h]
theorem nats_get {ls : List Nat} {k : Nat} {z : Int} (h : (nats ls)[k]? = some z) : z = ((ld ls k : Nat) : Int) := by
  have hk := (List.getElem?_eq_some_iff.1 h).1
  rw [nats_length] at hk
  unfold nats at h
  rw [List.getElem?_map, ld_get hk] at h
  simpa using h.symm
theorem nats_snoc (ls : List Nat) (c : Nat) : nats (ls ++ [c]) = nats ls ++ [(c : Int)] := by simp [nats]
theorem inc_len {f : Nat → Nat} {n c : Nat} (h : ∀ i j, i < j → j < n → f i < f j) (hc : ∀ i, i < n → f i < c) : n ≤ c := by
  have ge : ∀ i, i < n → i ≤ f i := by
    intro i
    induction i with
    | zero => intro _; omega
    | succ i ih => intro hi; have h1 := ih (by omega); have h2 := h i (i + 1) (by omega) hi; omega
  rcases Nat.eq_zero_or_pos n with h0 | h0
  · omega
  · have h1 := ge (n - 1) (by omega)
    have h2 := hc (n - 1) (by omega)
    omega
def LeadsRes (w : World) (e : Ending) (w' : World) (rows0 : List (List Int)) (v m : Nat) : Prop :=
  ∃ vl ls B at_ ok, e = .returned (.tuple #[vl, .bool ok]) ∧ OwnInts w' w.heap.size vl (nats ls) ∧ Bas (mx rows0) m v B at_ ls ∧ (ok = true ↔ Dep m (mx rows0) v) ∧ Below w.heap.size w w'
set_option maxRecDepth 100000 in
set_option maxHeartbeats 4000000 in
theorem rLeads_ok (va : Value) (rows0 : List (List Int)) (v m : Nat) (w : World) (h1 : IsNumss w va rows0) (hm : rows0.length = m) (hm20 : m ≤ 20) (hv20 : v ≤ 20) (hlen : ∀ r ∈ rows0, r.length = v + 1) :
    Calls Try.prog 25 #[va, .int .i64 v] w fun e w' => LeadsRes w e w' rows0 v m := by
  have KA := Lib.hid h1
  have HM := Lib.hid hm
  have HLEN := Lib.hid hlen
  suffices hgoal : ∀ Post : Ending → World → Prop, (∀ e w', LeadsRes w e w' rows0 v m → Post e w') → Calls Try.prog 25 #[va, .int .i64 v] w Post from hgoal _ fun e w' h => h
  intro Post hpo
  have HPO := Lib.hid hpo
  obtain ⟨A1, c1, vs0, rfl, hc1, hm1, hl1, hr1, ha1⟩ := h1
  rw [hm] at KA hc1 hl1 ⊢
  clear hr1 ha1 hm1 hpo hlen hm
  go_enter Try.func25, Try.ntmps25
  go_wp2_with fail
  go_loopw [6, 7, 8, 9] (fun vl vb va_ x W1 => ∃ (c : Nat) (vs : List Value) (cols : List (List F)) (ats ls : List Nat), c ≤ v + 1 ∧ x = .int .i64 c ∧ Grid W1 w.heap.size vb vs (cols.map ofFs) ∧ (∀ l ∈ cols, l.length = m) ∧ cols.length = ls.length ∧ OwnInts W1 w.heap.size va_ (nats ats) ∧ ats.length = ls.length ∧ OwnInts W1 w.heap.size vl (nats ls) ∧ Far va_ vl ∧ Bas (mx rows0) m (min c v) (Bof cols) (ld ats) ls ∧ (c = v + 1 → Dep m (mx rows0) v) ∧ Below w.heap.size w W1) (fun _ _ _ x _ => v + 1 - (intOf x).toNat)
  case atStart => exact ⟨0, [], [], [], [], Nat.zero_le _, rfl, Grid.nil _ _, (fun l h => by simp at h), rfl, OwnInts.nil _ _, rfl, OwnInts.nil _ _, Far.nil _, by rw [Nat.zero_min]; exact Bas.start _ _ _ _, (fun h => by omega), Below.refl _ _⟩
  case round =>
    obtain ⟨c, vs, cols, ats, ls, hc, rfl, hgr, hcm, hcl, hoa, hal, hol, hfar, hbas, hdep, hbel⟩ := hrel
    obtain ⟨W1, hW1⟩ : ∃ W1, W1 = wr := ⟨_, rfl⟩
    subst hW1
    have KG := Lib.hid hgr
    have KT := Lib.hid hoa
    have KL := Lib.hid hol
    have HCM := Lib.hid hcm
    have HCL := Lib.hid hcl
    have HAL := Lib.hid hal
    have FAR := Lib.hid hfar
    have HDEP := Lib.hid hdep
    have BEL := Lib.hid hbel
    have hsz := hbel.size
    clear hgr hcm hoa hol hfar hdep hbel
    obtain ⟨n, hn⟩ : ∃ n, n = ls.length := ⟨_, rfl⟩
    have HN := Lib.hid hn
    rw [← hn] at hcl hal
    obtain ⟨Ab, cb, hvb, hcb, hcb2⟩ := own_form KG.out.outer
    rw [List.length_map, hcl] at hvb hcb
    obtain ⟨At, ct, hvt, hct, hct2⟩ := own_form KT.out.1
    rw [nats_length, hal] at hvt hct
    obtain ⟨Al, cl, hvl, hcll, hcl2⟩ := own_form KL.out.1
    rw [nats_length, ← hn] at hvl hcll
    subst hvb hvt hvl
    clear hn hcl hal
    by_cases hlt : c ≤ v
    · have hdc : decide ((c : Int) ≤ (v : Int)) = true := by simp; omega
      have hdc2 : decide (c ≤ v) = true := by simp; omega
      have HBAS := Lib.hid (show Bas (mx rows0) m c (Bof cols) (ld ats) ls by rw [Nat.min_eq_left hlt] at hbas; exact hbas)
      have hn20 : n ≤ 20 := by
        have := inc_len HBAS.out.inc HBAS.out.lt
        rw [HN.out]
        omega
      clear hbas HDEP
      go_wp2_with fail
      go_loopw [10, 11] (fun u x W2 => ∃ k : Nat, k ≤ m ∧ x = .int .i64 k ∧ OwnNums W2 W1.heap.size u (ofFs (fcol (fun r => mx rows0 r c) k)) ∧ Below W1.heap.size W1 W2) (fun _ x _ => m - (intOf x).toNat)
      case atStart => exact ⟨0, Nat.zero_le _, rfl, OwnNums.nil _ _, Below.refl _ _⟩
      case round =>
        obtain ⟨k, hk, rfl, hown, hbq⟩ := hrel
        obtain ⟨W2, hW2⟩ : ∃ W2, W2 = wr := ⟨_, rfl⟩
        subst hW2
        have KO := Lib.hid hown
        have BQ := Lib.hid hbq
        have hszq := hbq.size
        clear hown hbq
        by_cases hltk : k < m
        · obtain ⟨A, cc, vs1, hA, _, _, _, hr, ha⟩ := (KA.out.below BEL.out).below BQ.out
          rw [HM.out] at hA
          injection hA with hA1 hA2 hA3
          subst hA1 hA3
          clear hA2
          obtain ⟨b1, o1, x, r, rfl, hb1, hx, hgk, hnr, hcr⟩ := numss_at hr ha (k := k) (by rw [HM.out]; exact hltk)
          have hrl := HLEN.out r (List.mem_of_getElem? hgk)
          obtain ⟨Ar, cr, hxr, _, _, _, hur, hrr⟩ := hnr
          rw [hrl] at hxr
          subst hxr
          obtain ⟨b2, o2, z, rfl, hb2, hgz, hz64, hcz⟩ := nums_at hrr hur (k := c) (by omega)
          have HMX := Lib.hid (show mx rows0 k c = toF z by rw [mx_get hgk, co_toFs hgz])
          have hdk : decide ((k : Int) < (m : Int)) = true := by simp; omega
          have hl20 : (ofFs (fcol (fun r => mx rows0 r c) k)).length ≤ 20 := by rw [ofFs_length, fcol_length]; omega
          clear hr ha hb1 hx hgk hur hrr hb2 hgz hrl
          go_wp2_with fail
          refine (rNorm_any _ _ hz64).mono ?_
          rintro e w' ⟨rfl, rfl⟩
          try dsimp only
          go_wp2_with (at_builtin; go_loud (refine wpList_push rfl _ _ rfl W1.heap.size _ _ (ofF (toF z)) W2.heap.size 1 rfl (KO.out.alloc _) rfl (new_cell _ _ _) (U64.of_ofF _) (by omega) (by rw [size_alloc]; omega) ?_))
          intro v' w6 hown' hbel'
          have K6 := Lib.hid (show OwnNums w6 W1.heap.size v' (ofFs (fcol (fun r => mx rows0 r c) (k + 1))) by rw [fcol_next, HMX.out]; exact hown')
          have B6 := Lib.hid ((BQ.out.alloc hszq (.cells #[.int .u64 (ofF (toF z))] 40)).trans hbel')
          clear hown' hbel'
          go_wp2_with fail
          exact ⟨⟨k + 1, by omega, by go_num, K6.out, B6.out⟩, by simp [intOf] <;> omega⟩
        · obtain rfl : k = m := by omega
          have hdk : decide ((k : Int) < (k : Int)) = false := by simp
          obtain ⟨Ac, cc, hvc, hcc, hcc2⟩ := own_form KO.out.1
          rw [ofFs_length, fcol_length] at hvc hcc
          subst hvc
          go_wp2_with fail
          go_loopw [12] (fun x W3 => ∃ (q : Nat) (X : Nat → F), q ≤ n ∧ x = .int .i64 q ∧ Clr (mx rows0) k c (Bof cols) (ld ats) n q X ∧ OwnNums W3 W1.heap.size (.slice Ac k cc) (ofFs (fcol X k)) ∧ Below W1.heap.size W1 W3) (fun x _ => n - (intOf x).toNat)
          case atStart => exact ⟨0, _, Nat.zero_le _, rfl, Clr.start _ _ _ _ _ _, KO.out, BQ.out⟩
          case round =>
            obtain ⟨q, X, hq, rfl, hclr, hown, hbq⟩ := hrel
            obtain ⟨W3, hW3⟩ : ∃ W3, W3 = wr := ⟨_, rfl⟩
            subst hW3
            clear KO BQ
            have KO := Lib.hid hown
            have BQ := Lib.hid hbq
            have HCLR := Lib.hid hclr
            clear hown hbq hclr
            by_cases hltq : q < n
            · have hdq : decide ((q : Int) < (n : Int)) = true := by simp; omega
              have hpm := HBAS.out.place q (by rw [← HN.out]; exact hltq)
              obtain ⟨p, hp⟩ : ∃ p, p = ld ats q := ⟨_, rfl⟩
              have HP := Lib.hid hp
              rw [← hp] at hpm
              obtain ⟨gc, cc', hvc, hg1, hg2⟩ := own_slice KO.out.1 (by rw [ofFs_length, fcol_length]; omega)
              injection hvc with hvc1 hvc2 hvc3
              subst hvc1
              clear hvc2 hvc3
              have hcp := KO.out.cell (fcol_get (f := X) hpm)
              obtain ⟨A, c2, hA, _, _, _, hu, hr⟩ := (KT.out.is.below BQ.out)
              rw [nats_length, HAL.out, ← HN.out] at hA
              injection hA with hA1 hA2 hA3
              subst hA1 hA3
              clear hA2
              obtain ⟨b1, o1, z, rfl, hb1, hgz, hz64, hcz⟩ := ints_at hr hu (k := q) (by rw [nats_length, HAL.out, ← HN.out]; exact hltq)
              have hze := nats_get hgz
              rw [← hp] at hze
              subst hze
              clear hu hr hb1 hgz hp
              go_wp2_with fail
              refine (rNeg_any _ _ (U64.of_ofF _)).mono ?_
              rintro e w' ⟨rfl, rfl⟩
              rw [toF_ofF]
              try dsimp only
              clear hcp hcz
              go_wp2_with fail
              go_loopw [14] (fun x W4 => ∃ i : Nat, i ≤ k ∧ x = .int .i64 i ∧ OwnNums W4 W1.heap.size (.slice (some ⟨gc, 0, none⟩) k cc) (ofFs (fcol (mixC (fun r => X r + (- X p) * Bof cols q r) X i) k)) ∧ Below W1.heap.size W1 W4) (fun x _ => k - (intOf x).toNat)
              case atStart => exact ⟨0, Nat.zero_le _, rfl, by rw [mixC_zero]; exact KO.out, BQ.out⟩
              case round =>
                obtain ⟨i, hi, rfl, hown, hbq⟩ := hrel
                obtain ⟨W4, hW4⟩ : ∃ W4, W4 = wr := ⟨_, rfl⟩
                subst hW4
                clear KO BQ
                have KO := Lib.hid hown
                have BQ := Lib.hid hbq
                clear hown hbq
                by_cases hlti : i < k
                · have hdi : decide ((i : Int) < (k : Int)) = true := by simp; omega
                  have hco := KO.out.cell (fcol_get (f := mixC (fun r => X r + (- X p) * Bof cols q r) X i) hlti)
                  rw [show mixC (fun r => X r + (- X p) * Bof cols q r) X i i = X i by unfold mixC; rw [if_neg (by omega)]] at hco
                  have hfo := KO.out.frozen i
                  obtain ⟨l, hl⟩ : ∃ l, cols[q]? = some l := ⟨_, List.getElem?_eq_getElem (by rw [HCL.out, ← HN.out]; exact hltq)⟩
                  have hll := HCM.out l (List.mem_of_getElem? hl)
                  have hrow : (cols.map ofFs)[q]? = some (ofFs l) := by rw [List.getElem?_map, hl]; rfl
                  have KGq := KG.out.below BQ.out
                  obtain ⟨bk, ck, hvk, hok, _, _, hbk1, hbk2⟩ := KGq.at_ hrow (by rw [ofFs_length]; omega)
                  rw [ofFs_length, hll] at hvk hok
                  obtain ⟨gb, cgb, hgb, _, _⟩ := own_slice KGq.outer (by rw [List.length_map, HCL.out, ← HN.out]; omega)
                  injection hgb with hgb1 hgb2 hgb3
                  subst hgb1
                  clear hgb2 hgb3
                  have hck := KGq.cell hvk
                  have hcb3 := hok.cell (ofFs_get (get_co (l := l) (j := i) (by omega)))
                  have HB := Lib.hid (show Bof cols q i = co l i from Bof_get hl i)
                  have HSET := Lib.hid (mixC_set (Y := fun r => X r + (- X p) * Bof cols q r) (X := X) hlti)
                  clear hl hll hrow KGq hvk hok
                  go_wp2_with fail
                  refine wp_region_quiet_mask [true, true, false, false, false, false, false, false, false, false, false, false, false, false, false, false] (by kernel_rfl) (by kernel_rfl) (fun _ _ _ _ _ h => h) ?_
                  simp only [List.length_cons, List.length_nil, Nat.zero_add, Nat.reduceAdd, List.take_succ_cons, List.take_zero, List.drop_succ_cons, List.drop_zero, pickT, pickF, putAll, moved]
                  simp [Act.put, Act.eval]
                  repeat (go_big_quiet_step ((first | exact quietL (rMul_any _ _ _ (U64.of_ofF _) (U64.of_ofF _)) | exact quietL (rAdd_any _ _ _ (U64.of_ofF _) (U64.of_ofF _)))))
                  refine wpQuiet_nil ?_
                  intro nq
                  have K4 := Lib.hid (KO.out.drewN nq |>.set_ i (U64.of_ofF (X i + (- X p) * co l i)))
                  have B4 := Lib.hid ((below_drewN BQ.out nq).setCell (p := ⟨gc, i, none⟩) hg1 (.int .u64 (ofF (X i + (- X p) * co l i))))
                  go_wp2_with fail
                  simp only [toF_ofF]
                  refine ⟨⟨i + 1, by omega, by go_num, ?_, B4.out⟩, by simp [intOf] <;> omega⟩
                  have h := K4.out
                  rw [← HB.out, HSET.out] at h
                  rw [← HB.out]
                  exact h
                · obtain rfl : k = i := by omega
                  have hdi : decide ((k : Int) < (k : Int)) = false := by simp
                  rw [mixC_all] at KO
                  go_wp2_with fail
                  refine ⟨⟨q + 1, _, by omega, by go_num, ?_, KO.out, BQ.out⟩, by simp [intOf] <;> omega⟩
                  have h := HCLR.out
                  rw [HN.out] at h ⊢
                  refine Clr.step HBAS.out h (by rw [← HN.out]; exact hltq) (fun r hr => ?_)
                  rw [← HP.out]
            · obtain rfl : n = q := by omega
              have hdq : decide ((n : Int) < (n : Int)) = false := by simp
              have HCL2 := Lib.hid (show Clr (mx rows0) k c (Bof cols) (ld ats) ls.length ls.length X by rw [← HN.out]; exact HCLR.out)
              clear HCLR
              go_wp2_with fail
              obtain ⟨wo, hwo⟩ : ∃ wo, wo = W3 := ⟨_, rfl⟩
              subst hwo
              go_loop [15, 16] (fun f x => ∃ q : Nat, q ≤ k ∧ x = .int .i64 ((q : Int) - 1) ∧ ((f = .int .i64 (-1) ∧ ∀ r, q ≤ r → r < k → X r = 0) ∨ ∃ p : Nat, f = .int .i64 p ∧ p < k ∧ X p ≠ 0)) (fun _ x => (intOf x + 1).toNat)
              case atStart => exact ⟨k, Nat.le_refl _, rfl, .inl ⟨rfl, fun r h1 h2 => by omega⟩⟩
              case round =>
                obtain ⟨q, hq, rfl, hff⟩ := hrel
                by_cases hq0 : 0 < q
                · obtain ⟨i, rfl⟩ : ∃ i, q = i + 1 := ⟨q - 1, by omega⟩
                  have hq1 : (((i + 1 : Nat) : Int) - 1) = (i : Int) := by omega
                  have hdq2 : decide ((i : Int) ≥ 0) = true := by simp
                  clear hq0
                  have HFF := Lib.hid hff
                  clear hff
                  obtain ⟨gc, cc', hvc, hg1, hg2⟩ := own_slice KO.out.1 (by rw [ofFs_length, fcol_length]; omega)
                  injection hvc with hvc1 hvc2 hvc3
                  subst hvc1
                  clear hvc2 hvc3
                  have hcp := KO.out.cell (fcol_get (f := X) (i := i) (show i < k by omega))
                  rw [hq1]
                  by_cases hzero : X i = 0
                  · have HZ := Lib.hid hzero
                    have hbz : (ofF (X i) != 0) = false := by rw [hzero, ofF_zero]; rfl
                    clear hzero hdq2 hq1
                    go_wp2_with fail
                    refine ⟨⟨i, by omega, by go_num, ?_⟩, by simp [intOf] <;> omega⟩
                    rcases HFF.out with ⟨h1, h2⟩ | h
                    · refine .inl ⟨h1, fun r h3 h4 => ?_⟩
                      rcases Nat.lt_or_ge r (i + 1) with h5 | h5
                      · obtain rfl : r = i := by omega
                        exact HZ.out
                      · exact h2 r h5 h4
                    · exact .inr h
                  · have HZ := Lib.hid hzero
                    have hbz : (ofF (X i) != 0) = true := by rw [bne_iff_ne]; intro e; exact hzero (by have := ofF_eq_zero.1 e; exact this)
                    clear hzero hdq2 hq1
                    go_wp2_with fail
                    exact ⟨⟨i, by omega, by go_num, .inr ⟨i, rfl, by omega, HZ.out⟩⟩, by simp [intOf] <;> omega⟩
                · obtain rfl : q = 0 := by omega
                  have hdq2 : decide (((0 : Nat) : Int) - 1 ≥ 0) = false := by simp
                  rcases hff with ⟨rfl, hz⟩ | ⟨p, rfl, hpk, hnz⟩
                  · have HZ := Lib.hid (show ∀ r, r < k → X r = 0 from fun r h => hz r (Nat.zero_le _) h)
                    clear hz
                    have BW := Lib.hid (below_trans BEL.out BQ.out BEL.out.size)
                    go_wp2_with fail
                    refine ⟨⟨c + 1, vs, cols, ats, ls, by omega, by go_num, KG.out.below BQ.out, HCM.out, HCL.out, KT.out.below BQ.out, HAL.out, KL.out.below BQ.out, FAR.out, ?_, fun he => ?_, BW.out⟩, by simp [intOf] <;> omega⟩
                    · rcases Nat.lt_or_ge c v with h | h
                      · rw [Nat.min_eq_left (by omega)]
                        exact HBAS.out.skip HCL2.out HZ.out
                      · obtain rfl : c = v := by omega
                        rw [Nat.min_eq_right (by omega)]
                        exact HBAS.out
                    · obtain rfl : c = v := by omega
                      exact (HCL2.out.dep HBAS.out).2 HZ.out
                  · have HNZ := Lib.hid hnz
                    clear hnz
                    have hpn : decide ((p : Int) < 0) = false := by simp
                    have BW := Lib.hid (below_trans BEL.out BQ.out BEL.out.size)
                    by_cases hcv : c = v
                    · have hbc : ((c : Int) == (v : Int)) = true := by rw [beq_iff_eq]; omega
                      subst hcv
                      go_wp2_with fail
                      refine HPO.out _ _ ⟨_, ls, _, _, false, rfl, ?_, HBAS.out, ⟨(fun h => by cases h), fun h => absurd ((HCL2.out.dep HBAS.out).1 h p hpk) HNZ.out⟩, BW.out⟩
                      exact KL.out.below BQ.out
                    · have hbc : ((c : Int) == (v : Int)) = false := by rw [beq_eq_false_iff_ne]; omega
                      obtain ⟨gc, cc', hvc, hg1, hg2⟩ := own_slice KO.out.1 (by rw [ofFs_length, fcol_length]; omega)
                      injection hvc with hvc1 hvc2 hvc3
                      subst hvc1
                      clear hvc2 hvc3
                      have hcp := KO.out.cell (fcol_get (f := X) hpk)
                      have HCV := Lib.hid (show c < v by omega)
                      clear hcv
                      go_wp2_with fail
                      refine (rInv_any _ _ (U64.of_ofF _)).mono ?_
                      rintro e w' ⟨rfl, rfl⟩
                      rw [toF_ofF]
                      try dsimp only
                      clear hcp
                      go_wp2_with fail
                      go_loopw [18] (fun x W4 => ∃ i : Nat, i ≤ k ∧ x = .int .i64 i ∧ OwnNums W4 W1.heap.size (.slice (some ⟨gc, 0, none⟩) k cc) (ofFs (fcol (mixC (fun r => X r * inv (X p)) X i) k)) ∧ Below W1.heap.size W1 W4) (fun x _ => k - (intOf x).toNat)
                      case atStart => exact ⟨0, Nat.zero_le _, rfl, by rw [mixC_zero]; exact KO.out, BQ.out⟩
                      case round =>
                        obtain ⟨i, hi, rfl, hown, hbq⟩ := hrel
                        obtain ⟨W4, hW4⟩ : ∃ W4, W4 = wr := ⟨_, rfl⟩
                        subst hW4
                        clear KO BQ
                        have KO := Lib.hid hown
                        have BQ := Lib.hid hbq
                        clear hown hbq
                        by_cases hlti : i < k
                        · have hdi : decide ((i : Int) < (k : Int)) = true := by simp; omega
                          have hco := KO.out.cell (fcol_get (f := mixC (fun r => X r * inv (X p)) X i) hlti)
                          rw [show mixC (fun r => X r * inv (X p)) X i i = X i by unfold mixC; rw [if_neg (by omega)]] at hco
                          have hfo := KO.out.frozen i
                          have HSET := Lib.hid (mixC_set (Y := fun r => X r * inv (X p)) (X := X) hlti)
                          have K4 := Lib.hid (KO.out.set_ i (U64.of_ofF (X i * inv (X p))))
                          have B4 := Lib.hid (BQ.out.setCell (p := ⟨gc, i, none⟩) hg1 (.int .u64 (ofF (X i * inv (X p)))))
                          go_wp2_with fail
                          refine (rMul_any _ _ _ (U64.of_ofF _) (U64.of_ofF _)).mono ?_
                          rintro e w' ⟨rfl, rfl⟩
                          simp only [toF_ofF]
                          try dsimp only
                          go_wp2_with fail
                          refine ⟨⟨i + 1, by omega, by go_num, ?_, B4.out⟩, by simp [intOf] <;> omega⟩
                          have h := K4.out
                          rw [HSET.out] at h
                          exact h
                        · obtain rfl : k = i := by omega
                          have hdi : decide ((k : Int) < (k : Int)) = false := by simp
                          rw [mixC_all] at KO
                          have KG2 := Lib.hid (KG.out.below BQ.out)
                          have KT2 := Lib.hid (KT.out.below BQ.out)
                          have KL2 := Lib.hid (KL.out.below BQ.out)
                          have BW2 := Lib.hid (below_trans BEL.out BQ.out BEL.out.size)
                          have hsz3 := BQ.out.size
                          have HFAR := Lib.hid (show ∀ (q : Nat) (z : Value) (b : Nat), vs[q]? = some z → z.ownBlock = some b → (Value.slice (some ⟨gc, 0, none⟩) k cc).ownBlock ≠ some b from fun q z b hz hzb hyb => by
                            have h1 := (KO.out.1.lt b hyb).1
                            have hq := (List.getElem?_eq_some_iff.1 hz).1
                            rw [KG.out.vlen] at hq
                            have h2 := ((KG.out.row q z _ hz (List.getElem?_eq_getElem hq)).1.lt b hzb).2
                            omega)
                          have KO2 := Lib.hid (KO.out.less hsz)
                          go_wp2_with (at_builtin; go_loud (refine wpList_push_row4 rfl _ _ rfl w.heap.size _ vs (cols.map ofFs) (.slice (some ⟨gc, 0, none⟩) k cc) _ _ 1 rfl (KG2.out.alloc _) rfl (new_cell _ _ _) (KO2.out.alloc _) HFAR.out (by rw [List.length_map, HCL.out, ← HN.out]; omega) (by rw [size_alloc]; omega) ?_))
                          intro vb5 W5 hg5 hb5 hgw5 _
                          have G5 := Lib.hid (show Grid W5 w.heap.size vb5 (vs ++ [.slice (some ⟨gc, 0, none⟩) k cc]) ((cols ++ [fcol (fun r => X r * inv (X p)) k]).map ofFs) by
                            rw [List.map_append, List.map_cons, List.map_nil]; exact hg5)
                          have B5 := Lib.hid ((BW2.out.alloc BW2.out.size (.cells #[.slice (some ⟨gc, 0, none⟩) k cc] 26)).trans hb5)
                          have hsz5 := B5.out.size
                          have KT5 := Lib.hid (show OwnInts W5 w.heap.size (.slice At n ct) (nats ats) from (KT2.out.alloc _).kept hgw5 (by
                            cases hb : (Value.slice At n ct).ownBlock with
                            | none => exact .inl rfl
                            | some b => exact .inr fun e => kinds_apart (KT2.out.alloc (.cells #[.slice (some ⟨gc, 0, none⟩) k cc] 26)).1 (KG2.out.alloc (.cells #[.slice (some ⟨gc, 0, none⟩) k cc] 26)).outer (by decide) hb e.symm))
                          have KL5 := Lib.hid (show OwnInts W5 w.heap.size (.slice Al n cl) (nats ls) from (KL2.out.alloc _).kept hgw5 (by
                            cases hb : (Value.slice Al n cl).ownBlock with
                            | none => exact .inl rfl
                            | some b => exact .inr fun e => kinds_apart (KL2.out.alloc (.cells #[.slice (some ⟨gc, 0, none⟩) k cc] 26)).1 (KG2.out.alloc (.cells #[.slice (some ⟨gc, 0, none⟩) k cc] 26)).outer (by decide) hb e.symm))
                          clear hg5 hb5 hgw5
                          go_wp2_with (at_builtin; go_loud (refine wpList_push_int4 rfl _ _ rfl w.heap.size _ (nats ats) (p : Int) W5.heap.size 1 rfl (KT5.out.alloc _) rfl (new_cell _ _ _) (by unfold I64; omega) (by rw [nats_length, HAL.out, ← HN.out]; omega) (by rw [size_alloc]; omega) ?_))
                          intro va6 W6 ho6 hb6 hgw6 hat6
                          have KT6 := Lib.hid (show OwnInts W6 w.heap.size va6 (nats (ats ++ [p])) by rw [nats_snoc]; exact ho6)
                          have B6 := Lib.hid ((B5.out.alloc hsz5 (.cells #[.int .i64 (p : Int)] 3)).trans hb6)
                          have hsz6 := B6.out.size
                          have KL6 := Lib.hid (show OwnInts W6 w.heap.size (.slice Al n cl) (nats ls) from (KL5.out.alloc _).kept hgw6 FAR.out.symm.kept)
                          have FAR6 := Lib.hid (show Far va6 (.slice Al n cl) from (FAR.out.symm.grow (KL5.out.alloc (.cells #[.int .i64 (p : Int)] 3)).under (by rw [size_alloc]; exact hat6)).symm)
                          have G6 := Lib.hid ((G5.out.alloc (.cells #[.int .i64 (p : Int)] 3)).apart_kept (KT5.out.alloc (.cells #[.int .i64 (p : Int)] 3)).1 (by decide) (by decide) hgw6)
                          clear ho6 hb6 hgw6 hat6
                          go_wp2_with (at_builtin; go_loud (refine wpList_push_int4 rfl _ _ rfl w.heap.size _ (nats ls) (c : Int) W6.heap.size 1 rfl (KL6.out.alloc _) rfl (new_cell _ _ _) (by unfold I64; omega) (by rw [nats_length, ← HN.out]; omega) (by rw [size_alloc]; omega) ?_))
                          intro vl7 W7 ho7 hb7 hgw7 hat7
                          have KL7 := Lib.hid (show OwnInts W7 w.heap.size vl7 (nats (ls ++ [c])) by rw [nats_snoc]; exact ho7)
                          have B7 := Lib.hid ((B6.out.alloc hsz6 (.cells #[.int .i64 (c : Int)] 3)).trans hb7)
                          have KT7 := Lib.hid (show OwnInts W7 w.heap.size va6 (nats (ats ++ [p])) from (KT6.out.alloc _).kept hgw7 FAR6.out.kept)
                          have FAR7 := Lib.hid (show Far va6 vl7 from FAR6.out.grow (KT6.out.alloc (.cells #[.int .i64 (c : Int)] 3)).under (by rw [size_alloc]; exact hat7))
                          have G7 := Lib.hid ((G6.out.alloc (.cells #[.int .i64 (c : Int)] 3)).apart_kept (KL6.out.alloc (.cells #[.int .i64 (c : Int)] 3)).1 (by decide) (by decide) hgw7)
                          clear ho7 hb7 hgw7 hat7
                          go_wp2_with fail
                          refine ⟨⟨c + 1, _, cols ++ [fcol (fun r => X r * inv (X p)) k], ats ++ [p], ls ++ [c], by omega, by go_num, G7.out, ?_, ?_, KT7.out, ?_, KL7.out, FAR7.out, ?_, (fun he => by have := HCV.out; omega), B7.out⟩, by simp [intOf] <;> omega⟩
                          · intro l hl
                            rcases List.mem_append.1 hl with h | h
                            · exact HCM.out l h
                            · rw [List.mem_singleton.1 h, fcol_length]
                          · rw [List.length_append, List.length_append, HCL.out]; rfl
                          · rw [List.length_append, List.length_append, HAL.out]; rfl
                          · rw [Nat.min_eq_left (by have := HCV.out; omega)]
                            refine HBAS.out.add HCL2.out hpk HNZ.out (fun q r hq hr => ?_) (fun q hq => ?_) (fun r hr => ?_) ?_
                            · unfold Bof
                              simp [List.getD, List.getElem?_append_left (show q < cols.length by rw [HCL.out]; exact hq)]
                            · exact ld_snoc_lt (by rw [HAL.out]; exact hq)
                            · rw [Bof_get (l := fcol (fun r => X r * inv (X p)) k) (by rw [← HCL.out]; simp)]
                              exact co_get (fcol_at hr)
                            · exact ld_snoc_at HAL.out.symm
    · obtain rfl : c = v + 1 := by omega
      have hdc : decide (((v + 1 : Nat) : Int) ≤ (v : Int)) = false := by simp; omega
      have HBAS := Lib.hid (show Bas (mx rows0) m v (Bof cols) (ld ats) ls by rw [Nat.min_eq_right (by omega)] at hbas; exact hbas)
      clear hbas
      go_wp2_with fail
      exact HPO.out _ _ ⟨_, ls, _, _, true, rfl, KL.out, HBAS.out, ⟨(fun _ => by first | exact HDEP.out rfl | exact HDEP.out trivial), fun _ => rfl⟩, BEL.out⟩
end Go.Proofs.Ytbonkdfainngkaa
