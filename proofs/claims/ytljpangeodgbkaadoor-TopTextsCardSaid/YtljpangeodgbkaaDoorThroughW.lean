/- Points, and polynomials through them: what each call returns. -/
import Derived.Test.YtljpangeodgbkaaDoorShares
import Derived.Test.YtljpangeodgbkaaDoorGateW
import Derived.Test.YtljpangeodgbkaaDoorKeepW
namespace Go.Proofs.YtljpangeodgbkaaDoor
open Go.RowKit Croft

/-- a quiet contract, met in a region that draws -/
theorem quietN {P : Program} {f : FuncId} {args : Array Value} {w : World} {n : Nat} {v : Value} (h : Calls P f args (w.drewN n) fun e w' => e = .returned v ∧ ∃ m, w' = (w.drewN n).drewN m) :
    Calls P f args (w.drewN n) fun e w'' => e = .returned v ∧ ∃ m, w'' = w.drewN m := h.mono fun _ _ ⟨he, m, hm⟩ => ⟨he, n + m, by rw [hm, World.drewN_drewN]⟩
theorem size_alloc (w : World) (o : Obj) : (w.alloc o).heap.size = w.heap.size + 1 := by show (w.heap.push o).size = _; simp
theorem not_ok_of_take {l : List (Int × Int)} {most : Int} {k : Nat} (h : ¬ AtsOk (l.take k) most) : atsB l most = false := decide_eq_false fun hh => h (atsOk_mono k hh)
/-- numbers written out are the call's own -/
theorem lit_own (w : World) (base : Nat) (zs : List Int) (h : ∀ z ∈ zs, U64 z) (hl : zs.length ≤ 1000) (hb : base ≤ w.heap.size) : OwnNums (w.alloc (.cells (u64s zs).toArray 46)) base (.slice (some ⟨w.heap.size, 0, none⟩) zs.length zs.length) zs := by
  refine ⟨⟨by rw [u64s_length]; omega, .inr ⟨w.heap.size, zs.length, (u64s zs).toArray, rfl, hb, heap_alloc_new w _, Nat.le_refl _, by unfold maxLen; omega, by simp [u64s_length], ?_⟩⟩, by omega, h⟩
  unfold u64s
  exact List.take_of_length_le (by simp)
def ptsF (l : List (Int × Int)) : List (F × F) := l.map fun s => (toF s.1, toF s.2)
theorem ptsF_fst (l : List (Int × Int)) : (ptsF l).map (·.1) = (l.map (·.1)).map toF := by simp [ptsF]
theorem toF_small {a b : Int} (ha : 1 ≤ a ∧ a ≤ 2147483646) (hb : 1 ≤ b ∧ b ≤ 2147483646) (h : toF a = toF b) : a = b := by
  rw [toF_eq_iff, ← P_int, Int.emod_eq_of_lt (by omega) (by omega), Int.emod_eq_of_lt (by omega) (by omega)] at h
  exact h
theorem pts_nodup {l : List (Int × Int)} (h : AtsOk l 2147483646) : ((ptsF l).map (·.1)).Nodup := by
  rw [ptsF_fst]
  obtain ⟨h1, h2⟩ := h
  have h3 : ∀ a ∈ l.map (·.1), 1 ≤ a ∧ a ≤ 2147483646 := fun a ha => by
    obtain ⟨s, hs, rfl⟩ := List.mem_map.1 ha
    exact h1 s hs
  generalize l.map (·.1) = ats at *
  induction ats with
  | nil => simp
  | cons a ats ih =>
    rw [List.nodup_cons] at h2
    rw [List.map_cons, List.nodup_cons]
    refine ⟨fun hm => ?_, ih h2.2 (fun b hb => h3 b (by simp [hb]))⟩
    obtain ⟨b, hb, hbe⟩ := List.mem_map.1 hm
    have := toF_small (h3 a (by simp)) (h3 b (by simp [hb])) hbe.symm
    subst this
    exact h2.1 hb
theorem pts_take {l : List (Int × Int)} {k : Nat} {a y : Int} (h : l[k]? = some (a, y)) : ptsF (l.take (k + 1)) = ptsF (l.take k) ++ [(toF a, toF y)] := by
  rw [List.take_add_one, h]
  simp [ptsF]
theorem fresh_at {l : List (Int × Int)} {k : Nat} {a : Int} (hok : AtsOk (l.take k) 2147483646) (ha : 1 ≤ a ∧ a ≤ 2147483646) : (toF a ∈ (ptsF (l.take k)).map (·.1)) ↔ a ∈ (l.take k).map (·.1) := by
  rw [ptsF_fst]
  constructor
  · intro h
    obtain ⟨b, hb, hbe⟩ := List.mem_map.1 h
    obtain ⟨s, hs, rfl⟩ := List.mem_map.1 hb
    rw [toF_small ha (hok.1 s hs) hbe.symm]; exact hb
  · intro h; exact List.mem_map.2 ⟨a, h, rfl⟩
theorem toFs_lin' (x : Int) : toFs [ofF (toF 0 - toF x), 1] = [-toF x, 1] := by
  simp only [toFs, List.map, toF_ofF, toF_one, toF_zero]
  congr 1
theorem pThrough_big (va : Value) (l : List (Int × Int)) (w : World) (h1 : IsShares w va l) (h : 40 < l.length) :
    Calls Tryd.prog 79 #[va] w fun e w' => ListRes w e w' [] 2 := by
  obtain ⟨A1, c1, rfl, hc1, hm1, hl1, hu1, hr1⟩ := h1
  have h' : (40 : Int) < (l.length : Int) := by omega
  go_enter Tryd.func79, Tryd.ntmps79
  go_wp2_with fail
  go_ret2
  exact ⟨_, rfl, OwnNums.nil _ _, Below.refl _ _⟩
set_option maxRecDepth 100000 in
set_option maxHeartbeats 2000000 in
theorem pThrough_small (va : Value) (l : List (Int × Int)) (w : World) (h1 : IsShares w va l) (h : l.length ≤ 40) :
    Calls Tryd.prog 79 #[va] w fun e w' => (AtsOk l 2147483646 → ∃ Q, Interp (ptsF l) Q ∧ ListRes w e w' (ofFs Q) 0) ∧ (¬ AtsOk l 2147483646 → ListRes w e w' [] 5) := by
  obtain ⟨A1, c1, rfl, hc1, hm1, hl1, hu1, hr1⟩ := h1
  have h' : ¬ (40 : Int) < (l.length : Int) := by omega
  suffices hgoal : ∀ Post : Ending → World → Prop, (∀ e w' Q, AtsOk l 2147483646 → Interp (ptsF l) Q → ListRes w e w' (ofFs Q) 0 → Post e w') → (∀ e w', ¬ AtsOk l 2147483646 → ListRes w e w' [] 5 → Post e w') → Calls Tryd.prog 79 #[.slice A1 l.length c1] w Post from
    hgoal _ (fun e w' Q ha hi hr => ⟨fun _ => ⟨Q, hi, hr⟩, fun hn => absurd ha hn⟩) (fun e w' ha hr => ⟨fun hn => absurd hn ha, fun _ => hr⟩)
  intro Post hp1 hp2
  have HP1 := Lib.hid hp1
  have HP2 := Lib.hid hp2
  clear hp1 hp2
  go_enter Tryd.func79, Tryd.ntmps79
  go_wp2_with (refine wpList_make_nums rfl _ _ rfl w.heap.size _ l.length rfl rfl rfl (by omega) (Nat.le_refl _) ?_)
  intro W1 ho hb
  have HO := Lib.hid ho
  have HB := Lib.hid hb
  have hsz := hb.size
  have hlt := (ho.1.lt w.heap.size rfl).2
  clear ho hb
  have K0 := Lib.hid (show OwnNums (W1.alloc (.cells #[.int .u64 1] 46)) w.heap.size (.slice (some ⟨w.heap.size, 0, none⟩) l.length l.length) (ofFs (List.replicate l.length 0)) by
    have : ofFs (List.replicate l.length 0) = List.replicate l.length 0 := by simp [ofFs, ofF_zero]
    rw [this]; exact HO.out.alloc _)
  have K1 := Lib.hid (show OwnNums (W1.alloc (.cells #[.int .u64 1] 46)) (w.heap.size + 1) (.slice (some ⟨W1.heap.size, 0, none⟩) 1 1) (ofFs [1]) from lit_own W1 (w.heap.size + 1) [1] (by simp [U64]) (by simp) (by omega))
  have BEL := Lib.hid (HB.out.alloc (by omega) (.cells #[.int .u64 1] 46))
  have R0 := Lib.hid ((hr1.below HB.out).below ((Below.refl _ _).alloc (Nat.le_refl _) (.cells #[.int .u64 1] 46)))
  clear HO HB
  go_wp2_with fail
  obtain ⟨w0, hw0⟩ : ∃ w0, w0 = W1.alloc (.cells #[.int .u64 1] 46) := ⟨_, rfl⟩
  rw [← hw0] at K0 K1 BEL R0 ⊢
  clear hw0
  go_loopw [5, 23] (fun bv i wr => ∃ (k : Nat) (O : List F), k ≤ l.length ∧ i = .int .i64 k ∧ O.length = l.length ∧ AtsOk (l.take k) 2147483646 ∧ Goes O (ptsF (l.take k)) ∧ OwnNums wr w.heap.size (.slice (some ⟨w.heap.size, 0, none⟩) l.length l.length) (ofFs O) ∧ OwnNums wr (w.heap.size + 1) bv (ofFs (baseN ((ptsF (l.take k)).map (·.1)))) ∧ Below w.heap.size w wr) (fun _ i _ => l.length - (intOf i).toNat)
  case atStart => exact ⟨0, List.replicate l.length 0, Nat.zero_le _, rfl, by simp, ⟨by simp, by simp⟩, fun p hp => by simp [ptsF] at hp, K0.out, K1.out, BEL.out⟩
  case round =>
    obtain ⟨k, O, hk, rfl, hO, hok, hg, hoo, hob, hbel⟩ := hrel
    clear K0 K1 BEL R0
    have HOK := Lib.hid hok
    have HG := Lib.hid hg
    have KO := Lib.hid hoo
    have KB := Lib.hid hob
    have BEL := Lib.hid hbel
    have hsz := hbel.size
    have hr := hr1.below hbel
    clear hok hg hoo hob
    by_cases hlt : k < l.length
    · obtain ⟨b1, o1, at_, y, rfl, hb1, hgk, hat, huy, hc1, hc2⟩ := share_at hr hu1 hlt
      have HGK := Lib.hid hgk
      obtain ⟨B, hB⟩ : ∃ B, B = baseN ((ptsF (l.take k)).map (·.1)) := ⟨_, rfl⟩
      have hBl : B.length = k + 1 := by rw [hB, baseN_length]; simp [ptsF]; omega
      rw [← hB] at KB
      have HBB := Lib.hid hB
      obtain ⟨gb, cb, hv, hgb1, hgb2, hcb1, hcb2⟩ := KB.out.form (by rw [ofFs_length]; omega)
      rw [ofFs_length, hBl] at hv
      subst hv
      rw [ofFs_length] at hcb1
      clear hgk hr hbel hB
      by_cases hin : 1 ≤ at_ ∧ at_ ≤ 2147483646
      · have HIN := Lib.hid hin
        have hd1 : decide (at_ < 1) = false := by simp; omega
        obtain ⟨hi1, hi2⟩ := hin
        go_wp2_with fail
        obtain ⟨u, hu⟩ : ∃ u, u = peval B (toF at_) := ⟨_, rfl⟩
        have HU := Lib.hid hu
        refine (pAt_any _ _ _ _ (KB.out.is.below ((Below.refl _ _).alloc (Nat.le_refl _) _)) (show 0 ≤ at_ by omega)).mono ?_
        rintro e w' ⟨rfl, n1, hw1⟩
        rw [toFs_ofFs, ← HU.out]
        have W1 := Lib.hid hw1
        clear hu hw1
        dsimp only
        go_wp2_with fail
        refine (fInv_any _ _ (ofF_nonneg _)).mono ?_
        rintro e w' ⟨rfl, rfl⟩
        rw [toF_ofF]
        by_cases hz : u = 0
        · have hze : zErr u = 1 := if_pos hz
          rw [hze]
          have HN := Lib.hid (show ¬ AtsOk l 2147483646 from fun h => by
            have h1 := (fresh_at HOK.out HIN.out).1 ((baseN_zero _ _).1 (by rw [← HBB.out]; exact HU.out.symm.trans hz))
            exact ((atsOk_take HGK.out).1 (atsOk_mono (k + 1) h)).2.2 h1)
          clear hz hze
          dsimp only
          go_wp2_with fail
          refine HP2.out _ _ HN.out ⟨_, rfl, OwnNums.nil _ _, ?_⟩
          rw [W1.out]
          exact below_drewN (BEL.out.alloc hsz _) _
        · have hze : zErr u = 0 := if_neg hz
          rw [hze]
          have HNM := Lib.hid (show toF at_ ∉ (ptsF (l.take k)).map (·.1) from fun h => hz (HU.out.trans (by rw [HBB.out]; exact (baseN_zero _ _).2 h)))
          clear hze hz
          have KOw := Lib.hid (show IsNums w' (.slice (some ⟨w.heap.size, 0, none⟩) l.length l.length) (ofFs O) from by rw [W1.out]; exact (KO.out.is.below ((Below.refl _ _).alloc (Nat.le_refl _) _)).drewN _)
          have hcy : w'.cell? ⟨wr.heap.size, 1, none⟩ = some (.int .u64 y) := by
            rw [W1.out]
            show (wr.alloc _).cell? _ = _
            rw [cell_of_row _ _ 1 _ _ (0, 0) (heap_alloc_new _ _)]; rfl
          obtain ⟨x, hx⟩ : ∃ x, x = toF at_ := ⟨_, rfl⟩
          obtain ⟨c, hc⟩ : ∃ c, c = (toF y - peval O x) * inv u := ⟨_, rfl⟩
          have HX := Lib.hid hx
          have HC := Lib.hid hc
          clear hx hc
          dsimp only
          go_wp2_with fail
          refine wp_region_quiet_tail 8 (by kernel_rfl) (by kernel_rfl) ?_
          simp only [List.take_succ_cons, List.take_zero, List.drop_succ_cons, List.drop_zero]
          repeat (go_big_quiet_step ((first | exact quietN (pAt_any _ _ _ _ (KOw.out.drewN _) (by omega)) | exact quietL (fMul_any _ _ _ (ofF_nonneg _) (ofF_nonneg _)) | exact quietL (fSub_any _ _ _ huy.1 (ofF_nonneg _)))))
          refine wpQuiet_nil ?_
          intro nq
          simp only [toF_ofF, toFs_ofFs]
          rw [← HX.out, ← HC.out]
          have KO2 := Lib.hid (show OwnNums (w'.drewN nq) w.heap.size (.slice (some ⟨w.heap.size, 0, none⟩) l.length l.length) (ofFs O) from by rw [W1.out]; exact ((KO.out.alloc _).drewN _).drewN _)
          have KB2 := Lib.hid (show OwnNums (w'.drewN nq) (w.heap.size + 1) (.slice (some ⟨gb, 0, none⟩) (k + 1) cb) (ofFs B) from by rw [W1.out]; exact ((KB.out.alloc _).drewN _).drewN _)
          have BEL2 := Lib.hid (show Below w.heap.size w (w'.drewN nq) from by rw [W1.out]; exact below_drewN (below_drewN (BEL.out.alloc hsz _) _) _)
          clear hcy
          obtain ⟨wo, hwo⟩ : ∃ wo, wo = w'.drewN nq := ⟨_, rfl⟩
          rw [← hwo] at KO2 KB2 BEL2 ⊢
          clear hwo
          go_wp2_with fail
          go_loopw [57] (fun i wr => ∃ j : Nat, j ≤ k + 1 ∧ i = .int .i64 j ∧ OwnNums wr w.heap.size (.slice (some ⟨w.heap.size, 0, none⟩) l.length l.length) (ofFs (accL O c B j)) ∧ OwnNums wr (w.heap.size + 1) (.slice (some ⟨gb, 0, none⟩) (k + 1) cb) (ofFs B) ∧ Below w.heap.size w wr) (fun i _ => k + 1 - (intOf i).toNat)
          case atStart => exact ⟨0, Nat.zero_le _, rfl, by rw [accL_zero]; exact KO2.out, KB2.out, BEL2.out⟩
          case round =>
            obtain ⟨j, hj, rfl, ho, hb, hbel⟩ := hrel
            clear KO2 KB2 BEL2 KOw
            by_cases hlt2 : j < k + 1
            · have hcb := hb.cell (ofFs_get (get_co (l := B) (j := j) (by omega)))
              have hco := ho.cell (ofFs_get (get_co (l := accL O c B j) (j := j) (by rw [accL_length]; omega)))
              have hfo := ho.frozen j
              obtain ⟨s, hs⟩ : ∃ s, s = co (accL O c B j) j := ⟨_, rfl⟩
              obtain ⟨q, hq⟩ : ∃ q, q = co B j := ⟨_, rfl⟩
              have ho2 := ho.set_ j (U64.of_ofF (s + c * q))
              rw [ofFs_set, hs, hq, accL_set] at ho2
              rw [← hs] at hco
              rw [← hq] at hcb
              have HS := Lib.hid hs
              have HQ := Lib.hid hq
              have HO := Lib.hid ho2
              have HB := Lib.hid (hb.far (g' := w.heap.size) (by omega) j (.int .u64 (ofF (s + c * q))))
              have HBE := Lib.hid (hbel.setCell (p := ⟨w.heap.size, j, none⟩) (Nat.le_refl _) (.int .u64 (ofF (s + c * q))))
              rw [← HS.out, ← HQ.out] at HO
              clear ho hb ho2 hbel hs hq
              go_wp2_with fail
              refine wp_region_quiet_tail 11 (by kernel_rfl) (by kernel_rfl) ?_
              simp only [List.take_succ_cons, List.take_zero, List.drop_succ_cons, List.drop_zero]
              repeat (go_big_quiet_step ((first | exact quietL (fMul_any _ _ _ (ofF_nonneg _) (ofF_nonneg _)) | exact quietL (fAdd_any _ _ _ (ofF_nonneg _) (ofF_nonneg _)))))
              refine wpQuiet_nil ?_
              intro nq
              go_wp2_with fail
              simp only [toF_ofF]
              refine ⟨⟨j + 1, by omega, by go_num, HO.out.drewN nq, HB.out.drewN nq, below_drewN HBE.out nq⟩, by simp [intOf] <;> omega⟩
            · have hjk : j = k + 1 := by omega
              subst hjk
              have HO := Lib.hid ho
              have HB := Lib.hid hb
              have HBE := Lib.hid hbel
              have hsz2 := hbel.size
              clear ho hb hbel
              go_wp2_with fail
              refine (fSub_any _ _ _ (by omega) (show 0 ≤ at_ by omega)).mono ?_
              rintro e w' ⟨rfl, rfl⟩
              dsimp only
              go_wp2_with fail
              refine (pmul_any _ _ (ofFs B) [ofF (toF 0 - toF at_), 1] _ (by have h := HB.out.is.alloc (.cells #[.int .u64 (ofF (toF 0 - toF at_)), .int .u64 1] 46); exact h) (lit_own _ 0 [ofF (toF 0 - toF at_), 1] (fun z hz => by simp at hz; rcases hz with rfl | rfl; exact U64.of_ofF _; exact ⟨by omega, by omega⟩) (by simp) (Nat.zero_le _)).is (by rw [ofFs_length]; omega) (by simp)).mono ?_
              rintro e W5 ⟨v5, rfl, ho, hb⟩
              rw [toFs_ofFs, toFs_lin'] at ho
              have K5 := Lib.hid ho
              replace HO := Lib.hid ((HO.out.alloc (.cells #[.int .u64 (ofF (toF 0 - toF at_)), .int .u64 1] 46)).below hb)
              replace HBE := Lib.hid (below_trans (HBE.out.alloc hsz2 (.cells #[.int .u64 (ofF (toF 0 - toF at_)), .int .u64 1] 46)) hb (by rw [size_alloc]; omega))
              clear ho hb
              dsimp only
              go_wp2_with fail
              refine ⟨⟨k + 1, accL O c B (k + 1), by omega, by go_num, by rw [accL_length]; exact hO, (atsOk_take HGK.out).2 ⟨HOK.out, HIN.out, fun hm => HNM.out ((fresh_at HOK.out HIN.out).2 hm)⟩, ?_, HO.out, ?_, HBE.out⟩, by simp [intOf] <;> omega⟩
              · rw [pts_take HGK.out, ← hBl, HBB.out]
                exact goes_step HG.out (by simp [ptsF]; omega) HNM.out (by rw [HC.out, HU.out, HBB.out, HX.out])
              · rw [pts_take HGK.out, List.map_append]
                simp only [List.map_cons, List.map_nil]
                rw [baseN_snoc, ← HBB.out]
                exact K5.out.less (by rw [size_alloc]; omega)
      · have HIN := Lib.hid hin
        have HN := Lib.hid (show ¬ AtsOk l 2147483646 from fun h => HIN.out ((atsOk_take HGK.out).1 (atsOk_mono (k + 1) h)).2.1)
        by_cases h1 : at_ < 1
        · clear hin
          go_wp2_with fail
          exact HP2.out _ _ HN.out ⟨_, rfl, OwnNums.nil _ _, BEL.out.alloc hsz _⟩
        · have hd1 : decide (at_ < 1) = false := by simp; omega
          have h2 : at_ ≥ 2147483647 := by omega
          clear hin
          go_wp2_with fail
          exact HP2.out _ _ HN.out ⟨_, rfl, OwnNums.nil _ _, BEL.out.alloc hsz _⟩
    · have hkl : k = l.length := by omega
      clear hr hbel
      go_wp2_with fail
      refine (pNormal_any _ _ _ KO.out.is).mono ?_
      rintro e W3 ⟨v3, rfl, ho, hb⟩
      rw [toFs_ofFs] at ho
      have K3 := Lib.hid (ho.less hsz)
      replace BEL := Lib.hid (below_trans BEL.out hb hsz)
      clear ho hb
      dsimp only
      go_wp2_with fail
      have h1 := HOK.out
      have h2 := HG.out
      rw [hkl, List.take_of_length_le (Nat.le_refl _)] at h1 h2
      exact HP1.out _ _ _ h1 (interp_of_goes h2 (by simp [ptsF, hO])) ⟨_, rfl, K3.out, BEL.out⟩
end Go.Proofs.YtljpangeodgbkaaDoor
