/- Parts of the proof, put together by a program: ThroughW PieceW DeskW. No condition. -/
import Derived.Test.YtploomncapiloaaGreatDoorDAG
import Derived.Test.YtploomncapiloaaGreatDoorDAH
import Derived.Deep.CutBlock
import Derived.Deep.CutRange
import Derived.Deep.RegionLaw
import Derived.Lib.SliceRun
import Derived.PlainAid
namespace Go.Proofs.YtploomncapiloaaGreatDoor
open Go.RowKit Croft
theorem quietN {P : Program} {f : FuncId} {args : Array Value} {w : World} {n : Nat} {v : Value} (h : Calls P f args (w.drewN n) fun e w' => e = .returned v ∧ ∃ m, w' = (w.drewN n).drewN m) :
    Calls P f args (w.drewN n) fun e w'' => e = .returned v ∧ ∃ m, w'' = w.drewN m := h.mono fun _ _ ⟨he, m, hm⟩ => ⟨he, n + m, by rw [hm, World.drewN_drewN]⟩
theorem size_alloc (w : World) (o : Obj) : (w.alloc o).heap.size = w.heap.size + 1 := by show (w.heap.push o).size = _; simp
theorem not_ok_of_take {l : List (Int × Int)} {most : Int} {k : Nat} (h : ¬ AtsOk (l.take k) most) : atsB l most = false := decide_eq_false fun hh => h (atsOk_mono k hh)
set_option maxRecDepth 100000 in
theorem rAts_any (va : Value) (l : List (Int × Int)) (most : Int) (w : World) (h1 : IsShares w va l) :
    Calls Tryz.prog 128 #[va, .int .i64 most] w fun e w' => e = .returned (.bool (atsB l most)) ∧ ∃ n, w' = w.drewN n := by
  obtain ⟨A1, c1, rfl, hc1, hm1, hl1, hu1, hr1⟩ := h1
  go_enter Tryz.func128, Tryz.ntmps128
  go_wp2_with fail
  go_loopw [5] (fun i wr => ∃ k n : Nat, k ≤ l.length ∧ i = .int .i64 k ∧ AtsOk (l.take k) most ∧ wr = w.drewN n) (fun i _ => l.length - (intOf i).toNat)
  case atStart => exact ⟨0, 0, Nat.zero_le _, rfl, ⟨by simp, by simp⟩, rfl⟩
  case round =>
    obtain ⟨k, n, hk, rfl, hok, hw⟩ := hrel
    have hr := hr1.drewn hw
    have HW := Lib.hid hw
    have HK := Lib.hid hok
    clear hw hr1 hok
    by_cases hlt : k < l.length
    · obtain ⟨b1, o1, at_, y, rfl, hb1, hg, hat, huy, hc1, hc2⟩ := share_at hr hu1 hlt
      have HG := Lib.hid hg
      clear hg
      by_cases hin : 1 ≤ at_ ∧ at_ ≤ most
      · have HD := Lib.hid (decide_eq_true hin)
        have HI := Lib.hid hin
        clear hin
        go_wp2_with fail
        refine (rIn_any _ _ _ _).mono ?_
        rintro e w' ⟨rfl, rfl⟩
        rw [HD.out]
        try dsimp only
        go_wp2_with fail
        obtain ⟨wo, hwo⟩ : ∃ wo, wo = wr := ⟨_, rfl⟩
        subst hwo
        go_loopw [6] (fun i wr => ∃ j n : Nat, j ≤ k ∧ i = .int .i64 j ∧ (∀ i s, i < j → l[i]? = some s → s.1 ≠ at_) ∧ wr = wo.drewN n) (fun i _ => k - (intOf i).toNat)
        case atStart => exact ⟨0, 0, Nat.zero_le _, rfl, fun i s h => by omega, rfl⟩
        case round =>
          obtain ⟨j, m, hj, rfl, hne, hw2⟩ := hrel
          have hr2 := hr.drewn hw2
          have HW2 := Lib.hid hw2
          have HN := Lib.hid hne
          clear hne hc1 hc2
          by_cases hlt2 : j < k
          · obtain ⟨b2, o2, at2, y2, hA, hb2, hg2, hat2, huy2, hd1, hd2⟩ := share_at hr2 hu1 (show j < l.length by omega)
            obtain ⟨b3, o3, at3, y3, hA3, hb3, hg3, hat3, huy3, hd3, hd4⟩ := share_at hr2 hu1 hlt
            injection hA with hA
            injection hA with hA1 hA2
            subst hA1 hA2
            injection hA3 with hA3
            injection hA3 with hA4 hA5
            subst hA4 hA5
            have he3 : (at3, y3) = (at_, y) := by have := HG.out; rw [hg3] at this; injection this
            injection he3 with he4 he5
            subst he4 he5
            have HG2 := Lib.hid hg2
            clear hg2 hg3 hw2 hr hr2 hb2 hb3
            by_cases heq : at2 = at3
            · subst heq
              go_wp2_with fail
              go_quiet (fail)
              go_wp2_with fail
              go_ret
              refine ⟨?_, n + (m + nq), ?_⟩
              · rw [not_ok_of_take (k := k + 1) (fun hh => ((atsOk_take HG.out).1 hh).2.2 (List.mem_map.2 ⟨_, List.mem_of_getElem? (i := j) (by rw [List.getElem?_take, if_pos hlt2]; exact HG2.out), rfl⟩))]; rfl
              · rw [drewn_more HW2.out, HW.out, World.drewN_drewN]
            · have hbne : (at2 == at3) = false := by rw [beq_eq_false_iff_ne]; exact heq
              have HNE := Lib.hid heq
              clear heq
              go_wp2_with fail
              go_quiet (fail)
              go_wp2_with fail
              refine ⟨⟨j + 1, _, by omega, by go_num, fun i s hi hs => ?_, drewn_more HW2.out _⟩, by simp [intOf] <;> omega⟩
              by_cases hij : i = j
              · subst hij; rw [HG2.out] at hs; injection hs with hs; subst hs; exact HNE.out
              · exact HN.out i s (by omega) hs
          · clear hw2
            go_wp2_with fail
            obtain rfl : j = k := by omega
            refine ⟨⟨j + 1, _, by omega, by go_num, (atsOk_take HG.out).2 ⟨HK.out, HI.out, fun hm => ?_⟩, (HW2.out).trans (by rw [HW.out, World.drewN_drewN])⟩, by simp [intOf] <;> omega⟩
            obtain ⟨s, hs, hse⟩ := List.mem_map.1 hm
            obtain ⟨i, hi, his⟩ := List.getElem_of_mem hs
            simp only [List.length_take] at hi
            refine HN.out i s (by omega) ?_ hse
            rw [← his, List.getElem_take]
            exact List.getElem?_eq_getElem (by omega)
      · have HD := Lib.hid (decide_eq_false hin)
        have HI := Lib.hid hin
        clear hin
        go_wp2_with fail
        refine (rIn_any _ _ _ _).mono ?_
        rintro e w' ⟨rfl, rfl⟩
        rw [HD.out]
        try dsimp only
        go_wp2_with fail
        go_ret
        refine ⟨?_, n, HW.out⟩
        rw [not_ok_of_take (k := k + 1) (fun hh => HI.out ((atsOk_take HG.out).1 hh).2.1)]; rfl
    · go_wp2_with fail
      go_ret
      refine ⟨?_, n, HW.out⟩
      have h := HK.out
      rw [List.take_of_length_le (by omega)] at h
      rw [show atsB l most = true from decide_eq_true h]; rfl
theorem lit_own (w : World) (base : Nat) (zs : List Int) (h : ∀ z ∈ zs, U64 z) (hl : zs.length ≤ 1000) (hb : base ≤ w.heap.size) : OwnNums (w.alloc (.cells (u64s zs).toArray 67)) base (.slice (some ⟨w.heap.size, 0, none⟩) zs.length zs.length) zs := by
  refine ⟨⟨by rw [u64s_length]; omega, .inr ⟨w.heap.size, zs.length, (u64s zs).toArray, rfl, hb, heap_alloc_new w _, Nat.le_refl _, by unfold maxLen; omega, by simp [u64s_length], ?_⟩⟩, by omega, h⟩
  unfold u64s
  exact List.take_of_length_le (by simp)
def ptsF (l : List (Int × Int)) : List (F × F) := l.map fun s => (toF s.1, toF s.2)
theorem ptsF_fst (l : List (Int × Int)) : (ptsF l).map (·.1) = (l.map (·.1)).map toF := by simp [ptsF]
theorem toF_small {a b : Int} (ha : 1 ≤ a ∧ a ≤ 2147483646) (hb : 1 ≤ b ∧ b ≤ 2147483646) (h : toF a = toF b) : a = b := by
  rw [toF_eq_iff, ← P_int, Int.emod_eq_of_lt (by omega) (by omega), Int.emod_eq_of_lt (by omega) (by omega)] at h
  exact h
theorem pts_nodup {l : List (Int × Int)} (h : AtsOk l 2147483646) : ((ptsF l).map (·.1)).Nodup := by
  rw [ptsF_fst]
  obtain ⟨h1, h2⟩ := h
  have h3 : ∀ a ∈ l.map (·.1), 1 ≤ a ∧ a ≤ 2147483646 := fun a ha => by
    obtain ⟨s, hs, rfl⟩ := List.mem_map.1 ha
    exact h1 s hs
  generalize l.map (·.1) = ats at *
  induction ats with
  | nil => simp
  | cons a ats ih =>
    rw [List.nodup_cons] at h2
    rw [List.map_cons, List.nodup_cons]
    refine ⟨fun hm => ?_, ih h2.2 (fun b hb => h3 b (by simp [hb]))⟩
    obtain ⟨b, hb, hbe⟩ := List.mem_map.1 hm
    have := toF_small (h3 a (by simp)) (h3 b (by simp [hb])) hbe.symm
    subst this
    exact h2.1 hb
theorem pts_take {l : List (Int × Int)} {k : Nat} {a y : Int} (h : l[k]? = some (a, y)) : ptsF (l.take (k + 1)) = ptsF (l.take k) ++ [(toF a, toF y)] := by
  rw [List.take_add_one, h]
  simp [ptsF]
theorem fresh_at {l : List (Int × Int)} {k : Nat} {a : Int} (hok : AtsOk (l.take k) 2147483646) (ha : 1 ≤ a ∧ a ≤ 2147483646) : (toF a ∈ (ptsF (l.take k)).map (·.1)) ↔ a ∈ (l.take k).map (·.1) := by
  rw [ptsF_fst]
  constructor
  · intro h
    obtain ⟨b, hb, hbe⟩ := List.mem_map.1 h
    obtain ⟨s, hs, rfl⟩ := List.mem_map.1 hb
    rw [toF_small ha (hok.1 s hs) hbe.symm]; exact hb
  · intro h; exact List.mem_map.2 ⟨a, h, rfl⟩
theorem toFs_lin' (x : Int) : toFs [ofF (toF 0 - toF x), 1] = [-toF x, 1] := by
  simp only [toFs, List.map, toF_ofF, toF_one, toF_zero]
  congr 1
set_option maxRecDepth 100000 in
set_option maxHeartbeats 2000000 in
theorem pThrough_small (va : Value) (l : List (Int × Int)) (w : World) (h1 : IsShares w va l) (h : l.length ≤ 40) :
    Calls Tryz.prog 162 #[va] w fun e w' => (AtsOk l 2147483646 → ∃ Q, Interp (ptsF l) Q ∧ ListRes w e w' (ofFs Q) 0) ∧ (¬ AtsOk l 2147483646 → ListRes w e w' [] 5) := by
  obtain ⟨A1, c1, rfl, hc1, hm1, hl1, hu1, hr1⟩ := h1
  have h' : ¬ (40 : Int) < (l.length : Int) := by omega
  suffices hgoal : ∀ Post : Ending → World → Prop, (∀ e w' Q, AtsOk l 2147483646 → Interp (ptsF l) Q → ListRes w e w' (ofFs Q) 0 → Post e w') → (∀ e w', ¬ AtsOk l 2147483646 → ListRes w e w' [] 5 → Post e w') → Calls Tryz.prog 162 #[.slice A1 l.length c1] w Post from
    hgoal _ (fun e w' Q ha hi hr => ⟨fun _ => ⟨Q, hi, hr⟩, fun hn => absurd ha hn⟩) (fun e w' ha hr => ⟨fun hn => absurd hn ha, fun _ => hr⟩)
  intro Post hp1 hp2
  have HP1 := Lib.hid hp1
  have HP2 := Lib.hid hp2
  clear hp1 hp2
  go_enter Tryz.func162, Tryz.ntmps162
  go_wp2_with (refine wpList_make_nums rfl _ _ rfl w.heap.size _ l.length rfl rfl rfl (by omega) (Nat.le_refl _) ?_)
  intro W1 ho hb
  have HO := Lib.hid ho
  have HB := Lib.hid hb
  have hsz := hb.size
  have hlt := (ho.1.lt w.heap.size rfl).2
  clear ho hb
  have K0 := Lib.hid (show OwnNums (W1.alloc (.cells #[.int .u64 1] 67)) w.heap.size (.slice (some ⟨w.heap.size, 0, none⟩) l.length l.length) (ofFs (List.replicate l.length 0)) by
    have : ofFs (List.replicate l.length 0) = List.replicate l.length 0 := by simp [ofFs, ofF_zero]
    rw [this]; exact HO.out.alloc _)
  have K1 := Lib.hid (show OwnNums (W1.alloc (.cells #[.int .u64 1] 67)) (w.heap.size + 1) (.slice (some ⟨W1.heap.size, 0, none⟩) 1 1) (ofFs [1]) from lit_own W1 (w.heap.size + 1) [1] (by simp [U64]) (by simp) (by omega))
  have BEL := Lib.hid (HB.out.alloc (by omega) (.cells #[.int .u64 1] 67))
  have R0 := Lib.hid ((hr1.below HB.out).below ((Below.refl _ _).alloc (Nat.le_refl _) (.cells #[.int .u64 1] 67)))
  clear HO HB
  go_wp2_with fail
  obtain ⟨w0, hw0⟩ : ∃ w0, w0 = W1.alloc (.cells #[.int .u64 1] 67) := ⟨_, rfl⟩
  rw [← hw0] at K0 K1 BEL R0 ⊢
  clear hw0
  go_loopw [5, 23] (fun bv i wr => ∃ (k : Nat) (O : List F), k ≤ l.length ∧ i = .int .i64 k ∧ O.length = l.length ∧ AtsOk (l.take k) 2147483646 ∧ Goes O (ptsF (l.take k)) ∧ OwnNums wr w.heap.size (.slice (some ⟨w.heap.size, 0, none⟩) l.length l.length) (ofFs O) ∧ OwnNums wr (w.heap.size + 1) bv (ofFs (baseN ((ptsF (l.take k)).map (·.1)))) ∧ Below w.heap.size w wr) (fun _ i _ => l.length - (intOf i).toNat)
  case atStart => exact ⟨0, List.replicate l.length 0, Nat.zero_le _, rfl, by simp, ⟨by simp, by simp⟩, fun p hp => by simp [ptsF] at hp, K0.out, K1.out, BEL.out⟩
  case round =>
    obtain ⟨k, O, hk, rfl, hO, hok, hg, hoo, hob, hbel⟩ := hrel
    clear K0 K1 BEL R0
    have HOK := Lib.hid hok
    have HG := Lib.hid hg
    have KO := Lib.hid hoo
    have KB := Lib.hid hob
    have BEL := Lib.hid hbel
    have hsz := hbel.size
    have hr := hr1.below hbel
    clear hok hg hoo hob
    by_cases hlt : k < l.length
    · obtain ⟨b1, o1, at_, y, rfl, hb1, hgk, hat, huy, hc1, hc2⟩ := share_at hr hu1 hlt
      have HGK := Lib.hid hgk
      obtain ⟨B, hB⟩ : ∃ B, B = baseN ((ptsF (l.take k)).map (·.1)) := ⟨_, rfl⟩
      have hBl : B.length = k + 1 := by rw [hB, baseN_length]; simp [ptsF]; omega
      rw [← hB] at KB
      have HBB := Lib.hid hB
      obtain ⟨gb, cb, hv, hgb1, hgb2, hcb1, hcb2⟩ := KB.out.form (by rw [ofFs_length]; omega)
      rw [ofFs_length, hBl] at hv
      subst hv
      rw [ofFs_length] at hcb1
      clear hgk hr hbel hB
      by_cases hin : 1 ≤ at_ ∧ at_ ≤ 2147483646
      · have HIN := Lib.hid hin
        have hd1 : decide (at_ < 1) = false := by simp; omega
        obtain ⟨hi1, hi2⟩ := hin
        go_wp2_with fail
        obtain ⟨u, hu⟩ : ∃ u, u = peval B (toF at_) := ⟨_, rfl⟩
        have HU := Lib.hid hu
        refine (pAt_any _ _ _ _ (KB.out.is.below ((Below.refl _ _).alloc (Nat.le_refl _) _)) (show 0 ≤ at_ by omega)).mono ?_
        rintro e w' ⟨rfl, n1, hw1⟩
        rw [toFs_ofFs, ← HU.out]
        have W1 := Lib.hid hw1
        clear hu hw1
        dsimp only
        go_wp2_with fail
        refine (fInv_any _ _ (ofF_nonneg _)).mono ?_
        rintro e w' ⟨rfl, rfl⟩
        rw [toF_ofF]
        by_cases hz : u = 0
        · have hze : zErr u = 1 := if_pos hz
          rw [hze]
          have HN := Lib.hid (show ¬ AtsOk l 2147483646 from fun h => by
            have h1 := (fresh_at HOK.out HIN.out).1 ((baseN_zero _ _).1 (by rw [← HBB.out]; exact HU.out.symm.trans hz))
            exact ((atsOk_take HGK.out).1 (atsOk_mono (k + 1) h)).2.2 h1)
          clear hz hze
          dsimp only
          go_wp2_with fail
          refine HP2.out _ _ HN.out ⟨_, rfl, OwnNums.nil _ _, ?_⟩
          rw [W1.out]
          exact below_drewN (BEL.out.alloc hsz _) _
        · have hze : zErr u = 0 := if_neg hz
          rw [hze]
          have HNM := Lib.hid (show toF at_ ∉ (ptsF (l.take k)).map (·.1) from fun h => hz (HU.out.trans (by rw [HBB.out]; exact (baseN_zero _ _).2 h)))
          clear hze hz
          have KOw := Lib.hid (show IsNums w' (.slice (some ⟨w.heap.size, 0, none⟩) l.length l.length) (ofFs O) from by rw [W1.out]; exact (KO.out.is.below ((Below.refl _ _).alloc (Nat.le_refl _) _)).drewN _)
          have hcy : w'.cell? ⟨wr.heap.size, 1, none⟩ = some (.int .u64 y) := by
            rw [W1.out]
            show (wr.alloc _).cell? _ = _
            rw [cell_of_row _ _ 1 _ _ (0, 0) (heap_alloc_new _ _)]; rfl
          obtain ⟨x, hx⟩ : ∃ x, x = toF at_ := ⟨_, rfl⟩
          obtain ⟨c, hc⟩ : ∃ c, c = (toF y - peval O x) * inv u := ⟨_, rfl⟩
          have HX := Lib.hid hx
          have HC := Lib.hid hc
          clear hx hc
          dsimp only
          go_wp2_with fail
          refine wp_region_quiet_tail 8 (by kernel_rfl) (by kernel_rfl) ?_
          simp only [List.take_succ_cons, List.take_zero, List.drop_succ_cons, List.drop_zero]
          repeat (go_big_quiet_step ((first | exact quietN (pAt_any _ _ _ _ (KOw.out.drewN _) (by omega)) | exact quietL (fMul_any _ _ _ (ofF_nonneg _) (ofF_nonneg _)) | exact quietL (fSub_any _ _ _ huy.1 (ofF_nonneg _)))))
          refine wpQuiet_nil ?_
          intro nq
          simp only [toF_ofF, toFs_ofFs]
          rw [← HX.out, ← HC.out]
          have KO2 := Lib.hid (show OwnNums (w'.drewN nq) w.heap.size (.slice (some ⟨w.heap.size, 0, none⟩) l.length l.length) (ofFs O) from by rw [W1.out]; exact ((KO.out.alloc _).drewN _).drewN _)
          have KB2 := Lib.hid (show OwnNums (w'.drewN nq) (w.heap.size + 1) (.slice (some ⟨gb, 0, none⟩) (k + 1) cb) (ofFs B) from by rw [W1.out]; exact ((KB.out.alloc _).drewN _).drewN _)
          have BEL2 := Lib.hid (show Below w.heap.size w (w'.drewN nq) from by rw [W1.out]; exact below_drewN (below_drewN (BEL.out.alloc hsz _) _) _)
          clear hcy
          obtain ⟨wo, hwo⟩ : ∃ wo, wo = w'.drewN nq := ⟨_, rfl⟩
          rw [← hwo] at KO2 KB2 BEL2 ⊢
          clear hwo
          go_wp2_with fail
          go_loopw [57] (fun i wr => ∃ j : Nat, j ≤ k + 1 ∧ i = .int .i64 j ∧ OwnNums wr w.heap.size (.slice (some ⟨w.heap.size, 0, none⟩) l.length l.length) (ofFs (accL O c B j)) ∧ OwnNums wr (w.heap.size + 1) (.slice (some ⟨gb, 0, none⟩) (k + 1) cb) (ofFs B) ∧ Below w.heap.size w wr) (fun i _ => k + 1 - (intOf i).toNat)
          case atStart => exact ⟨0, Nat.zero_le _, rfl, by rw [accL_zero]; exact KO2.out, KB2.out, BEL2.out⟩
          case round =>
            obtain ⟨j, hj, rfl, ho, hb, hbel⟩ := hrel
            clear KO2 KB2 BEL2 KOw
            by_cases hlt2 : j < k + 1
            · have hcb := hb.cell (ofFs_get (get_co (l := B) (j := j) (by omega)))
              have hco := ho.cell (ofFs_get (get_co (l := accL O c B j) (j := j) (by rw [accL_length]; omega)))
              have hfo := ho.frozen j
              obtain ⟨s, hs⟩ : ∃ s, s = co (accL O c B j) j := ⟨_, rfl⟩
              obtain ⟨q, hq⟩ : ∃ q, q = co B j := ⟨_, rfl⟩
              have ho2 := ho.set_ j (U64.of_ofF (s + c * q))
              rw [ofFs_set, hs, hq, accL_set] at ho2
              rw [← hs] at hco
              rw [← hq] at hcb
              have HS := Lib.hid hs
              have HQ := Lib.hid hq
              have HO := Lib.hid ho2
              have HB := Lib.hid (hb.far (g' := w.heap.size) (by omega) j (.int .u64 (ofF (s + c * q))))
              have HBE := Lib.hid (hbel.setCell (p := ⟨w.heap.size, j, none⟩) (Nat.le_refl _) (.int .u64 (ofF (s + c * q))))
              rw [← HS.out, ← HQ.out] at HO
              clear ho hb ho2 hbel hs hq
              go_wp2_with fail
              refine wp_region_quiet_tail 11 (by kernel_rfl) (by kernel_rfl) ?_
              simp only [List.take_succ_cons, List.take_zero, List.drop_succ_cons, List.drop_zero]
              repeat (go_big_quiet_step ((first | exact quietL (fMul_any _ _ _ (ofF_nonneg _) (ofF_nonneg _)) | exact quietL (fAdd_any _ _ _ (ofF_nonneg _) (ofF_nonneg _)))))
              refine wpQuiet_nil ?_
              intro nq
              go_wp2_with fail
              simp only [toF_ofF]
              refine ⟨⟨j + 1, by omega, by go_num, HO.out.drewN nq, HB.out.drewN nq, below_drewN HBE.out nq⟩, by simp [intOf] <;> omega⟩
            · have hjk : j = k + 1 := by omega
              subst hjk
              have HO := Lib.hid ho
              have HB := Lib.hid hb
              have HBE := Lib.hid hbel
              have hsz2 := hbel.size
              clear ho hb hbel
              go_wp2_with fail
              refine (fSub_any _ _ _ (by omega) (show 0 ≤ at_ by omega)).mono ?_
              rintro e w' ⟨rfl, rfl⟩
              dsimp only
              go_wp2_with fail
              refine (pmul_any _ _ (ofFs B) [ofF (toF 0 - toF at_), 1] _ (by have h := HB.out.is.alloc (.cells #[.int .u64 (ofF (toF 0 - toF at_)), .int .u64 1] 67); exact h) (lit_own _ 0 [ofF (toF 0 - toF at_), 1] (fun z hz => by simp at hz; rcases hz with rfl | rfl; exact U64.of_ofF _; exact ⟨by omega, by omega⟩) (by simp) (Nat.zero_le _)).is (by rw [ofFs_length]; omega) (by simp)).mono ?_
              rintro e W5 ⟨v5, rfl, ho, hb⟩
              rw [toFs_ofFs, toFs_lin'] at ho
              have K5 := Lib.hid ho
              replace HO := Lib.hid ((HO.out.alloc (.cells #[.int .u64 (ofF (toF 0 - toF at_)), .int .u64 1] 67)).below hb)
              replace HBE := Lib.hid (below_trans (HBE.out.alloc hsz2 (.cells #[.int .u64 (ofF (toF 0 - toF at_)), .int .u64 1] 67)) hb (by rw [size_alloc]; omega))
              clear ho hb
              dsimp only
              go_wp2_with fail
              refine ⟨⟨k + 1, accL O c B (k + 1), by omega, by go_num, by rw [accL_length]; exact hO, (atsOk_take HGK.out).2 ⟨HOK.out, HIN.out, fun hm => HNM.out ((fresh_at HOK.out HIN.out).2 hm)⟩, ?_, HO.out, ?_, HBE.out⟩, by simp [intOf] <;> omega⟩
              · rw [pts_take HGK.out, ← hBl, HBB.out]
                exact goes_step HG.out (by simp [ptsF]; omega) HNM.out (by rw [HC.out, HU.out, HBB.out, HX.out])
              · rw [pts_take HGK.out, List.map_append]
                simp only [List.map_cons, List.map_nil]
                rw [baseN_snoc, ← HBB.out]
                exact K5.out.less (by rw [size_alloc]; omega)
      · have HIN := Lib.hid hin
        have HN := Lib.hid (show ¬ AtsOk l 2147483646 from fun h => HIN.out ((atsOk_take HGK.out).1 (atsOk_mono (k + 1) h)).2.1)
        by_cases h1 : at_ < 1
        · clear hin
          go_wp2_with fail
          exact HP2.out _ _ HN.out ⟨_, rfl, OwnNums.nil _ _, BEL.out.alloc hsz _⟩
        · have hd1 : decide (at_ < 1) = false := by simp; omega
          have h2 : at_ ≥ 2147483647 := by omega
          clear hin
          go_wp2_with fail
          exact HP2.out _ _ HN.out ⟨_, rfl, OwnNums.nil _ _, BEL.out.alloc hsz _⟩
    · have hkl : k = l.length := by omega
      clear hr hbel
      go_wp2_with fail
      refine (pNormal_any _ _ _ KO.out.is).mono ?_
      rintro e W3 ⟨v3, rfl, ho, hb⟩
      rw [toFs_ofFs] at ho
      have K3 := Lib.hid (ho.less hsz)
      replace BEL := Lib.hid (below_trans BEL.out hb hsz)
      clear ho hb
      dsimp only
      go_wp2_with fail
      have h1 := HOK.out
      have h2 := HG.out
      rw [hkl, List.take_of_length_le (Nat.le_refl _)] at h1 h2
      exact HP1.out _ _ _ h1 (interp_of_goes h2 (by simp [ptsF, hO])) ⟨_, rfl, K3.out, BEL.out⟩
end Go.Proofs.YtploomncapiloaaGreatDoor
namespace Go.Proofs.YtploomncapiloaaGreatDoor
open Go.RowKit Go.Sort Go.PlainAid Croft
theorem bt_bs {l : List UInt8} {k : Nat} {b : UInt8} (h : l[k]? = some b) : bt (bs l) k = b.toNat := by
  obtain ⟨hk, rfl⟩ := List.getElem?_eq_some_iff.1 h
  unfold bt
  rw [dif_pos (by rw [bs_size]; exact hk)]
  rfl
theorem numR_bad {l : List UInt8} {k : Nat} {b : UInt8} (h : l[k]? = some b) (hb : digB b = false) : numR l = -1 := by
  unfold numR
  split
  · rfl
  · rw [if_neg]
    intro ha
    have := List.all_eq_true.1 ha b (List.mem_of_getElem? h)
    rw [hb] at this; cases this
theorem take_all_next {l : List UInt8} {k : Nat} {b : UInt8} (h : l[k]? = some b) (hb : digB b = true) (ha : (l.take k).all digB = true) : (l.take (k + 1)).all digB = true := by
  rw [List.take_add_one, h, List.all_append, ha]; simp [hb]
theorem numF_next {l : List UInt8} {k : Nat} {b : UInt8} (h : l[k]? = some b) : numF (l.take (k + 1)) = 10 * numF (l.take k) + ((b.toNat : Int) - 48) := by
  rw [List.take_add_one, h]; exact numF_snoc _ _
theorem pow10_le {k : Nat} (h : k ≤ 9) : (10 : Int) ^ k ≤ 1000000000 := by
  obtain rfl | rfl | rfl | rfl | rfl | rfl | rfl | rfl | rfl | rfl : k = 0 ∨ k = 1 ∨ k = 2 ∨ k = 3 ∨ k = 4 ∨ k = 5 ∨ k = 6 ∨ k = 7 ∨ k = 8 ∨ k = 9 := by omega
  all_goals decide
set_option maxRecDepth 100000 in
set_option maxHeartbeats 1000000 in
theorem cNumber_any (l : List UInt8) (w : World) (hl : l.length ≤ 1000000000) :
    Calls Tryz.prog 54 #[.string (bs l)] w fun e w' => e = .returned (.int .i64 (numR l)) ∧ w = w' := by
  obtain ⟨s, hs⟩ : ∃ s, s = bs l := ⟨_, rfl⟩
  have hz : s.size = l.length := by rw [hs, bs_size]
  have hg := get_bt s
  have HB : Hid (∀ (k : Nat) (b : UInt8), l[k]? = some b → bt s k = b.toNat) := fun k b h => by rw [hs]; exact bt_bs h
  rw [← hs]
  clear hs
  by_cases h1 : l.length < 1
  · have hr : numR l = -1 := by unfold numR; rw [if_pos (.inl h1)]
    rw [hr]
    clear hr hg
    go_enter Tryz.func54, Tryz.ntmps54
    go_wp2_with fail
    all_goals (go_ret; exact ⟨rfl, rfl⟩)
  · by_cases h2 : 10 < l.length
    · have hr : numR l = -1 := by unfold numR; rw [if_pos (.inr (.inl h2))]
      rw [hr]
      clear hr hg
      go_enter Tryz.func54, Tryz.ntmps54
      go_wp2_with fail
      all_goals (go_ret; exact ⟨rfl, rfl⟩)
    · obtain ⟨c, hc⟩ : ∃ c, l[0]? = some c := ⟨_, List.getElem?_eq_getElem (by omega)⟩
      have hb0 : bt s 0 = c.toNat := HB.out 0 c hc
      by_cases h3 : c.toNat = 48 ∧ 1 < l.length
      · have hc48 : c = 48 := by
          apply UInt8.toNat_inj.1; rw [h3.1]; rfl
        have hr : numR l = -1 := by unfold numR; rw [if_pos (.inr (.inr ⟨h3.2, by rw [hc, hc48]⟩))]
        rw [hr]
        have h31 := h3.1
        have h32 := h3.2
        clear hr h3
        go_enter Tryz.func54, Tryz.ntmps54
        go_wp2_with fail
        all_goals (go_ret; exact ⟨rfl, rfl⟩)
      · have HN : Hid (numR l = if l.all digB then numF l else -1) := by
          unfold numR
          rw [if_neg]
          · rfl
          rintro (h | h | ⟨h, h'⟩)
          · exact h1 h
          · exact h2 h
          · rw [hc] at h'
            exact h3 ⟨by rw [Option.some.inj h']; rfl, h⟩
        have HC0 := Lib.hid hc
        clear hc
        go_enter Tryz.func54, Tryz.ntmps54
        go_wp2_with fail
        all_goals
          go_loopw [3, 25] (fun n i wr => ∃ k : Nat, k ≤ l.length ∧ i = .int .i64 k ∧ n = .int .i64 (numF (l.take k)) ∧ (l.take k).all digB = true ∧ wr = w) (fun _ i _ => l.length - (intOf i).toNat)
          case atStart => exact ⟨0, Nat.zero_le _, rfl, rfl, rfl, rfl⟩
          case round =>
            obtain ⟨k, hk, rfl, rfl, hall, rfl⟩ := hrel
            by_cases hlt : k < l.length
            · obtain ⟨b, hbk⟩ : ∃ b, l[k]? = some b := ⟨_, List.getElem?_eq_getElem hlt⟩
              have hbt : bt s k = b.toNat := HB.out k b hbk
              have HD := Lib.hid (@numR_bad l k b hbk)
              have HA := Lib.hid (fun hd => take_all_next hbk hd hall)
              have HF := Lib.hid (numF_next hbk)
              obtain ⟨cv, hcv⟩ : ∃ cv : Int, cv = b.toNat := ⟨_, rfl⟩
              rw [← hcv] at hbt HF
              have HDG := Lib.hid (show digB b = (decide (48 ≤ cv) && decide (cv ≤ 57)) by unfold digB; rw [hcv]; congr 1 <;> simp <;> omega)
              have hrg := numF_range k (l.take k) (by rw [List.length_take]; omega) hall
              have hp10 := pow10_le (k := k) (by omega)
              obtain ⟨m, hm⟩ : ∃ m, m = numF (l.take k) := ⟨_, rfl⟩
              rw [← hm] at hrg HF ⊢
              have hm0 : 0 ≤ m := hrg.1
              have hm1 : m < 1000000000 := by omega
              have HLT := Lib.hid hlt
              have hcv0 : 0 ≤ cv := by omega
              have hcv1 : cv ≤ 255 := by have := b.toNat_lt; omega
              clear hrg hp10 hm hcv hall hbk
              by_cases h48 : 48 ≤ cv
              · by_cases h57 : cv ≤ 57
                · go_wp2_with fail
                  go_roundw
                  case rel => exact ⟨k + 1, by omega, by simp, by rw [HF.out], HA.out (by rw [HDG.out]; simp [h48, h57]), trivial⟩
                  case measure => simp [intOf]; omega
                · have hr := HD.out (by rw [HDG.out]; simp; omega)
                  have HR := Lib.hid hr
                  clear hr
                  go_wp2_with fail
                  go_ret
                  exact ⟨by rw [HR.out]; rfl, rfl⟩
              · have hr := HD.out (by rw [HDG.out]; simp; omega)
                have HR := Lib.hid hr
                clear hr
                go_wp2_with fail
                go_ret
                exact ⟨by rw [HR.out]; rfl, rfl⟩
            · obtain rfl : k = l.length := by omega
              rw [List.take_length] at hall ⊢
              have hr : numR l = numF l := by rw [HN.out, if_pos hall]
              have HR := Lib.hid hr
              clear hr
              go_wp2_with fail
              go_ret
              exact ⟨by rw [HR.out]; rfl, rfl⟩
def numbersL (ws : List (List UInt8)) : List Int := if numsOk ws then ws.map numR else []
theorem numsOk_bad {ws : List (List UInt8)} {k : Nat} {x : List UInt8} (h : ws[k]? = some x) (hx : numR x < 0) : numsOk ws = false := by
  unfold numsOk
  rw [List.all_eq_false]
  exact ⟨x, List.mem_of_getElem? h, by simp only [decide_eq_true_eq]; omega⟩
theorem numsOk_take {ws : List (List UInt8)} {k : Nat} {x : List UInt8} (h : ws[k]? = some x) (hx : 0 ≤ numR x) (ha : numsOk (ws.take k) = true) : numsOk (ws.take (k + 1)) = true := by
  unfold numsOk at *
  rw [List.take_add_one, h, List.all_append, ha]; simp [hx]
theorem nums_take {ws : List (List UInt8)} {k : Nat} {x : List UInt8} (h : ws[k]? = some x) : (ws.take (k + 1)).map numR = (ws.take k).map numR ++ [numR x] := by
  rw [List.take_add_one, h]; simp
theorem numR_i64 (x : List UInt8) : I64 (numR x) := by
  have := numR_range x
  exact ⟨by omega, by omega⟩
theorem bs_extract {l : List UInt8} {k : Nat} {b : UInt8} (h : l[k]? = some b) : (bs l).extract k (k + 1) = bs [b] := by
  obtain ⟨hk, rfl⟩ := List.getElem?_eq_some_iff.1 h
  rw [Lib.extract_eq]
  unfold bs
  congr 2
  rw [Nat.add_sub_cancel_left]
  show (l.drop k).take 1 = [l[k]]
  rw [List.drop_eq_getElem_cons hk]
  rfl
set_option maxRecDepth 100000 in
set_option maxHeartbeats 1000000 in
theorem rPieces_any (l : List UInt8) (c : UInt8) (w : World) (hl : l.length ≤ 4294967280) :
    Calls Tryz.prog 19 #[.string (bs l), .int .u8 c.toNat] w fun e w' => ∃ v, e = .returned v ∧ OwnStrs w' w.heap.size v (pieces c l) ∧ Below w.heap.size w w' := by
  obtain ⟨s, hs⟩ : ∃ s, s = bs l := ⟨_, rfl⟩
  have hz : s.size = l.length := by rw [hs, bs_size]
  have hg := get_bt s
  have HB : Hid (∀ (k : Nat) (b : UInt8), l[k]? = some b → bt s k = b.toNat) := fun k b h => by rw [hs]; exact bt_bs h
  have HE : Hid (∀ (k : Nat) (b : UInt8), l[k]? = some b → s.extract k (k + 1) = bs [b]) := fun k b h => by rw [hs]; exact bs_extract h
  rw [← hs]
  clear hs
  obtain ⟨cc, hcc⟩ : ∃ cc : Int, cc = c.toNat := ⟨_, rfl⟩
  rw [← hcc]
  have HCC := Lib.hid hcc
  clear hcc
  suffices hgoal : ∀ Post : Ending → World → Prop, (∀ v w', OwnStrs w' w.heap.size v (pieces c l) → Below w.heap.size w w' → Post (.returned v) w') → Calls Tryz.prog 19 #[.string s, .int .u8 cc] w Post from hgoal _ fun v w' h1 h2 => ⟨v, rfl, h1, h2⟩
  intro Post hpo
  have HP := Lib.hid hpo
  clear hpo
  have HL0 := Lib.hid (lit_strs w w.heap.size [[]] (by simp) (Nat.le_refl _))
  have HB0 := Lib.hid ((Below.refl w.heap.size w).alloc (Nat.le_refl _) (.cells #[.string ⟨#[]⟩] 9))
  go_enter Tryz.func19, Tryz.ntmps19
  go_wp2_with fail
  go_loopw [5, 6] (fun v i wr => ∃ k : Nat, k ≤ l.length ∧ i = .int .i64 k ∧ OwnStrs wr w.heap.size v (pieces c (l.take k)) ∧ Below w.heap.size w wr) (fun _ i _ => l.length - (intOf i).toNat)
  case atStart => exact ⟨0, Nat.zero_le _, rfl, HL0.out, HB0.out⟩
  case round =>
    obtain ⟨k, hk, rfl, hown, hbel⟩ := hrel
    have KW := Lib.hid hown
    have BEL := Lib.hid hbel
    have hs1 := hbel.size
    clear hown hbel
    by_cases hlt : k < l.length
    · obtain ⟨b, hb⟩ : ∃ b, l[k]? = some b := ⟨_, List.getElem?_eq_getElem hlt⟩
      have hbt := HB.out k b hb
      have hpl : (pieces c (l.take k)).length ≤ k + 1 := by have := pieces_le c (l.take k); rw [List.length_take] at this; omega
      have HPL := Lib.hid hpl
      have HBK := Lib.hid hb
      clear hpl
      by_cases hbc : b = c
      · have HNX := Lib.hid (pieces_take_hit hb hbc)
        have hbv : (bt s k == cc) = true := by rw [hbt, HCC.out, hbc]; simp
        clear hb hbt
        go_wp2_with (at_builtin; go_loud (refine wpList_push_str rfl _ _ rfl w.heap.size _ _ [] wr.heap.size 1 rfl (KW.out.alloc _) rfl (new_cell _ _ _) (by have := HPL.out; omega) (by rw [size_alloc]; omega) ?_))
        intro v' w5 hown' hbel'
        have K5 := Lib.hid hown'
        have B5 := Lib.hid ((BEL.out.alloc hs1 (.cells #[.string ⟨#[]⟩] 9)).trans hbel')
        clear hown' hbel'
        go_wp2_with fail
        exact ⟨⟨k + 1, by omega, by go_num, by rw [HNX.out]; exact K5.out, B5.out⟩, by simp [intOf] <;> omega⟩
      · have hbv : (bt s k == cc) = false := by
          rw [hbt, HCC.out, beq_eq_false_iff_ne]
          intro e
          exact hbc (UInt8.toNat_inj.1 (by omega))
        obtain ⟨P, hP⟩ : ∃ P, P = pieces c (l.take k) := ⟨_, rfl⟩
        have hn1 : 0 < P.length := by rw [hP, List.length_pos_iff]; exact pieces_ne _ _
        obtain ⟨n, hn⟩ : ∃ n, P.length = n + 1 := ⟨P.length - 1, by omega⟩
        obtain ⟨x, hx⟩ : ∃ x, P[n]? = some x := ⟨_, List.getElem?_eq_getElem (by omega)⟩
        have hxl : x.length ≤ l.length := by
          have h1 := pieces_mem_len c (l.take k) x (by rw [← hP]; exact List.mem_of_getElem? hx)
          rw [List.length_take] at h1; omega
        have HNX := Lib.hid (pieces_take_miss hb hbc (by rw [← hP]; exact hn) (by rw [← hP]; exact hx))
        rw [← hP] at KW HNX HPL
        have hnk : n ≤ k := by have := HPL.out; omega
        obtain ⟨A, cap, rfl, _, _⟩ := own_form KW.out.1
        obtain ⟨g, rfl⟩ : ∃ g, A = some ⟨g, 0, none⟩ := by
          rcases KW.out.1.2 with ⟨hv, _⟩ | ⟨g, cap', cur, hv, _⟩
          · injection hv with _ hv _; omega
          · injection hv with hv; exact ⟨g, hv⟩
        rw [hn] at KW ⊢
        have hcell := KW.out.cell hx
        have hfr := KW.out.frozen n
        have HBS := Lib.hid (KW.out.base_le)
        have hsl : ∀ W, (Instr.slice 9 (.string s) (some (.int .i64 k)) (some (.int .i64 ((k : Int) + 1))) none).run Tryz.prog W = .ok (.string (bs [b])) W := fun W => by
          have h1 := run_slice_string (P := Tryz.prog) (w := W) 9 s .i64 .i64 (k : Int) ((k : Int) + 1) Tryz.underlying9 (by omega) (by omega) (by omega)
          rw [h1]
          rw [show ((k : Int)).toNat = k by omega, show ((k : Int) + 1).toNat = k + 1 by omega, HE.out k b HBK.out]
        have hadd : ∀ W, (Op.stringOp .add (bs x) (bs [b])).run Tryz.prog W = .ok (.string (bs (x ++ [b]))) W := fun W => by
          rw [run_string_add_sum W (bs x) (bs [b]) (by rw [bs_size, bs_size]; simp; omega), bs_append]
        clear hx hb hn1 hbt hP
        go_wp2_with fail
        refine wp_region_quiet_tail 13 (by kernel_rfl) (by kernel_rfl) ?_
        simp only [List.take_succ_cons, List.take_zero, List.drop_succ_cons, List.drop_zero]
        repeat (go_big_quiet_step ((fail)))
        refine wpQuiet_nil ?_
        intro nq
        go_wp2_with fail
        exact ⟨⟨k + 1, by omega, by go_num, by rw [HNX.out]; exact (KW.out.drewN nq).set_ n (x ++ [b]), (below_drewN BEL.out nq).setCell (p := ⟨g, n, none⟩) HBS.out.1 _⟩, by simp [intOf] <;> omega⟩
    · obtain rfl : k = l.length := by omega
      rw [show l.take l.length = l from List.take_length] at KW
      go_wp2_with fail
      exact HP.out _ _ KW.out BEL.out
set_option maxRecDepth 100000 in
set_option maxHeartbeats 1000000 in
theorem dNumbers_any (va : Value) (ws : List (List UInt8)) (w : World) (h1 : IsStrs w va ws) (hsz : ∀ x ∈ ws, x.length ≤ 1000000000) :
    Calls Tryz.prog 29 #[va] w fun e w' => ∃ v, e = .returned (.tuple #[v, .bool (numsOk ws)]) ∧ OwnInts w' w.heap.size v (numbersL ws) ∧ Below w.heap.size w w' := by
  have KS := Lib.hid h1
  have HX := Lib.hid hsz
  obtain ⟨A1, c1, rfl, hc1, hm1, hl1, hr1⟩ := h1
  suffices hgoal : ∀ Post : Ending → World → Prop, (∀ v w', OwnInts w' w.heap.size v (numbersL ws) → Below w.heap.size w w' → Post (.returned (.tuple #[v, .bool (numsOk ws)])) w') → Calls Tryz.prog 29 #[.slice A1 ws.length c1] w Post from hgoal _ fun v w' h1 h2 => ⟨v, rfl, h1, h2⟩
  intro Post hpo
  have HP := Lib.hid hpo
  clear hm1 hpo hr1 hsz
  go_enter Tryz.func29, Tryz.ntmps29
  go_wp2_with fail
  go_loopw [4, 10] (fun v i wr => ∃ k : Nat, k ≤ ws.length ∧ i = .int .i64 k ∧ numsOk (ws.take k) = true ∧ OwnInts wr w.heap.size v ((ws.take k).map numR) ∧ Below w.heap.size w wr) (fun _ i _ => ws.length - (intOf i).toNat)
  case atStart => exact ⟨0, Nat.zero_le _, rfl, rfl, OwnInts.nil _ _, Below.refl _ _⟩
  case round =>
    obtain ⟨k, hk, rfl, hok, hown, hbel⟩ := hrel
    have KW := Lib.hid hown
    have BEL := Lib.hid hbel
    have HOK := Lib.hid hok
    have hs1 := hbel.size
    clear hown hbel hok
    by_cases hlt : k < ws.length
    · obtain ⟨A, c, hA, _, _, _, hr⟩ := KS.out.below BEL.out
      injection hA with hA1 hA2 hA3
      subst hA1 hA3
      obtain ⟨b1, o1, x, rfl, hb1, hx, hcx⟩ := strs_at hr hlt
      have CD := Lib.hid (fun W => cNumber_any x W (HX.out x (List.mem_of_getElem? hx)))
      have HNX := Lib.hid (nums_take hx)
      have HOK1 := Lib.hid (fun h => numsOk_take hx h HOK.out)
      have HBAD := Lib.hid (fun h => numsOk_bad hx h)
      have hi64 := numR_i64 x
      have HI := Lib.hid hi64
      obtain ⟨z, hz⟩ : ∃ z, z = numR x := ⟨_, rfl⟩
      rw [← hz] at CD HNX HOK1 HBAD HI hi64
      clear hr hb1 hx hA2 hz
      by_cases hneg : z < 0
      · have HB := Lib.hid (HBAD.out hneg)
        go_wp2_with fail
        refine (CD.out _).mono ?_
        rintro e w' ⟨rfl, rfl⟩
        try dsimp only
        go_wp2_with fail
        have hp := HP.out (.slice none 0 0) _ (by unfold numbersL; rw [HB.out]; exact OwnInts.nil _ _) BEL.out
        rw [HB.out] at hp
        exact hp
      · have h0 : 0 ≤ z := by omega
        have HOK2 := Lib.hid (HOK1.out h0)
        have hkl : ((ws.take k).map numR).length = k := by rw [List.length_map, List.length_take]; omega
        have HKL := Lib.hid hkl
        clear hneg hkl
        go_wp2_with fail
        refine (CD.out _).mono ?_
        rintro e w' ⟨rfl, rfl⟩
        try dsimp only
        go_wp2_with (at_builtin; go_loud (refine wpList_push_int rfl _ _ rfl w.heap.size _ _ z wr.heap.size 1 rfl (KW.out.alloc _) rfl (new_cell _ _ _) HI.out (by rw [HKL.out]; omega) (by rw [size_alloc]; omega) ?_))
        intro v' w5 hown' hbel'
        have K5 := Lib.hid hown'
        have B5 := Lib.hid ((BEL.out.alloc hs1 (.cells #[.int .i64 z] 3)).trans hbel')
        clear hown' hbel'
        go_wp2_with fail
        exact ⟨⟨k + 1, by omega, by go_num, HOK2.out, by rw [HNX.out, List.map_take]; exact K5.out, B5.out⟩, by simp [intOf] <;> omega⟩
    · obtain rfl : k = ws.length := by omega
      rw [show ws.take ws.length = ws from List.take_length] at KW HOK
      go_wp2_with fail
      have hp := HP.out _ _ (show OwnInts wr w.heap.size _ (numbersL ws) by unfold numbersL; rw [HOK.out, if_pos rfl]; exact KW.out) BEL.out
      rw [HOK.out] at hp
      exact hp
theorem failed_any (E : Int) (w : World) (h0 : 0 ≤ E) (h1 : E ≤ 1000) (htab : Lib.TabIs Tryz.prog w "internal/strconv.uint64pow10" .u64 Lib.pow10Tab) :
    Calls Tryz.prog 30 #[.int .i64 E] w fun e w' => e = .returned (.string (bs (errT E))) ∧ Below w.heap.size w w' := by
  obtain ⟨sn, hsn⟩ : ∃ sn, sn = bs (numL E) := ⟨_, rfl⟩
  have CI := Lib.hid (itoa_nat E w h0 (by omega) htab)
  rw [← hsn] at CI
  have hss : sn.size ≤ 20 := by rw [hsn, bs_size]; exact numL_len _ (by omega)
  have HT := Lib.hid (show (⟨#[101, 114, 114, 111, 114, 32]⟩ : ByteArray) ++ sn = bs (errT E) by rw [hsn]; exact bs_append [101, 114, 114, 111, 114, 32] (numL E))
  clear hsn
  go_enter Tryz.func30, Tryz.ntmps30
  go_wp2_with fail
  refine CI.out.mono ?_
  rintro e w' ⟨rfl, k, os, rfl⟩
  try dsimp only
  go_wp2_with fail
  go_ret
  exact ⟨by rw [← HT.out]; rfl, below_grow w k os⟩
end Go.Proofs.YtploomncapiloaaGreatDoor
