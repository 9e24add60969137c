/- The document's way through points: what it returns. -/
import Derived.Test.YtknjcdlknnfhaaaThroughW
import Derived.Test.YtknjcdlknnfhaaaLagr
import Derived.Test.YtknjcdlknnfhaaaMulW
namespace Go.Proofs.Ytknjcdlknnfhaaa
open Go.RowKit Croft

theorem pts_get {l : List (Int × Int)} {k : Nat} {a y : Int} (h : l[k]? = some (a, y)) : (ptsF l)[k]? = some (toF a, toF y) := by unfold ptsF; rw [List.getElem?_map, h]; rfl
set_option maxRecDepth 100000 in
set_option maxHeartbeats 2000000 in
theorem rThrough_any (va : Value) (l : List (Int × Int)) (w : World) (h1 : IsShares w va l) (h : l.length ≤ 40) (hok : AtsOk l 2147483646) :
    Calls Try.prog 89 #[va] w fun e w' => ∃ v Q, e = .returned v ∧ Interp (ptsF l) Q ∧ OwnNums w' w.heap.size v (ofFs Q) ∧ Below w.heap.size w w' := by
  obtain ⟨A1, c1, rfl, hc1, hm1, hl1, hu1, hr1⟩ := h1
  have HOK := Lib.hid hok
  have HND := Lib.hid (pts_nodup hok)
  have hpl : (ptsF l).length = l.length := by simp [ptsF]
  have HPL := Lib.hid hpl
  clear hok hpl
  suffices hgoal : ∀ Post : Ending → World → Prop, (∀ e w', (∃ v Q, e = .returned v ∧ Interp (ptsF l) Q ∧ OwnNums w' w.heap.size v (ofFs Q) ∧ Below w.heap.size w w') → Post e w') → Calls Try.prog 89 #[.slice A1 l.length c1] w Post from hgoal _ fun e w' h => h
  intro Post hp
  have HP := Lib.hid hp
  clear hp
  go_enter Try.func89, Try.ntmps89
  go_wp2_with fail
  go_loopw [3, 4] (fun ov i wr => ∃ (k : Nat) (O : List F), k ≤ l.length ∧ i = .int .i64 k ∧ SumAt (ptsF l) k O ∧ OwnNums wr w.heap.size ov (ofFs O) ∧ Below w.heap.size w wr) (fun _ i _ => l.length - (intOf i).toNat)
  case atStart => exact ⟨0, [], Nat.zero_le _, rfl, SumAt.start _, OwnNums.nil _ _, Below.refl _ _⟩
  case round =>
    obtain ⟨i, O, hi, rfl, hsum, hown, hbel⟩ := hrel
    have HS := Lib.hid hsum
    have KO := Lib.hid hown
    have BEL := Lib.hid hbel
    have hsz := hbel.size
    have hr := hr1.below hbel
    have hr0 := Lib.hid hr1
    clear hsum hown hr1
    by_cases hlt : i < l.length
    · obtain ⟨b1, o1, ai, yi, rfl, hb1, hgi, hati, huyi, hc1', hc2⟩ := share_at hr hu1 hlt
      have HGI := Lib.hid hgi
      have HAI := Lib.hid (HOK.out.1 _ (List.mem_of_getElem? hgi))
      clear hr hgi hbel hc1'
      go_wp2_with fail
      have K1 := Lib.hid (show OwnNums (wr.alloc (.cells #[.int .u64 yi] 39)) w.heap.size (.slice (some ⟨wr.heap.size, 0, none⟩) 1 1) [yi] from lit_own wr w.heap.size [yi] (by simpa using huyi) (by simp) hsz)
      replace KO := Lib.hid (KO.out.alloc (.cells #[.int .u64 yi] 39))
      have hal := size_alloc wr (.cells #[.int .u64 yi] 39)
      replace BEL := Lib.hid (BEL.out.alloc hsz (.cells #[.int .u64 yi] 39))
      obtain ⟨wo, hwo⟩ : ∃ wo, wo = wr.alloc (.cells #[.int .u64 yi] 39) := ⟨_, rfl⟩
      rw [← hwo] at K1 KO BEL hal ⊢
      clear hwo hc2
      go_loopw [5, 6] (fun ov i' wr => ∃ (k : Nat) (zs : List Int), k ≤ l.length ∧ i' = .int .i64 k ∧ OneAt (ptsF l) i k (toFs zs) ∧ OwnNums wr w.heap.size ov zs ∧ OwnNums wr w.heap.size u3 (ofFs O) ∧ Below w.heap.size w wr) (fun _ i _ => l.length - (intOf i).toNat)
      case atStart => exact ⟨0, [yi], Nat.zero_le _, rfl, OneAt.start (pts_get HGI.out), K1.out, KO.out, BEL.out⟩
      case round =>
        obtain ⟨k, zs, hk, rfl, hone, hown, hown2, hbel⟩ := hrel
        clear K1 KO BEL
        have HE := Lib.hid hone
        have K1 := Lib.hid hown
        have KO := Lib.hid hown2
        have BEL := Lib.hid hbel
        have hsz2 := hbel.size
        have hr := hr0.out.below hbel
        have hlen := hone.len
        rw [toFs_length] at hlen
        clear hone hown hown2
        by_cases hlt2 : k < l.length
        · by_cases hki : k = i
          · subst hki
            clear hr hbel hlen
            go_wp2_with fail
            exact ⟨⟨k + 1, zs, by omega, by go_num, HE.out.skip, K1.out, KO.out, BEL.out⟩, by simp [intOf] <;> omega⟩
          · obtain ⟨b2, o2, ai', yi', hA, hb2, hgi2, hati2, huyi2, hd1, hd2⟩ := share_at hr hu1 hlt
            obtain ⟨b3, o3, ak, yk, hA3, hb3, hgk, hatk, huyk, hd3, hd4⟩ := share_at hr hu1 hlt2
            injection hA with hA
            injection hA with hA1 hA2
            subst hA1 hA2
            injection hA3 with hA3
            injection hA3 with hA4 hA5
            subst hA4 hA5
            have he3 : (ai', yi') = (ai, yi) := by have := HGI.out; rw [hgi2] at this; injection this
            injection he3 with he4 he5
            subst he4 he5
            have hbne : ((k : Int) == (i : Int)) = false := by rw [beq_eq_false_iff_ne]; omega
            have HGK := Lib.hid hgk
            have HKI := Lib.hid hki
            obtain ⟨ha1, ha2⟩ := HAI.out
            obtain ⟨hk1, hk2⟩ := HOK.out.1 _ (List.mem_of_getElem? hgk)
            dsimp only at ha1 ha2 hk1 hk2
            clear hr hbel hgi2 hgk hd2 hd4 hki hb2 hb3
            have hlz : zs.length ≤ 41 := by split at hlen <;> omega
            clear hlen
            go_wp2_with fail
            go_quiet (fail)
            have K2 := Lib.hid (K1.out.drewN nq)
            have KO2 := Lib.hid (KO.out.drewN nq)
            have BEL2 := Lib.hid (below_drewN BEL.out nq)
            clear K1 KO BEL
            obtain ⟨wo, hwo⟩ : ∃ wo, wo = wr.drewN nq := ⟨_, rfl⟩
            have hsz3 : w.heap.size ≤ wo.heap.size := by rw [hwo]; exact hsz2
            rw [← hwo] at K2 KO2 BEL2 ⊢
            clear hwo hsz2
            go_wp2_with fail
            have huk : U64 ak := ⟨by omega, by omega⟩
            have hui : U64 ai' := ⟨by omega, by omega⟩
            have HUK := Lib.hid huk
            have HUI := Lib.hid hui
            clear huk hui
            refine (rNeg_any _ _ HUK.out).mono ?_
            rintro e w' ⟨rfl, rfl⟩
            try dsimp only
            go_wp2_with fail
            refine (rAdd_any _ _ _ HUI.out (U64.of_ofF _)).mono ?_
            rintro e w' ⟨rfl, rfl⟩
            rw [toF_ofF]
            try dsimp only
            go_wp2_with fail
            refine (rInv_any _ _ (U64.of_ofF _)).mono ?_
            rintro e w' ⟨rfl, rfl⟩
            rw [toF_ofF]
            try dsimp only
            go_wp2_with fail
            refine (rNeg_any _ _ HUK.out).mono ?_
            rintro e w' ⟨rfl, rfl⟩
            try dsimp only
            go_wp2_with fail
            refine (rMul_any _ _ _ (U64.of_ofF _) (U64.of_ofF _)).mono ?_
            rintro e w' ⟨rfl, rfl⟩
            rw [toF_ofF, toF_ofF]
            try dsimp only
            go_wp2_with fail
            obtain ⟨u, hu⟩ : ∃ u, u = inv (toF ai' - toF ak) := ⟨_, rfl⟩
            have hneg : toF ai' + -toF ak = toF ai' - toF ak := by grind
            rw [hneg, ← hu]
            have HU := Lib.hid hu
            clear hu hneg
            refine (rProduct_any _ _ zs [ofF (-toF ak * u), ofF u] _ (by have h := K2.out.is.alloc (.cells #[.int .u64 (ofF (-toF ak * u)), .int .u64 (ofF u)] 39); exact h) (lit_own _ 0 [ofF (-toF ak * u), ofF u] (fun z hz => by simp at hz; rcases hz with rfl | rfl <;> exact U64.of_ofF _) (by simp) (Nat.zero_le _)).is (by omega) (by simp)).mono ?_
            rintro e W5 ⟨v5, rfl, ho, hb⟩
            rw [show toFs [ofF (-toF ak * u), ofF u] = [-toF ak * u, u] by simp only [toFs, List.map, toF_ofF]] at ho
            have K5 := Lib.hid (ho.less (base' := w.heap.size) (by rw [size_alloc]; omega))
            replace KO2 := Lib.hid ((KO2.out.alloc (.cells #[.int .u64 (ofF (-toF ak * u)), .int .u64 (ofF u)] 39)).below hb)
            replace BEL2 := Lib.hid (below_trans (BEL2.out.alloc hsz3 (.cells #[.int .u64 (ofF (-toF ak * u)), .int .u64 (ofF u)] 39)) hb (by rw [size_alloc]; omega))
            clear ho hb
            dsimp only
            go_wp2_with fail
            refine ⟨⟨k + 1, _, by omega, by go_num, ?_, K5.out, KO2.out, BEL2.out⟩, by simp [intOf] <;> omega⟩
            rw [toFs_ofFs, HU.out]
            exact HE.out.step HND.out (pts_get HGI.out) (pts_get HGK.out) HKI.out
        · have hkl : k = l.length := by omega
          subst hkl
          clear hr hbel hlen
          go_wp2_with fail
          refine (rSum_any _ _ _ _ _ KO.out.is K1.out.is).mono ?_
          rintro e W5 ⟨v5, rfl, ho, hb⟩
          rw [toFs_ofFs] at ho
          have K5 := Lib.hid (ho.less hsz2)
          replace BEL := Lib.hid (below_trans BEL.out hb hsz2)
          clear ho hb
          dsimp only
          go_wp2_with fail
          exact ⟨⟨i + 1, _, by omega, by go_num, HS.out.step (by rw [HPL.out]; exact hlt) (by rw [HPL.out]; exact HE.out), K5.out, BEL.out⟩, by simp [intOf] <;> omega⟩
    · clear hr hbel
      go_wp2_with fail
      obtain rfl : i = l.length := by omega
      have h1 := HS.out
      rw [← HPL.out] at h1
      exact HP.out _ _ ⟨_, _, rfl, h1.done, KO.out, BEL.out⟩
end Go.Proofs.Ytknjcdlknnfhaaa
namespace Go.Proofs.Ytknjcdlknnfhaaa
open Go.RowKit Croft

set_option maxRecDepth 100000 in
theorem rDealt_any (secret : Int) (vd : Value) (ds : List Int) (n : Nat) (w : World) (hs : U64 secret) (h1 : IsNums w vd ds) (hd : ds.length ≤ 100) (hn2 : n ≤ 9) :
    Calls Try.prog 41 #[.int .u64 secret, vd, .int .i64 n] w fun e w' => ∃ v, e = .returned v ∧ OwnNums w' w.heap.size v (ofFs (deal n (toFs (secret :: ds)))) ∧ Below w.heap.size w w' := by
  have KD := Lib.hid h1
  suffices hgoal : ∀ Post : Ending → World → Prop, (∀ e w', (∃ v, e = .returned v ∧ OwnNums w' w.heap.size v (ofFs (deal n (toFs (secret :: ds)))) ∧ Below w.heap.size w w') → Post e w') → Calls Try.prog 41 #[.int .u64 secret, vd, .int .i64 n] w Post from hgoal _ fun e w' h => h
  intro Post hp
  have HP := Lib.hid hp
  obtain ⟨A1, c1, rfl, hc1, hm1, hl1, hu1, hr1⟩ := h1
  clear hp hu1 hr1 hm1
  have HLO := Lib.hid (lit_own w w.heap.size [secret] (by simpa using hs) (by simp) (Nat.le_refl _))
  go_enter Try.func41, Try.ntmps41
  go_wp2_with (at_builtin; go_loud (refine wpList_join rfl _ _ rfl w.heap.size _ _ [secret] ds rfl HLO.out rfl (KD.out.alloc _) (by simp; omega) (by rw [size_alloc]; omega) ?_))
  intro v3 W3 ho3 hb3
  have KL := Lib.hid (show IsNums W3 v3 (secret :: ds) from OwnNums.is ho3)
  have B3 := Lib.hid (((Below.refl w.heap.size w).alloc (Nat.le_refl _) (.cells #[.int .u64 secret] 39)).trans hb3)
  clear ho3 hb3 HLO
  go_wp2_with fail
  go_loopw [8, 9] (fun v i wr => ∃ k : Nat, k ≤ n ∧ i = .int .i64 ((k : Int) + 1) ∧ OwnNums wr W3.heap.size v (ofFs (deal k (toFs (secret :: ds)))) ∧ Below W3.heap.size W3 wr) (fun _ i _ => n + 1 - (intOf i).toNat)
  case atStart => exact ⟨0, Nat.zero_le _, rfl, OwnNums.nil _ _, Below.refl _ _⟩
  case round =>
    obtain ⟨k, hk, rfl, hown, hbel⟩ := hrel
    have KO := Lib.hid hown
    have BEL := Lib.hid hbel
    have hsz := hbel.size
    clear hown hbel
    by_cases hlt : k < n
    · have KL2 := Lib.hid (KL.out.below BEL.out)
      have hdk : decide ((k : Int) + 1 ≤ (n : Int)) = true := by simp; omega
      go_wp2_with fail
      refine (rEval_any _ _ _ _ KL2.out (show U64 ((k : Int) + 1) from ⟨by omega, by omega⟩)).mono ?_
      rintro e w' ⟨rfl, rfl⟩
      try dsimp only
      go_wp2_with (at_builtin; go_loud (refine wpList_push rfl _ _ rfl W3.heap.size _ _ (ofF (peval (toFs (secret :: ds)) (toF ((k : Int) + 1)))) wr.heap.size 1 rfl (KO.out.alloc _) rfl (new_cell _ _ _) (U64.of_ofF _) (by rw [ofFs_length, deal_length]; omega) (by rw [size_alloc]; omega) ?_))
      intro v' w5 hown' hbel'
      rw [← deal_next] at hown'
      have K5 := Lib.hid hown'
      have B5 := Lib.hid ((BEL.out.alloc hsz (.cells #[.int .u64 (ofF (peval (toFs (secret :: ds)) (toF ((k : Int) + 1))))] 39)).trans hbel')
      clear hown' hbel'
      go_wp2_with fail
      exact ⟨⟨k + 1, by omega, by go_num, K5.out, B5.out⟩, by simp [intOf] <;> omega⟩
    · obtain rfl : n = k := by omega
      have hdk : decide ((n : Int) + 1 ≤ (n : Int)) = false := by simp; omega
      go_wp2_with fail
      exact HP.out _ _ ⟨_, rfl, KO.out.less B3.out.size, below_trans B3.out BEL.out B3.out.size⟩
/-- one share of 1, all others of 0 -/
def dlt (ats : List Int) (i : Nat) : List (Int × Int) := (List.range ats.length).map fun (k : Nat) => (ats.getD k 0, if k = i then 1 else 0)
theorem dlt_length (ats : List Int) (i : Nat) : (dlt ats i).length = ats.length := by simp [dlt]
theorem dlt_next {ats : List Int} {i k : Nat} {a : Int} (h : ats[k]? = some a) : (dlt ats i).take (k + 1) = (dlt ats i).take k ++ [(a, if k = i then 1 else 0)] := by
  have hk := (List.getElem?_eq_some_iff.1 h).1
  rw [List.take_add_one]
  congr 1
  simp [dlt, List.getElem?_range hk, List.getD, h]
theorem dlt_fst (ats : List Int) (i : Nat) : (dlt ats i).map (·.1) = ats := by
  apply List.ext_getElem?
  intro k
  rcases Nat.lt_or_ge k ats.length with h | h
  · simp [dlt, List.getElem?_range h, List.getElem?_eq_getElem h]
  · rw [List.getElem?_eq_none (by simp [dlt]; exact h), List.getElem?_eq_none h]
theorem dlt_weight {ats : List Int} {i : Nat} {a : Int} (hp : partyB ats = true) (h : ats[i]? = some a) {Q : List F} (hQ : Interp (ptsF (dlt ats i)) Q) : peval Q 0 = wtF (toFs ats) (toF a) := by
  have hok : AtsOk (dlt ats i) 9 := partyB_ats.1 (by rw [dlt_fst]; exact hp)
  have hnd := pts_nodup hok.more
  have hfst : (ptsF (dlt ats i)).map (·.1) = toFs ats := by rw [ptsF_fst, dlt_fst]; rfl
  rw [hfst] at hnd
  have hi := (List.getElem?_eq_some_iff.1 h).1
  have hlen : (toFs ats).length = ats.length := toFs_length _
  have hql : Q.length ≤ (toFs ats).length := by rw [hlen]; have := hQ.2.1; simpa [ptsF, dlt_length] using this
  have hat : ∀ k, k < ats.length → peval Q (co (toFs ats) k) = if k = i then 1 else 0 := fun k hk => by
    have hm : (co (toFs ats) k, toF (if k = i then 1 else 0)) ∈ ptsF (dlt ats i) := by
      unfold ptsF dlt
      rw [List.map_map]
      refine List.mem_map.2 ⟨k, List.mem_range.2 hk, ?_⟩
      simp only [Function.comp]
      rw [co_toFs (List.getElem?_eq_getElem hk)]
      simp [List.getD, List.getElem?_eq_getElem hk]
    have := hQ.2.2 _ hm
    dsimp only at this
    rw [this]
    split
    · exact toF_one
    · exact toF_zero
  have hl := lagrange0 (toFs ats) hnd Q hql
  rw [← hl, fsum_one i (by rw [hlen]; exact hi), hat i hi, if_pos rfl, F_mo, co_toFs h]
  intro k hk hne
  rw [hat k (by rw [← hlen]; exact hk), if_neg hne, F_mz]
set_option maxRecDepth 100000 in
set_option maxHeartbeats 1000000 in
theorem rWeights_any (va : Value) (ats : List Int) (w : World) (h1 : IsInts w va ats) (hp : partyB ats = true) (h9 : ats.length ≤ 9) :
    Calls Try.prog 75 #[va] w fun e w' => ∃ v, e = .returned v ∧ OwnNums w' w.heap.size v (wtL ats ats.length) ∧ Below w.heap.size w w' := by
  have KA := Lib.hid h1
  have HPP := Lib.hid hp
  suffices hgoal : ∀ Post : Ending → World → Prop, (∀ e w', (∃ v, e = .returned v ∧ OwnNums w' w.heap.size v (wtL ats ats.length) ∧ Below w.heap.size w w') → Post e w') → Calls Try.prog 75 #[va] w Post from hgoal _ fun e w' h => h
  intro Post hpo
  have HP := Lib.hid hpo
  obtain ⟨A1, c1, rfl, hc1, hm1, hl1, hu1, hr1⟩ := h1
  clear hp hpo hu1 hr1 hm1
  go_enter Try.func75, Try.ntmps75
  go_wp2_with fail
  go_loopw [3, 4] (fun v i wr => ∃ k : Nat, k ≤ ats.length ∧ i = .int .i64 k ∧ OwnNums wr w.heap.size v (wtL ats k) ∧ Below w.heap.size w wr) (fun _ i _ => ats.length - (intOf i).toNat)
  case atStart => exact ⟨0, Nat.zero_le _, rfl, by simp only [wtL, List.take_zero, List.map_nil]; exact OwnNums.nil _ _, Below.refl _ _⟩
  case round =>
    obtain ⟨i, hi, rfl, hown, hbel⟩ := hrel
    have KO := Lib.hid hown
    have BEL := Lib.hid hbel
    have hsz := hbel.size
    clear hown hbel
    by_cases hlt : i < ats.length
    · have KAr := Lib.hid (KA.out.below BEL.out)
      have hg : ats[i]? = some ats[i] := List.getElem?_eq_getElem hlt
      obtain ⟨a, ha⟩ : ∃ a, a = ats[i] := ⟨_, rfl⟩
      rw [← ha] at hg
      have HG := Lib.hid hg
      clear hg ha
      go_wp2_with fail
      obtain ⟨wo, hwo⟩ : ∃ wo, wo = wr := ⟨_, rfl⟩
      subst hwo
      go_loopw [5, 6] (fun v j wq => ∃ k : Nat, k ≤ ats.length ∧ j = .int .i64 k ∧ OwnShares wq wo.heap.size v ((dlt ats i).take k) ∧ Below wo.heap.size wo wq) (fun _ j _ => ats.length - (intOf j).toNat)
      case atStart => exact ⟨0, Nat.zero_le _, rfl, OwnShares.nil _ _, Below.refl _ _⟩
      case round =>
        obtain ⟨k, hk, rfl, hsh, hbw⟩ := hrel
        have KS := Lib.hid hsh
        have BW := Lib.hid hbw
        have hszw := hbw.size
        clear hsh hbw
        by_cases hlt2 : k < ats.length
        · obtain ⟨A, c, hA, _, _, _, hu, hr⟩ := KAr.out.below BW.out
          injection hA with hA1 hA2 hA3
          subst hA1 hA3
          clear hA2
          obtain ⟨b1, o1, z, rfl, hb1, hgk, hz64, hca⟩ := ints_at hr hu hlt2
          have HT := Lib.hid (dlt_next (i := i) hgk)
          have HTL := Lib.hid (show ((dlt ats i).take k).length ≤ 9 by rw [List.length_take, dlt_length]; omega)
          clear hu hr hgk hb1
          by_cases hki : k = i
          · subst hki
            rw [if_pos rfl] at HT
            have hbe : ((k : Int) == (k : Int)) = true := by simp
            go_wp2_with (at_builtin; go_loud (refine wpList_push_share rfl _ _ rfl wo.heap.size _ _ z 1 wr.heap.size 1 rfl (KS.out.alloc _) rfl (pair_cell0 _ _ _ _) (pair_cell1 _ _ _ _) hz64 (by unfold U64; omega) (by have := HTL.out; omega) (by rw [size_alloc]; omega) ?_))
            intro v' w5 hown' hbel'
            rw [← HT.out] at hown'
            have K5 := Lib.hid hown'
            have B5 := Lib.hid ((BW.out.alloc hszw (.cells #[.int .i64 z, .int .u64 1] 66)).trans hbel')
            clear hown' hbel'
            go_wp2_with fail
            exact ⟨⟨k + 1, by omega, by go_num, K5.out, B5.out⟩, by simp [intOf] <;> omega⟩
          · rw [if_neg hki] at HT
            have hbe : ((k : Int) == (i : Int)) = false := by rw [beq_eq_false_iff_ne]; omega
            clear hki
            go_wp2_with (at_builtin; go_loud (refine wpList_push_share rfl _ _ rfl wo.heap.size _ _ z 0 wr.heap.size 1 rfl (KS.out.alloc _) rfl (pair_cell0 _ _ _ _) (pair_cell1 _ _ _ _) hz64 (by unfold U64; omega) (by have := HTL.out; omega) (by rw [size_alloc]; omega) ?_))
            intro v' w5 hown' hbel'
            rw [← HT.out] at hown'
            have K5 := Lib.hid hown'
            have B5 := Lib.hid ((BW.out.alloc hszw (.cells #[.int .i64 z, .int .u64 0] 66)).trans hbel')
            clear hown' hbel'
            go_wp2_with fail
            exact ⟨⟨k + 1, by omega, by go_num, K5.out, B5.out⟩, by simp [intOf] <;> omega⟩
        · obtain rfl : ats.length = k := by omega
          have HTE := Lib.hid (show (dlt ats i).take ats.length = dlt ats i from List.take_of_length_le (by rw [dlt_length]; exact Nat.le_refl _))
          rw [HTE.out] at KS
          have HAO := Lib.hid (show AtsOk (dlt ats i) 9 from partyB_ats.1 (by rw [dlt_fst]; exact HPP.out))
          go_wp2_with fail
          refine (rThrough_any _ _ _ KS.out.is (by rw [dlt_length]; omega) HAO.out.more).mono ?_
          rintro e W8 ⟨vq, Q, rfl, hQ, ho, hb⟩
          have HQ := Lib.hid (dlt_weight HPP.out HG.out hQ)
          have KQ := Lib.hid ho.is
          have KO8 := Lib.hid ((KO.out.below BW.out).below hb)
          have B8 := Lib.hid (below_trans BEL.out (below_trans BW.out hb BW.out.size) hsz)
          clear ho hb hQ
          try dsimp only
          go_wp2_with fail
          refine (rEval_any _ _ _ _ KQ.out (show U64 0 from ⟨by omega, by omega⟩)).mono ?_
          rintro e w' ⟨rfl, rfl⟩
          rw [toFs_ofFs, toF_zero, HQ.out]
          have hsz8 := B8.out.size
          have HWL := Lib.hid (show (wtL ats i).length ≤ 9 by unfold wtL; rw [List.length_map, List.length_take]; omega)
          have HWN := Lib.hid (show wtL ats (i + 1) = wtL ats i ++ [ofF (wtF (toFs ats) (toF a))] by unfold wtL; rw [List.take_add_one, HG.out]; simp)
          try dsimp only
          go_wp2_with (at_builtin; go_loud (refine wpList_push rfl _ _ rfl w.heap.size _ _ (ofF (wtF (toFs ats) (toF a))) W8.heap.size 1 rfl (KO8.out.alloc _) rfl (new_cell _ _ _) (U64.of_ofF _) (by have := HWL.out; omega) (by rw [size_alloc]; omega) ?_))
          intro v' w5 hown' hbel'
          rw [← HWN.out] at hown'
          have K5 := Lib.hid hown'
          have B5 := Lib.hid ((B8.out.alloc hsz8 (.cells #[.int .u64 (ofF (wtF (toFs ats) (toF a)))] 39)).trans hbel')
          clear hown' hbel'
          go_wp2_with fail
          exact ⟨⟨i + 1, by omega, by go_num, K5.out, B5.out⟩, by simp [intOf] <;> omega⟩
    · obtain rfl : ats.length = i := by omega
      go_wp2_with fail
      exact HP.out _ _ ⟨_, rfl, KO.out, BEL.out⟩
end Go.Proofs.Ytknjcdlknnfhaaa
