/- Package shamir: what each call returns. -/
import Derived.Test.YtljpangeodgbkaaDoorParties
import Derived.Test.YtljpangeodgbkaaDoorJoin
import Derived.Test.YtljpangeodgbkaaDoorShareW
import Derived.Test.YtljpangeodgbkaaDoorEngP
namespace Go.Proofs.YtljpangeodgbkaaDoor
open Go.RowKit Croft

theorem deal_next (n : Nat) (p : List F) : ofFs (deal (n + 1) p) = ofFs (deal n p) ++ [ofF (peval p (toF ((n : Int) + 1)))] := by simp [deal, ofFs, List.range_succ, pt]
def dealOk (ds : List Int) (n : Int) : Prop := ds.length ≤ 4 ∧ (ds.length : Int) + 1 ≤ n ∧ n ≤ 9
theorem sDeal_bad (secret : Int) (vd : Value) (ds : List Int) (n : Int) (w : World) (h1 : IsNums w vd ds) (h : ¬ dealOk ds n) :
    Calls Tryd.prog 70 #[.int .u64 secret, vd, .int .i64 n] w fun e w' => ListRes w e w' [] 1 := by
  obtain ⟨A1, c1, rfl, hc1, hm1, hl1, hu1, hr1⟩ := h1
  unfold dealOk at h
  clear hu1 hr1 hm1
  by_cases k1 : (ds.length : Int) > 4
  · clear h
    go_enter Tryd.func70, Tryd.ntmps70
    go_wp2_with fail
    go_ret2
    exact ⟨_, rfl, OwnNums.nil _ _, Below.refl _ _⟩
  · by_cases k2 : n < (ds.length : Int) + 1
    · clear h
      go_enter Tryd.func70, Tryd.ntmps70
      go_wp2_with fail
      go_ret2
      exact ⟨_, rfl, OwnNums.nil _ _, Below.refl _ _⟩
    · have k3 : n > 9 := by omega
      clear h
      go_enter Tryd.func70, Tryd.ntmps70
      go_wp2_with fail
      go_ret2
      exact ⟨_, rfl, OwnNums.nil _ _, Below.refl _ _⟩
set_option maxRecDepth 100000 in
theorem sDeal_ok (secret : Int) (vd : Value) (ds : List Int) (n : Nat) (w : World) (hs : U64 secret) (h1 : IsNums w vd ds) (hd : ds.length ≤ 4) (hn1 : ds.length + 1 ≤ n) (hn2 : n ≤ 9) :
    Calls Tryd.prog 70 #[.int .u64 secret, vd, .int .i64 n] w fun e w' => ListRes w e w' (ofFs (deal n (toFs (secret :: ds)))) 0 := by
  have KD := Lib.hid h1
  suffices hgoal : ∀ Post : Ending → World → Prop, (∀ e w', ListRes w e w' (ofFs (deal n (toFs (secret :: ds)))) 0 → Post e w') → Calls Tryd.prog 70 #[.int .u64 secret, vd, .int .i64 n] w Post from hgoal _ fun e w' h => h
  intro Post hp
  have HP := Lib.hid hp
  obtain ⟨A1, c1, rfl, hc1, hm1, hl1, hu1, hr1⟩ := h1
  clear hp hu1 hr1 hm1
  have HLO := Lib.hid (lit_own w w.heap.size [secret] (by simpa using hs) (by simp) (Nat.le_refl _))
  go_enter Tryd.func70, Tryd.ntmps70
  go_wp2_with (at_builtin; go_loud (refine wpList_join rfl _ _ rfl w.heap.size _ _ [secret] ds rfl HLO.out rfl (KD.out.alloc _) (by simp; omega) (by rw [size_alloc]; omega) ?_))
  intro v3 W3 ho3 hb3
  have KL := Lib.hid (show IsNums W3 v3 (secret :: ds) from OwnNums.is ho3)
  have B3 := Lib.hid (((Below.refl w.heap.size w).alloc (Nat.le_refl _) (.cells #[.int .u64 secret] 46)).trans hb3)
  clear ho3 hb3 HLO
  go_wp2_with fail
  go_loopw [10, 11] (fun v i wr => ∃ k : Nat, k ≤ n ∧ i = .int .i64 ((k : Int) + 1) ∧ OwnNums wr W3.heap.size v (ofFs (deal k (toFs (secret :: ds)))) ∧ Below W3.heap.size W3 wr) (fun _ i _ => n + 1 - (intOf i).toNat)
  case atStart => exact ⟨0, Nat.zero_le _, rfl, OwnNums.nil _ _, Below.refl _ _⟩
  case round =>
    obtain ⟨k, hk, rfl, hown, hbel⟩ := hrel
    have KO := Lib.hid hown
    have BEL := Lib.hid hbel
    have hsz := hbel.size
    clear hown hbel
    by_cases hlt : k < n
    · have KL2 := Lib.hid (KL.out.below BEL.out)
      go_wp2_with fail
      refine (pAt_any _ _ _ _ KL2.out (by omega)).mono ?_
      rintro e w' ⟨rfl, nd, rfl⟩
      try dsimp only
      go_wp2_with (at_builtin; go_loud (refine wpList_push rfl _ _ rfl W3.heap.size _ _ (ofF (peval (toFs (secret :: ds)) (toF ((k : Int) + 1)))) (wr.drewN nd).heap.size 1 rfl ((KO.out.drewN nd).alloc _) rfl (new_cell _ _ _) (U64.of_ofF _) (by rw [ofFs_length, deal_length]; omega) (by simp; omega) ?_))
      intro v' w5 hown' hbel'
      rw [← deal_next] at hown'
      have K5 := Lib.hid hown'
      have B5 := Lib.hid (((below_drewN BEL.out nd).alloc (by simp; omega) (.cells #[.int .u64 (ofF (peval (toFs (secret :: ds)) (toF ((k : Int) + 1))))] 46)).trans hbel')
      clear hown' hbel'
      go_wp2_with fail
      exact ⟨⟨k + 1, by omega, by go_num, K5.out, B5.out⟩, by simp [intOf] <;> omega⟩
    · obtain rfl : n = k := by omega
      go_wp2_with fail
      exact HP.out _ _ ⟨_, rfl, KO.out.less B3.out.size, below_trans B3.out BEL.out B3.out.size⟩
def checkE (t : Int) (l : List (Int × Int)) : Int := if 0 ≤ t ∧ t ≤ 4 then if partyB (l.map (·.1)) = true then if (l.length : Int) < t + 1 then 4 else 0 else 5 else 1
theorem partyB_ats {l : List (Int × Int)} : partyB (l.map (·.1)) = true ↔ AtsOk l 9 := by
  unfold partyB AtsOk
  rw [decide_eq_true_eq]
  simp
theorem AtsOk.more {l : List (Int × Int)} (h : AtsOk l 9) : AtsOk l 2147483646 := ⟨fun s hs => by have := h.1 s hs; omega, h.2⟩
theorem AtsOk.few {l : List (Int × Int)} (h : AtsOk l 9) : l.length ≤ 9 := by
  have h1 : (l.map fun s => s.1.toNat).Nodup := by
    have h2 := h.2
    rw [List.nodup_iff_pairwise_ne, List.pairwise_map] at h2 ⊢
    refine List.Pairwise.imp_of_mem (fun ha hb hne he => hne ?_) h2
    have := h.1 _ ha; have := h.1 _ hb; omega
  have h2 : (l.map fun s => s.1.toNat) ⊆ (List.range 10).erase 0 := by
    intro x hx
    obtain ⟨s, hs, rfl⟩ := List.mem_map.1 hx
    have := h.1 s hs
    rw [List.Nodup.mem_erase_iff List.nodup_range, List.mem_range]
    omega
  have h3 := List.Nodup.length_le_of_subset h1 h2
  rw [List.length_map] at h3
  simpa using h3
set_option maxRecDepth 100000 in
theorem sCheck_any (t : Int) (va : Value) (l : List (Int × Int)) (w : World) (h1 : IsShares w va l) :
    Calls Tryd.prog 78 #[.int .i64 t, va] w fun e w' => e = .returned (.int .i64 (checkE t l)) ∧ Below w.heap.size w w' := by
  have KA := Lib.hid h1
  obtain ⟨A1, c1, rfl, hc1, hm1, hl1, hu1, hr1⟩ := h1
  clear hu1 hr1 hm1
  by_cases ht : 0 ≤ t ∧ t ≤ 4
  · have HE := Lib.hid (show checkE t l = if partyB (l.map (·.1)) = true then if (l.length : Int) < t + 1 then 4 else 0 else 5 from if_pos ht)
    obtain ⟨ht1, ht2⟩ := ht
    have hd1 : decide (t < 0) = false := by simpa using ht1
    have hd2 : decide (t > 4) = false := by simpa using ht2
    go_enter Tryd.func78, Tryd.ntmps78
    go_wp2_with fail
    go_loopw [5, 16] (fun v i wr => ∃ k : Nat, k ≤ l.length ∧ i = .int .i64 k ∧ OwnInts wr w.heap.size v ((l.map (·.1)).take k) ∧ Below w.heap.size w wr) (fun _ i _ => l.length - (intOf i).toNat)
    case atStart => exact ⟨0, Nat.zero_le _, rfl, OwnInts.nil _ _, Below.refl _ _⟩
    case round =>
      obtain ⟨k, hk, rfl, hown, hbel⟩ := hrel
      have KO := Lib.hid hown
      have BEL := Lib.hid hbel
      have hsz := hbel.size
      clear hown hbel
      by_cases hlt : k < l.length
      · obtain ⟨A, c, hA, _, _, _, hu, hr⟩ := KA.out.below BEL.out
        injection hA with hA1 hA2 hA3
        subst hA1 hA3
        obtain ⟨b1, o1, at_, y, rfl, hb1, hgk, hat, huy, hca, hcb⟩ := share_at hr hu hlt
        have HT := Lib.hid (show (l.map (·.1)).take (k + 1) = (l.map (·.1)).take k ++ [at_] by rw [List.take_add_one, List.getElem?_map, hgk]; rfl)
        clear hr hu hgk hb1
        go_wp2_with (at_builtin; go_loud (refine wpList_push_int rfl _ _ rfl w.heap.size _ _ at_ (wr.heap.size + 1) 1 rfl ((KO.out.alloc _).alloc _) rfl (by rw [← size_alloc wr (.cells #[.int .i64 at_, .int .u64 y] 98)]; exact new_cell _ _ _) hat (by simp only [List.length_take, List.length_map]; omega) (by rw [size_alloc, size_alloc]; omega) ?_))
        intro v' w5 hown' hbel'
        rw [← HT.out] at hown'
        have K5 := Lib.hid hown'
        have B5 := Lib.hid (((BEL.out.alloc hsz (.cells #[.int .i64 at_, .int .u64 y] 98)).alloc (by rw [size_alloc]; omega) (.cells #[.int .i64 at_] 3)).trans hbel')
        clear hown' hbel'
        go_wp2_with fail
        exact ⟨⟨k + 1, by omega, by go_num, K5.out, B5.out⟩, by simp [intOf] <;> omega⟩
      · have hkl : k = l.length := by omega
        have hts : (l.map (·.1)).take k = l.map (·.1) := List.take_of_length_le (by simp; omega)
        rw [hts] at KO
        clear hts hkl
        go_wp2_with fail
        refine (sParties_any _ _ _ KO.out.is).mono ?_
        rintro e w' ⟨rfl, rfl⟩
        cases hp : partyB (l.map (·.1)) with
        | false =>
          have HPP := Lib.hid hp
          clear hp
          try dsimp only
          go_wp2_with fail
          go_ret
          exact ⟨by rw [HE.out, if_neg (by rw [HPP.out]; simp)]; rfl, BEL.out⟩
        | true =>
          have HPP := Lib.hid hp
          clear hp
          by_cases hs : (l.length : Int) < t + 1
          · try dsimp only
            go_wp2_with fail
            go_ret
            exact ⟨by rw [HE.out, if_pos HPP.out, if_pos hs]; rfl, BEL.out⟩
          · try dsimp only
            go_wp2_with fail
            go_ret
            exact ⟨by rw [HE.out, if_pos HPP.out, if_neg (by omega)]; rfl, BEL.out⟩
  · have HE := Lib.hid (show checkE t l = 1 from if_neg ht)
    by_cases h1 : t < 0
    · clear ht
      go_enter Tryd.func78, Tryd.ntmps78
      go_wp2_with fail
      go_ret
      exact ⟨by rw [HE.out]; rfl, Below.refl _ _⟩
    · have h2 : t > 4 := by omega
      have hd1 : decide (t < 0) = false := by simpa using h1
      clear ht
      go_enter Tryd.func78, Tryd.ntmps78
      go_wp2_with fail
      go_ret
      exact ⟨by rw [HE.out]; rfl, Below.refl _ _⟩
/-- a number, and an error -/
def NumRes (w : World) (e : Ending) (w' : World) (x err : Int) : Prop := e = .returned (.tuple #[.int .u64 x, .int .i64 err]) ∧ Below w.heap.size w w'
theorem sOpen_bad (t : Int) (va : Value) (l : List (Int × Int)) (w : World) (h1 : IsShares w va l) (h : checkE t l ≠ 0) :
    Calls Tryd.prog 58 #[.int .i64 t, va] w fun e w' => NumRes w e w' 0 (checkE t l) := by
  have KA := Lib.hid h1
  have hb : (checkE t l != 0) = true := by rw [bne_iff_ne]; exact h
  clear h h1
  go_enter Tryd.func58, Tryd.ntmps58
  go_wp2_with fail
  refine (sCheck_any _ _ _ _ KA.out).mono ?_
  rintro e w' ⟨rfl, hb⟩
  have BEL := Lib.hid hb
  clear hb
  try dsimp only
  go_wp2_with fail
  go_ret2
  exact ⟨rfl, BEL.out⟩
theorem checkE_zero {t : Int} {l : List (Int × Int)} : checkE t l = 0 ↔ (0 ≤ t ∧ t ≤ 4) ∧ AtsOk l 9 ∧ t + 1 ≤ l.length := by
  unfold checkE
  rw [← partyB_ats]
  by_cases h1 : 0 ≤ t ∧ t ≤ 4
  · rw [if_pos h1]
    by_cases h2 : partyB (l.map (·.1)) = true
    · rw [if_pos h2]
      by_cases h3 : (l.length : Int) < t + 1
      · rw [if_pos h3]
        exact ⟨fun h => by omega, fun h => by omega⟩
      · rw [if_neg h3]
        exact ⟨fun _ => ⟨h1, h2, by omega⟩, fun _ => rfl⟩
    · rw [if_neg h2]
      exact ⟨fun h => by omega, fun h => absurd h.2.1 h2⟩
  · rw [if_neg h1]
    exact ⟨fun h => by omega, fun h => absurd h.1 h1⟩
def openX (t : Int) (Q : List F) : Int := if t + 1 < Q.length then 0 else ofF (peval Q 0)
def openE (t : Int) (Q : List F) : Int := if t + 1 < Q.length then 6 else 0
set_option maxRecDepth 100000 in
theorem sOpen_ok (t : Int) (va : Value) (l : List (Int × Int)) (Q : List F) (w : World) (h1 : IsShares w va l) (h : checkE t l = 0) (hQ : Interp (ptsF l) Q) :
    Calls Tryd.prog 58 #[.int .i64 t, va] w fun e w' => NumRes w e w' (openX t Q) (openE t Q) := by
  have KA := Lib.hid h1
  have HE := Lib.hid h
  have OK := Lib.hid (checkE_zero.1 h)
  have HQ := Lib.hid hQ
  have ht1 := (checkE_zero.1 h).1.1
  have ht2 := (checkE_zero.1 h).1.2
  clear h h1 hQ
  go_enter Tryd.func58, Tryd.ntmps58
  go_wp2_with fail
  refine (sCheck_any _ _ _ _ KA.out).mono ?_
  rintro e W1 ⟨rfl, hb⟩
  rw [HE.out]
  replace KA := Lib.hid (KA.out.below hb)
  have BEL := Lib.hid hb
  clear hb
  try dsimp only
  go_wp2_with fail
  refine (pThrough_small _ _ _ KA.out (by have := OK.out.2.1.few; omega)).mono ?_
  rintro e W2 hh
  obtain ⟨Q2, hQ2, vT, rfl, ho, hb⟩ := hh.1 OK.out.2.1.more
  obtain rfl := HQ.out.unique (pts_nodup OK.out.2.1.more) hQ2
  clear hh hQ2
  have KQ := Lib.hid ho.is
  obtain ⟨A, c, hv, _, _⟩ := own_form ho.1
  rw [ofFs_length] at hv
  subst hv
  have hql : Q.length ≤ 9 := by
    have := HQ.out.2.1
    have h9 := OK.out.2.1.few
    simp only [ptsF, List.length_map] at this
    omega
  replace BEL := Lib.hid (below_trans BEL.out hb BEL.out.size)
  clear ho hb
  try dsimp only
  by_cases hbig : (Q.length : Int) > t + 1
  · have HX := Lib.hid (show openX t Q = 0 from if_pos (by omega))
    have HEE := Lib.hid (show openE t Q = 6 from if_pos (by omega))
    go_wp2_with fail
    go_ret2
    exact ⟨by rw [HX.out, HEE.out]; rfl, BEL.out⟩
  · have HX := Lib.hid (show openX t Q = ofF (peval Q 0) from if_neg (by omega))
    have HEE := Lib.hid (show openE t Q = 0 from if_neg (by omega))
    go_wp2_with fail
    refine (pAt_any _ _ _ _ KQ.out (Int.le_refl 0)).mono ?_
    rintro e w' ⟨rfl, nd, rfl⟩
    rw [toFs_ofFs, toF_zero]
    try dsimp only
    go_wp2_with fail
    go_ret2
    exact ⟨by rw [HX.out, HEE.out]; rfl, below_drewN BEL.out _⟩
end Go.Proofs.YtljpangeodgbkaaDoor
