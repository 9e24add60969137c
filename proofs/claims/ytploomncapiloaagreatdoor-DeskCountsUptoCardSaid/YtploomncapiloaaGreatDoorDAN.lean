/- Parts of the proof, put together by a program: CircX. No condition. -/
import Derived.Test.YtploomncapiloaaGreatDoorDAL
namespace Go.Proofs.YtploomncapiloaaGreatDoor
open Go.RowKit Croft
def IntsRes (w : World) (e : Ending) (w' : World) (l : List Int) (err : Int) : Prop :=
  ∃ v, e = .returned (.tuple #[v, .int .i64 err]) ∧ OwnInts w' w.heap.size v l ∧ Below w.heap.size w w'
def inputsL (gs : List Gt) (os : List Int) : List Int := if circE gs os = 0 then whoseL gs else []
theorem whoseL_le (gs : List Gt) : (whoseL gs).length ≤ gs.length := by
  unfold whoseL
  rw [List.length_map]
  exact List.length_filter_le _ _
set_option maxRecDepth 100000 in
theorem cInputs_any (v : Value) (gs : List Gt) (os : List Int) (w : World) (h : IsCirc w v gs os) :
    Calls Tryz.prog 106 #[v] w fun e w' => IntsRes w e w' (inputsL gs os) (circE gs os) := by
  have KC := Lib.hid h
  obtain ⟨vg, vo, rfl, hg, ho⟩ := h
  have KG := Lib.hid hg
  obtain ⟨A1, c1, rfl, hc1, hm1, hl1, hu1, hr1⟩ := hg
  obtain ⟨A2, c2, rfl, hc2, hm2, hl2, hu2, hr2⟩ := ho
  have BB := Lib.hid ((Below.refl w.heap.size w).alloc (Nat.le_refl _) (.cells #[.slice A1 gs.length c1, .slice A2 os.length c2] 85))
  have BX := Lib.hid (Box.new w 85 [.slice A1 gs.length c1, .slice A2 os.length c2])
  have HU := Lib.hid hu1
  clear hu1 hr1 hm1 hu2 hr2 hm2
  suffices hgoal : ∀ Post : Ending → World → Prop, (∀ e w', IntsRes w e w' (inputsL gs os) (circE gs os) → Post e w') → Calls Tryz.prog 106 #[.agg #[.slice A1 gs.length c1, .slice A2 os.length c2]] w Post from hgoal _ fun e w' h => h
  intro Post hp
  have HP := Lib.hid hp
  clear hp
  by_cases h0 : circE gs os = 0
  · have HE := Lib.hid h0
    have HI := Lib.hid (show inputsL gs os = whoseL gs from if_pos h0)
    clear h0
    go_enter Tryz.func106, Tryz.ntmps106
    go_wp2_with fail
    refine (cCheck_any _ gs os _ (KC.out.below BB.out)).mono ?_
    rintro e W1 ⟨rfl, hb⟩
    rw [HE.out]
    have B1 := Lib.hid (below_trans BB.out hb BB.out.size)
    have BX1 := Lib.hid (BX.out.below hb)
    clear hb
    try dsimp only
    have hc0 := BX1.out.cell (i := 0) rfl
    go_wp2_with fail
    go_loopw [5, 16] (fun v i wr => ∃ k : Nat, k ≤ gs.length ∧ i = .int .i64 k ∧ OwnInts wr W1.heap.size v (whoseL (gs.take k)) ∧ Below W1.heap.size W1 wr) (fun _ i _ => gs.length - (intOf i).toNat)
    case atStart => exact ⟨0, Nat.zero_le _, rfl, OwnInts.nil _ _, Below.refl _ _⟩
    case round =>
      obtain ⟨k, hk, rfl, hown, hbel⟩ := hrel
      have KO := Lib.hid hown
      have BEL := Lib.hid hbel
      have hsz := hbel.size
      clear hown hbel hc0
      by_cases hlt : k < gs.length
      · obtain ⟨A, c, hA, _, _, _, hu, hr⟩ := ((KG.out.below B1.out).below BEL.out)
        injection hA with hA1 hA2 hA3
        subst hA1 hA3
        obtain ⟨b1', o1, g, rfl, hb1, hgk, hgo, ha1, ha2, ha3, ha4⟩ := gate_at hr hu hlt
        have HGK := Lib.hid hgk
        have hga := hgo.2.1
        have HW := Lib.hid (whoseL_take hgk)
        have hwl : (whoseL (gs.take k)).length ≤ k := by have := whoseL_le (gs.take k); rw [List.length_take] at this; omega
        clear hr hu hgk hb1
        by_cases hk1 : g.kind = 1
        · have hkb : (g.kind == 1) = true := by rw [beq_iff_eq]; exact hk1
          have HK := Lib.hid hk1
          clear hk1
          go_wp2_with (at_builtin; go_loud (refine wpList_push_int rfl _ _ rfl W1.heap.size _ _ g.a (wr.heap.size + 1) 1 rfl ((KO.out.alloc _).alloc _) rfl (by rw [← size_alloc wr (.cells #[.int .i64 g.kind, .int .i64 g.a, .int .i64 g.b, .int .u64 g.n] 133)]; exact new_cell _ _ _) hga (by omega) (by rw [size_alloc, size_alloc]; omega) ?_))
          intro v' w5 hown' hbel'
          have K5 := Lib.hid hown'
          have B5 := Lib.hid (((BEL.out.alloc hsz (.cells #[.int .i64 g.kind, .int .i64 g.a, .int .i64 g.b, .int .u64 g.n] 133)).alloc (by rw [size_alloc]; omega) (.cells #[.int .i64 g.a] 3)).trans hbel')
          clear hown' hbel'
          go_wp2_with fail
          exact ⟨⟨k + 1, by omega, by go_num, by rw [HW.out, if_pos HK.out]; exact K5.out, B5.out⟩, by simp [intOf] <;> omega⟩
        · have hkb : (g.kind == 1) = false := by rw [beq_eq_false_iff_ne]; exact hk1
          have HK := Lib.hid hk1
          clear hk1
          go_wp2_with fail
          exact ⟨⟨k + 1, by omega, by go_num, by rw [HW.out, if_neg HK.out]; exact KO.out.alloc _, BEL.out.alloc hsz _⟩, by simp [intOf] <;> omega⟩
      · obtain rfl : k = gs.length := by omega
        go_wp2_with fail
        have h := KO.out
        rw [List.take_length] at h
        refine HP.out _ _ ?_
        rw [HE.out, HI.out]
        exact ⟨_, rfl, h.less B1.out.size, below_trans B1.out BEL.out B1.out.size⟩
  · have hb : (circE gs os != 0) = true := by rw [bne_iff_ne]; exact h0
    have HI := Lib.hid (show inputsL gs os = [] from if_neg h0)
    clear h0
    go_enter Tryz.func106, Tryz.ntmps106
    go_wp2_with fail
    refine (cCheck_any _ gs os _ (KC.out.below BB.out)).mono ?_
    rintro e W1 ⟨rfl, hb1⟩
    have B1 := Lib.hid (below_trans BB.out hb1 BB.out.size)
    clear hb1
    try dsimp only
    go_wp2_with fail
    refine HP.out _ _ ?_
    rw [HI.out]
    exact ⟨_, rfl, OwnInts.nil _ _, B1.out⟩
theorem IsNums.tail {w : World} {b o c : Nat} {x : Int} {zs : List Int} (h : IsNums w (.slice (some ⟨b, o, none⟩) (zs.length + 1) c) (x :: zs)) {A : Option Addr} (hA : A = some ⟨b, o + 1, none⟩ ∨ zs = []) : IsNums w (.slice A zs.length (c - 1)) zs := by
  obtain ⟨A1, c1, h1, h2, h3, h4, h5, h6⟩ := h
  injection h1 with h1a h1b h1c
  subst h1a h1c
  simp only [List.length_cons] at h2 h4
  refine ⟨A, c - 1, rfl, by omega, by omega, by omega, fun z hz => h5 z (by simp [hz]), ?_⟩
  rcases h6 with h6 | ⟨b', o', hbo, hb, hc⟩
  · simp [u64s] at h6
  · injection hbo with hbo
    injection hbo with h7 h8
    subst h7 h8
    rcases hA with rfl | rfl
    · refine .inr ⟨b, o + 1, rfl, hb, fun j hj => ?_⟩
      have := hc (j + 1) (by simp [u64s] at hj ⊢; omega)
      rw [Nat.add_assoc, Nat.add_comm 1 j, this]
      simp [u64s]
    · exact .inl rfl
def ValRes (w : World) (e : Ending) (w' : World) (x : F) (vi : Value) (l l' : List Int) : Prop :=
  ∃ v, e = .returned (.tuple #[.int .u64 (ofF x), v]) ∧ (∀ W0, IsNums W0 vi l → IsNums W0 v l') ∧ Below w.heap.size w w'
theorem co_ofFs {l : List F} {k : Nat} {z : Int} (h : (ofFs l)[k]? = some z) : z = ofF (co l k) := by
  have h1 := co_toFs h
  rw [toFs_ofFs] at h1
  have hk : k < l.length := by have := (List.getElem?_eq_some_iff.1 h).1; rwa [ofFs_length] at this
  rw [ofFs_get (get_co hk)] at h
  exact (Option.some.inj h).symm
set_option maxRecDepth 100000 in
theorem cValue_1 (a b n : Int) (vw vi : Value) (x : Int) (ins : List Int) (w : World) (h2 : IsNums w vi (x :: ins)) :
    Calls Tryz.prog 113 #[.agg #[.int .i64 1, .int .i64 a, .int .i64 b, .int .u64 n], vw, vi] w fun e w' => ValRes w e w' (toF x) vi (x :: ins) ins := by
  have BB := Lib.hid ((Below.refl w.heap.size w).alloc (Nat.le_refl _) (.cells #[.int .i64 1, .int .i64 a, .int .i64 b, .int .u64 n] 133))
  obtain ⟨A2, c2, rfl, hc2, hm2, hl2, hu2, hr2⟩ := h2
  obtain ⟨b1, o1, z, rfl, hb1, hz, huz, hc⟩ := nums_at hr2 hu2 (k := 0) (by simp)
  simp at hz
  subst hz
  rw [Nat.add_zero] at hc
  have hx0 := huz.1
  simp only [List.length_cons] at hc2 ⊢
  suffices hgoal : ∀ Post : Ending → World → Prop, (∀ e w', ValRes w e w' (toF x) (.slice (some ⟨b1, o1, none⟩) (ins.length + 1) c2) (x :: ins) ins → Post e w') → Calls Tryz.prog 113 #[.agg #[.int .i64 1, .int .i64 a, .int .i64 b, .int .u64 n], vw, .slice (some ⟨b1, o1, none⟩) (ins.length + 1) c2] w Post from hgoal _ fun e w' h => h
  intro Post hp
  have HP := Lib.hid hp
  clear hp hu2 hr2 hm2
  by_cases hcc : c2 = 1
  · subst hcc
    have hi0 : ins.length = 0 := by omega
    have KT := Lib.hid (show ∀ W0, IsNums W0 (.slice (some ⟨b1, o1, none⟩) (ins.length + 1) 1) (x :: ins) → IsNums W0 (.slice (some ⟨b1, o1, none⟩) ins.length 0) ins from fun W0 h => h.tail (.inr (List.eq_nil_of_length_eq_zero hi0)))
    rw [hi0] at KT HP ⊢
    clear hi0
    go_enter Tryz.func113, Tryz.ntmps113
    go_wp2_with fail
    go_quiet ((exact quietL (fNorm_any _ _ hx0)))
    go_wp2_with fail
    exact HP.out _ _ ⟨_, rfl, KT.out, below_drewN BB.out _⟩
  · have KT := Lib.hid (show ∀ W0, IsNums W0 (.slice (some ⟨b1, o1, none⟩) (ins.length + 1) c2) (x :: ins) → IsNums W0 (.slice (some ⟨b1, o1 + 1, none⟩) ins.length (c2 - 1)) ins from fun W0 h => h.tail (.inl rfl))
    go_enter Tryz.func113, Tryz.ntmps113
    go_wp2_with fail
    go_quiet ((exact quietL (fNorm_any _ _ hx0)))
    go_wp2_with fail
    exact HP.out _ _ ⟨_, rfl, KT.out, below_drewN BB.out _⟩
theorem cValue_2 (a b n : Int) (vw vi : Value) (ins : List Int) (w : World) (hn : 0 ≤ n) :
    Calls Tryz.prog 113 #[.agg #[.int .i64 2, .int .i64 a, .int .i64 b, .int .u64 n], vw, vi] w fun e w' => ValRes w e w' (toF n) vi ins ins := by
  have BB := Lib.hid ((Below.refl w.heap.size w).alloc (Nat.le_refl _) (.cells #[.int .i64 2, .int .i64 a, .int .i64 b, .int .u64 n] 133))
  go_enter Tryz.func113, Tryz.ntmps113
  go_wp2_with fail
  refine (fNorm_any _ _ hn).mono ?_
  rintro e w' ⟨rfl, rfl⟩
  try dsimp only
  go_wp2_with fail
  go_ret2
  exact ⟨_, rfl, fun _ h => h, BB.out⟩
set_option maxRecDepth 100000 in
theorem cValue_6 (a : Nat) (b n k : Int) (h1 : k ≠ 1) (h2 : k ≠ 2) (h3 : k ≠ 3) (h4 : k ≠ 4) (h5 : k ≠ 5) (vw vi : Value) (W : List F) (ins : List Int) (w : World) (hn : 0 ≤ n) (ha : a < W.length) (hw : IsNums w vw (ofFs W)) :
    Calls Tryz.prog 113 #[.agg #[.int .i64 k, .int .i64 a, .int .i64 b, .int .u64 n], vw, vi] w fun e w' => ValRes w e w' (co W a * toF n) vi ins ins := by
  have BB := Lib.hid ((Below.refl w.heap.size w).alloc (Nat.le_refl _) (.cells #[.int .i64 k, .int .i64 a, .int .i64 b, .int .u64 n] 133))
  have b1 : (k == 1) = false := by rw [beq_eq_false_iff_ne]; exact h1
  have b2 : (k == 2) = false := by rw [beq_eq_false_iff_ne]; exact h2
  have b3 : (k == 3) = false := by rw [beq_eq_false_iff_ne]; exact h3
  have b4 : (k == 4) = false := by rw [beq_eq_false_iff_ne]; exact h4
  have b5 : (k == 5) = false := by rw [beq_eq_false_iff_ne]; exact h5
  obtain ⟨A1, c1, rfl, hc1, hm1, hl1, hu1, hr1⟩ := hw
  obtain ⟨b1', o1, z, rfl, hb1, hz, huz, hc⟩ := nums_at hr1 hu1 (k := a) (by rw [ofFs_length]; exact ha)
  have HZ := Lib.hid (co_ofFs hz)
  have hz0 := huz.1
  have hlw := ofFs_length W
  rw [hlw] at hc1 hl1 ⊢
  clear hu1 hr1 hm1 hz h1 h2 h3 h4 h5 hlw
  suffices hgoal : ∀ Post : Ending → World → Prop, (∀ e w', ValRes w e w' (co W a * toF n) vi ins ins → Post e w') → Calls Tryz.prog 113 #[.agg #[.int .i64 k, .int .i64 a, .int .i64 b, .int .u64 n], .slice (some ⟨b1', o1, none⟩) W.length c1, vi] w Post from hgoal _ fun e w' h => h
  intro Post hp
  have HP := Lib.hid hp
  clear hp
  go_enter Tryz.func113, Tryz.ntmps113
  go_wp2_with fail
  go_quiet ((exact quietL (fMul_any _ _ _ hz0 hn)))
  go_wp2_with fail
  refine HP.out _ _ ⟨vi, ?_, fun _ h => h, below_drewN BB.out _⟩
  rw [HZ.out, toF_ofF]
  rfl
set_option maxRecDepth 100000 in
theorem cValue_3 (a b : Nat) (n : Int) (vw vi : Value) (W : List F) (ins : List Int) (w : World) (ha : a < W.length) (hb : b < W.length) (hw : IsNums w vw (ofFs W)) :
    Calls Tryz.prog 113 #[.agg #[.int .i64 3, .int .i64 a, .int .i64 b, .int .u64 n], vw, vi] w fun e w' => ValRes w e w' (co W a + co W b) vi ins ins := by
  have BB := Lib.hid ((Below.refl w.heap.size w).alloc (Nat.le_refl _) (.cells #[.int .i64 3, .int .i64 a, .int .i64 b, .int .u64 n] 133))
  obtain ⟨A1, c1, rfl, hc1, hm1, hl1, hu1, hr1⟩ := hw
  obtain ⟨b1', o1, z, rfl, hb1, hz, huz, hc⟩ := nums_at hr1 hu1 (k := a) (by rw [ofFs_length]; exact ha)
  obtain ⟨b2', o2, z2, hA2, hb2, hz2, huz2, hc2⟩ := nums_at hr1 hu1 (k := b) (by rw [ofFs_length]; exact hb)
  injection hA2 with hA2
  injection hA2 with hA3 hA4
  subst hA3 hA4
  have HZ := Lib.hid (co_ofFs hz)
  have HZ2 := Lib.hid (co_ofFs hz2)
  have hz0 := huz.1
  have hz20 := huz2.1
  have hlw := ofFs_length W
  rw [hlw] at hc1 hl1 ⊢
  clear hu1 hr1 hm1 hz hz2 hlw
  suffices hgoal : ∀ Post : Ending → World → Prop, (∀ e w', ValRes w e w' (co W a + co W b) vi ins ins → Post e w') → Calls Tryz.prog 113 #[.agg #[.int .i64 3, .int .i64 a, .int .i64 b, .int .u64 n], .slice (some ⟨b1', o1, none⟩) W.length c1, vi] w Post from hgoal _ fun e w' h => h
  intro Post hp
  have HP := Lib.hid hp
  clear hp
  go_enter Tryz.func113, Tryz.ntmps113
  go_wp2_with fail
  go_quiet ((exact quietL (fAdd_any _ _ _ hz0 hz20)))
  go_wp2_with fail
  refine HP.out _ _ ⟨vi, ?_, fun _ h => h, below_drewN BB.out _⟩
  rw [HZ.out, HZ2.out, toF_ofF, toF_ofF]
  rfl
set_option maxRecDepth 100000 in
theorem cValue_4 (a b : Nat) (n : Int) (vw vi : Value) (W : List F) (ins : List Int) (w : World) (ha : a < W.length) (hb : b < W.length) (hw : IsNums w vw (ofFs W)) :
    Calls Tryz.prog 113 #[.agg #[.int .i64 4, .int .i64 a, .int .i64 b, .int .u64 n], vw, vi] w fun e w' => ValRes w e w' (co W a - co W b) vi ins ins := by
  have BB := Lib.hid ((Below.refl w.heap.size w).alloc (Nat.le_refl _) (.cells #[.int .i64 4, .int .i64 a, .int .i64 b, .int .u64 n] 133))
  obtain ⟨A1, c1, rfl, hc1, hm1, hl1, hu1, hr1⟩ := hw
  obtain ⟨b1', o1, z, rfl, hb1, hz, huz, hc⟩ := nums_at hr1 hu1 (k := a) (by rw [ofFs_length]; exact ha)
  obtain ⟨b2', o2, z2, hA2, hb2, hz2, huz2, hc2⟩ := nums_at hr1 hu1 (k := b) (by rw [ofFs_length]; exact hb)
  injection hA2 with hA2
  injection hA2 with hA3 hA4
  subst hA3 hA4
  have HZ := Lib.hid (co_ofFs hz)
  have HZ2 := Lib.hid (co_ofFs hz2)
  have hz0 := huz.1
  have hz20 := huz2.1
  have hlw := ofFs_length W
  rw [hlw] at hc1 hl1 ⊢
  clear hu1 hr1 hm1 hz hz2 hlw
  suffices hgoal : ∀ Post : Ending → World → Prop, (∀ e w', ValRes w e w' (co W a - co W b) vi ins ins → Post e w') → Calls Tryz.prog 113 #[.agg #[.int .i64 4, .int .i64 a, .int .i64 b, .int .u64 n], .slice (some ⟨b1', o1, none⟩) W.length c1, vi] w Post from hgoal _ fun e w' h => h
  intro Post hp
  have HP := Lib.hid hp
  clear hp
  go_enter Tryz.func113, Tryz.ntmps113
  go_wp2_with fail
  go_quiet ((exact quietL (fSub_any _ _ _ hz0 hz20)))
  go_wp2_with fail
  refine HP.out _ _ ⟨vi, ?_, fun _ h => h, below_drewN BB.out _⟩
  rw [HZ.out, HZ2.out, toF_ofF, toF_ofF]
  rfl
set_option maxRecDepth 100000 in
theorem cValue_5 (a b : Nat) (n : Int) (vw vi : Value) (W : List F) (ins : List Int) (w : World) (ha : a < W.length) (hb : b < W.length) (hw : IsNums w vw (ofFs W)) :
    Calls Tryz.prog 113 #[.agg #[.int .i64 5, .int .i64 a, .int .i64 b, .int .u64 n], vw, vi] w fun e w' => ValRes w e w' (co W a * co W b) vi ins ins := by
  have BB := Lib.hid ((Below.refl w.heap.size w).alloc (Nat.le_refl _) (.cells #[.int .i64 5, .int .i64 a, .int .i64 b, .int .u64 n] 133))
  obtain ⟨A1, c1, rfl, hc1, hm1, hl1, hu1, hr1⟩ := hw
  obtain ⟨b1', o1, z, rfl, hb1, hz, huz, hc⟩ := nums_at hr1 hu1 (k := a) (by rw [ofFs_length]; exact ha)
  obtain ⟨b2', o2, z2, hA2, hb2, hz2, huz2, hc2⟩ := nums_at hr1 hu1 (k := b) (by rw [ofFs_length]; exact hb)
  injection hA2 with hA2
  injection hA2 with hA3 hA4
  subst hA3 hA4
  have HZ := Lib.hid (co_ofFs hz)
  have HZ2 := Lib.hid (co_ofFs hz2)
  have hz0 := huz.1
  have hz20 := huz2.1
  have hlw := ofFs_length W
  rw [hlw] at hc1 hl1 ⊢
  clear hu1 hr1 hm1 hz hz2 hlw
  suffices hgoal : ∀ Post : Ending → World → Prop, (∀ e w', ValRes w e w' (co W a * co W b) vi ins ins → Post e w') → Calls Tryz.prog 113 #[.agg #[.int .i64 5, .int .i64 a, .int .i64 b, .int .u64 n], .slice (some ⟨b1', o1, none⟩) W.length c1, vi] w Post from hgoal _ fun e w' h => h
  intro Post hp
  have HP := Lib.hid hp
  clear hp
  go_enter Tryz.func113, Tryz.ntmps113
  go_wp2_with fail
  go_quiet ((exact quietL (fMul_any _ _ _ hz0 hz20)))
  go_wp2_with fail
  refine HP.out _ _ ⟨vi, ?_, fun _ h => h, below_drewN BB.out _⟩
  rw [HZ.out, HZ2.out, toF_ofF, toF_ofF]
  rfl
theorem cValue_any (g : Gt) (i : Nat) (vw vi : Value) (W : List F) (ins : List Int) (w : World) (hr : gRight g i = true) (hg : GateOk g) (hl : W.length = i) (hw : IsNums w vw (ofFs W)) (hi : IsNums w vi ins) (hk : g.kind = 1 → ins ≠ []) :
    Calls Tryz.prog 113 #[gV g, vw, vi] w fun e w' => ValRes w e w' (cone W (co (toFs ins) 0) g) vi ins (if g.kind = 1 then ins.drop 1 else ins) := by
  obtain ⟨k, a, b, n⟩ := g
  obtain ⟨_, _, _, hn⟩ := hg
  have hn0 := hn.1
  unfold gV cone
  unfold gRight at hr
  dsimp only at *
  by_cases h1 : k = 1
  · subst h1
    rw [if_pos rfl, if_pos rfl]
    match ins, hi, hk rfl with
    | x :: ins, hi, _ =>
      have e : co (toFs (x :: ins)) 0 = toF x := co_cons_zero _ _
      rw [e]
      exact cValue_1 a b n vw vi x ins w hi
  rw [if_neg h1, if_neg h1]
  rw [if_neg h1] at hr
  by_cases h2 : k = 2
  · subst h2; rw [if_pos rfl]; exact cValue_2 a b n vw vi ins w hn0
  rw [if_neg h2]
  rw [if_neg h2] at hr
  have two : ∀ x y : Int, aheadB x i = true → aheadB y i = true → ∃ p q : Nat, x = p ∧ y = q ∧ p < W.length ∧ q < W.length := fun x y hx hy => by
    simp only [aheadB, Bool.and_eq_true, decide_eq_true_eq] at hx hy
    exact ⟨x.toNat, y.toNat, by omega, by omega, by omega, by omega⟩
  by_cases h3 : k = 3
  · subst h3
    rw [if_pos (.inl rfl)] at hr
    simp only [Bool.and_eq_true] at hr
    obtain ⟨p, q, rfl, rfl, hp, hq⟩ := two a b hr.1.1 hr.1.2
    rw [if_pos rfl, Int.toNat_natCast, Int.toNat_natCast]
    exact cValue_3 p q n vw vi W ins w hp hq hw
  rw [if_neg h3]
  by_cases h4 : k = 4
  · subst h4
    rw [if_pos (.inr (.inl rfl))] at hr
    simp only [Bool.and_eq_true] at hr
    obtain ⟨p, q, rfl, rfl, hp, hq⟩ := two a b hr.1.1 hr.1.2
    rw [if_pos rfl, Int.toNat_natCast, Int.toNat_natCast]
    exact cValue_4 p q n vw vi W ins w hp hq hw
  rw [if_neg h4]
  by_cases h5 : k = 5
  · subst h5
    rw [if_pos (.inr (.inr rfl))] at hr
    simp only [Bool.and_eq_true] at hr
    obtain ⟨p, q, rfl, rfl, hp, hq⟩ := two a b hr.1.1 hr.1.2
    rw [if_pos rfl, Int.toNat_natCast, Int.toNat_natCast]
    exact cValue_5 p q n vw vi W ins w hp hq hw
  rw [if_neg h5]
  rw [if_neg (by rintro (h | h | h) <;> omega)] at hr
  by_cases h6 : k = 6
  · rw [if_pos h6] at hr
    simp only [Bool.and_eq_true] at hr
    obtain ⟨p, q, rfl, _, hp, _⟩ := two a a hr.1 hr.1
    rw [Int.toNat_natCast]
    exact cValue_6 p b n k h1 h2 h3 h4 h5 vw vi W ins w hn0 hp hw
  · rw [if_neg h6] at hr; cases hr
def runE (gs : List Gt) (os : List Int) (ins : List Int) : Int := if circE gs os = 0 then if ins.length = (whoseL gs).length then 0 else 5 else circE gs os
def runL (gs : List Gt) (os : List Int) (ins : List Int) : List Int := if runE gs os ins = 0 then ofFs (couts gs os (toFs ins)) else []
theorem drop_head (ins : List Int) (c : Nat) : co (toFs (ins.drop c)) 0 = co (toFs ins) c := by
  unfold co toFs
  simp [List.getD]
theorem drop_next (gs : List Gt) (ins : List Int) {k : Nat} {g : Gt} (h : gs[k]? = some g) : (if g.kind = 1 then (ins.drop (cin gs k)).drop 1 else ins.drop (cin gs k)) = ins.drop (cin gs (k + 1)) := by
  rw [cin_succ h]
  split
  · rw [List.drop_drop]
  · rfl
def outsTo (gs : List Gt) (os : List Int) (I : List F) (k : Nat) : List F := (os.take k).map fun o => co (cw gs I gs.length) o.toNat
theorem outsTo_next (gs : List Gt) (os : List Int) (I : List F) {k : Nat} {o : Int} (h : os[k]? = some o) : ofFs (outsTo gs os I (k + 1)) = ofFs (outsTo gs os I k) ++ [ofF (co (cw gs I gs.length) o.toNat)] := by
  unfold outsTo
  rw [List.take_add_one, h]
  simp [ofFs]
theorem outsTo_full (gs : List Gt) (os : List Int) (I : List F) : outsTo gs os I os.length = couts gs os I := by unfold outsTo couts; rw [List.take_length]
theorem cRun_bad (v vi : Value) (gs : List Gt) (os : List Int) (w : World) (h : IsCirc w v gs os) (h0 : circE gs os ≠ 0) :
    Calls Tryz.prog 60 #[v, vi] w fun e w' => ListRes w e w' [] (circE gs os) := by
  have KC := Lib.hid h
  obtain ⟨vg, vo, rfl, hg, ho⟩ := h
  obtain ⟨A1, c1, rfl, hc1, hm1, hl1, hu1, hr1⟩ := hg
  obtain ⟨A2, c2, rfl, hc2, hm2, hl2, hu2, hr2⟩ := ho
  have BB := Lib.hid ((Below.refl w.heap.size w).alloc (Nat.le_refl _) (.cells #[.slice A1 gs.length c1, .slice A2 os.length c2] 85))
  have hb : (circE gs os != 0) = true := by rw [bne_iff_ne]; exact h0
  clear hu1 hr1 hm1 hu2 hr2 hm2 h0
  go_enter Tryz.func60, Tryz.ntmps60
  go_wp2_with fail
  refine (cInputs_any _ gs os _ (KC.out.below BB.out)).mono ?_
  rintro e W1 ⟨v, rfl, ho1, hb1⟩
  have B1 := Lib.hid (below_trans BB.out hb1 BB.out.size)
  clear hb1 ho1
  try dsimp only
  go_wp2_with fail
  go_ret2
  exact ⟨_, rfl, OwnNums.nil _ _, B1.out⟩
theorem cRun_form (v vi : Value) (gs : List Gt) (os ins : List Int) (w : World) (h : IsCirc w v gs os) (hi : IsNums w vi ins) (h0 : circE gs os = 0) (hl : ins.length ≠ (whoseL gs).length) :
    Calls Tryz.prog 60 #[v, vi] w fun e w' => ListRes w e w' [] 5 := by
  have KC := Lib.hid h
  have HE := Lib.hid h0
  have HI := Lib.hid (show inputsL gs os = whoseL gs from if_pos h0)
  obtain ⟨vg, vo, rfl, hg, ho⟩ := h
  obtain ⟨A1, c1, rfl, hc1, hm1, hl1, hu1, hr1⟩ := hg
  obtain ⟨A2, c2, rfl, hc2, hm2, hl2, hu2, hr2⟩ := ho
  obtain ⟨A3, c3, rfl, hc3, hm3, hl3, hu3, hr3⟩ := hi
  have BB := Lib.hid ((Below.refl w.heap.size w).alloc (Nat.le_refl _) (.cells #[.slice A1 gs.length c1, .slice A2 os.length c2] 85))
  have hb : ((ins.length : Int) != ((whoseL gs).length : Int)) = true := by rw [bne_iff_ne]; omega
  clear hu1 hr1 hm1 hu2 hr2 hm2 hu3 hr3 hm3 h0 hl
  go_enter Tryz.func60, Tryz.ntmps60
  go_wp2_with fail
  refine (cInputs_any _ gs os _ (KC.out.below BB.out)).mono ?_
  rintro e W1 ⟨v, rfl, ho1, hb1⟩
  rw [HI.out] at ho1
  rw [HE.out]
  obtain ⟨Aw, cw', hv, _, _⟩ := own_form ho1.1
  subst hv
  have B1 := Lib.hid (below_trans BB.out hb1 BB.out.size)
  clear hb1 ho1
  try dsimp only
  go_wp2_with fail
  go_ret2
  exact ⟨_, rfl, OwnNums.nil _ _, B1.out⟩
set_option maxRecDepth 100000 in
set_option maxHeartbeats 1000000 in
theorem cRun_ok (v vi : Value) (gs : List Gt) (os ins : List Int) (w : World) (h : IsCirc w v gs os) (hi : IsNums w vi ins) (h0 : circE gs os = 0) (hl : ins.length = (whoseL gs).length) :
    Calls Tryz.prog 60 #[v, vi] w fun e w' => ListRes w e w' (ofFs (couts gs os (toFs ins))) 0 := by
  have KC := Lib.hid h
  have KI := Lib.hid hi
  have HE := Lib.hid h0
  have HI := Lib.hid (show inputsL gs os = whoseL gs from if_pos h0)
  have OK := Lib.hid (circE_zero.1 h0)
  have HLI := Lib.hid hl
  obtain ⟨vg, vo, rfl, hg, ho⟩ := h
  have KG := Lib.hid hg
  have KO := Lib.hid ho
  obtain ⟨A1, c1, rfl, hc1, hm1, hl1, hu1, hr1⟩ := hg
  obtain ⟨A2, c2, rfl, hc2, hm2, hl2, hu2, hr2⟩ := ho
  obtain ⟨A3, c3, rfl, hc3, hm3, hl3, hu3, hr3⟩ := hi
  have BB := Lib.hid ((Below.refl w.heap.size w).alloc (Nat.le_refl _) (.cells #[.slice A1 gs.length c1, .slice A2 os.length c2] 85))
  have BX := Lib.hid (Box.new w 85 [.slice A1 gs.length c1, .slice A2 os.length c2])
  have hb : ((ins.length : Int) != ((whoseL gs).length : Int)) = false := by rw [bne_eq_false_iff_eq]; omega
  have hg30 := OK.out.g2
  have ho30 := OK.out.o2
  suffices hgoal : ∀ Post : Ending → World → Prop, (∀ e w', ListRes w e w' (ofFs (couts gs os (toFs ins))) 0 → Post e w') → Calls Tryz.prog 60 #[.agg #[.slice A1 gs.length c1, .slice A2 os.length c2], .slice A3 ins.length c3] w Post from hgoal _ fun e w' h => h
  intro Post hp
  have HP := Lib.hid hp
  clear hp hu1 hr1 hm1 hu2 hr2 hm2 hu3 hr3 hm3 h0 hl
  go_enter Tryz.func60, Tryz.ntmps60
  go_wp2_with fail
  refine (cInputs_any _ gs os _ (KC.out.below BB.out)).mono ?_
  rintro e W1 ⟨v, rfl, ho1, hb1⟩
  rw [HI.out] at ho1
  rw [HE.out]
  obtain ⟨Aw, cw', hv, _, _⟩ := own_form ho1.1
  subst hv
  have B1 := Lib.hid (below_trans BB.out hb1 BB.out.size)
  have BX1 := Lib.hid (BX.out.below hb1)
  clear hb1 ho1
  try dsimp only
  have hc0 := BX1.out.cell (i := 0) rfl
  go_wp2_with fail
  go_loopw [1, 8, 34] (fun vi v i wr => ∃ k : Nat, k ≤ gs.length ∧ i = .int .i64 k ∧ OwnNums wr W1.heap.size v (ofFs (cw gs (toFs ins) k)) ∧ IsNums W1 vi (ins.drop (cin gs k)) ∧ Below W1.heap.size W1 wr) (fun _ _ i _ => gs.length - (intOf i).toNat)
  case atStart => exact ⟨0, Nat.zero_le _, rfl, OwnNums.nil _ _, KI.out.below B1.out, Below.refl _ _⟩
  case round =>
    obtain ⟨k, hk, rfl, hown, hin, hbel⟩ := hrel
    have KW := Lib.hid hown
    have KN := Lib.hid hin
    have BEL := Lib.hid hbel
    have hsz := hbel.size
    have hszw := B1.out.size
    clear hown hin hbel hc0
    by_cases hlt : k < gs.length
    · obtain ⟨A, c, hA, _, _, _, hu, hr⟩ := ((KG.out.below B1.out).below BEL.out)
      injection hA with hA1 hA2 hA3
      subst hA1 hA3
      obtain ⟨b1', o1, g, rfl, hb1, hgk, hgo, ha1, ha2, ha3, ha4⟩ := gate_at hr hu hlt
      have HGK := Lib.hid hgk
      have BG := Lib.hid ((Below.refl wr.heap.size wr).alloc (Nat.le_refl _) (.cells #[.int .i64 g.kind, .int .i64 g.a, .int .i64 g.b, .int .u64 g.n] 133))
      clear hr hu hgk hb1
      go_wp2_with fail
      refine (cValue_any g k _ _ (cw gs (toFs ins) k) (ins.drop (cin gs k)) _ (OK.out.right k g HGK.out) hgo (cw_length _ _ _) ((KW.out.is).below BG.out) ((KN.out.below BEL.out).below BG.out) (fun h1 h2 => by
        have := cin_lt HGK.out h1
        rw [← HLI.out] at this
        have h3 := congrArg List.length h2
        simp at h3
        omega)).mono ?_
      rintro e W4 ⟨v4, rfl, hn4, hb4⟩
      rw [drop_next gs ins HGK.out] at hn4
      rw [drop_head]
      have K4 := Lib.hid (hn4 _ KN.out)
      have KW4 := Lib.hid ((KW.out.below BG.out).below hb4)
      have B4 := Lib.hid (below_trans (below_trans BEL.out BG.out hsz) hb4 (by have := BG.out.size; omega))
      have hsz4 := B4.out.size
      clear hn4 hb4
      obtain ⟨x, hx⟩ : ∃ x, x = cone (cw gs (toFs ins) k) (co (toFs ins) (cin gs k)) g := ⟨_, rfl⟩
      rw [← hx]
      have HX := Lib.hid (show ofFs (cw gs (toFs ins) (k + 1)) = ofFs (cw gs (toFs ins) k) ++ [ofF x] by rw [cw_succ HGK.out, hx]; simp [ofFs])
      clear hx
      obtain ⟨Aq, cq, hvq, _, _, _, _, _⟩ := K4.out
      subst hvq
      try dsimp only
      go_wp2_with (at_builtin; go_loud (refine wpList_push rfl _ _ rfl W1.heap.size _ _ (ofF x) W4.heap.size 1 rfl (KW4.out.alloc _) rfl (new_cell _ _ _) (U64.of_ofF _) (by rw [ofFs_length, cw_length]; omega) (by rw [size_alloc]; omega) ?_))
      intro v' w5 hown' hbel'
      rw [← HX.out] at hown'
      have K5 := Lib.hid hown'
      have B5 := Lib.hid ((B4.out.alloc B4.out.size (.cells #[.int .u64 (ofF x)] 67)).trans hbel')
      clear hown' hbel'
      go_wp2_with fail
      have h4 := K4.out
      exact ⟨⟨k + 1, by omega, by go_num, K5.out, by rw [List.length_drop] at h4; exact h4, B5.out⟩, by simp [intOf] <;> omega⟩
    · obtain rfl : k = gs.length := by omega
      have BX2 := Lib.hid (BX1.out.below BEL.out)
      have hc1' := BX2.out.cell (i := 1) rfl
      have KO2 := Lib.hid ((KO.out.below B1.out).below BEL.out)
      have B2 := Lib.hid (below_trans B1.out BEL.out B1.out.size)
      have hszb := B2.out.size
      obtain ⟨Av, cv, hv, hcv1, hcv2⟩ := own_form KW.out.1
      rw [ofFs_length, cw_length] at hv hcv1
      subst hv
      clear KN BEL
      go_wp2_with fail
      obtain ⟨W2, hW2⟩ : ∃ W2, W2 = wr := ⟨_, rfl⟩
      subst hW2
      go_loopw [13, 54] (fun v i wr => ∃ k : Nat, k ≤ os.length ∧ i = .int .i64 k ∧ OwnNums wr W2.heap.size v (ofFs (outsTo gs os (toFs ins) k)) ∧ Below W2.heap.size W2 wr) (fun _ i _ => os.length - (intOf i).toNat)
      case atStart => exact ⟨0, Nat.zero_le _, rfl, OwnNums.nil _ _, Below.refl _ _⟩
      case round =>
        obtain ⟨k, hk, rfl, hown, hbel⟩ := hrel
        have KV := Lib.hid hown
        have BEL := Lib.hid hbel
        have hsz2 := hbel.size
        clear hown hbel hc1'
        by_cases hlt2 : k < os.length
        · obtain ⟨A, c, hA, _, _, _, hu, hr⟩ := (KO2.out.below BEL.out)
          injection hA with hA1 hA2 hA3
          subst hA1 hA3
          obtain ⟨b2, o2, z, rfl, hb2, hz, huz, hcz⟩ := ints_at hr hu hlt2
          have hzz := OK.out.outs z (List.mem_of_getElem? hz)
          obtain ⟨zn, rfl⟩ := Int.eq_ofNat_of_zero_le hzz.1
          have hzl : zn < gs.length := by omega
          obtain ⟨A, c, hA, _, _, _, hu2, hr2⟩ := (KW.out.is.below BEL.out)
          injection hA with hA1 hA2 hA3
          subst hA1 hA3
          clear hA2
          obtain ⟨b3, o3, y, rfl, hb3, hy, huy, hcy⟩ := nums_at hr2 hu2 (k := zn) (by rw [ofFs_length, cw_length]; exact hzl)
          have HY := Lib.hid (show ofFs (outsTo gs os (toFs ins) (k + 1)) = ofFs (outsTo gs os (toFs ins) k) ++ [y] by rw [outsTo_next gs os _ hz, co_ofFs hy]; rfl)
          have hol : (ofFs (outsTo gs os (toFs ins) k)).length ≤ 30 := by rw [ofFs_length]; unfold outsTo; rw [List.length_map, List.length_take]; omega
          have HOL := Lib.hid hol
          clear hr hu hr2 hu2 hz hy hb2 hb3 hzz hol
          go_wp2_with (at_builtin; go_loud (refine wpList_push rfl _ _ rfl W2.heap.size _ _ y wr.heap.size 1 rfl (KV.out.alloc _) rfl (new_cell _ _ _) huy (by have := HOL.out; omega) (by rw [size_alloc]; omega) ?_))
          intro v' w5 hown' hbel'
          rw [← HY.out] at hown'
          have K5 := Lib.hid hown'
          have B5 := Lib.hid ((BEL.out.alloc hsz2 (.cells #[.int .u64 y] 67)).trans hbel')
          clear hown' hbel'
          go_wp2_with fail
          exact ⟨⟨k + 1, by omega, by go_num, K5.out, B5.out⟩, by simp [intOf] <;> omega⟩
        · obtain rfl : k = os.length := by omega
          go_wp2_with fail
          have h := KV.out
          rw [outsTo_full] at h
          exact HP.out _ _ ⟨_, rfl, h.less hszb, below_trans B2.out BEL.out hszb⟩
theorem cRun_any (v vi : Value) (gs : List Gt) (os ins : List Int) (w : World) (h : IsCirc w v gs os) (hi : IsNums w vi ins) :
    Calls Tryz.prog 60 #[v, vi] w fun e w' => ListRes w e w' (runL gs os ins) (runE gs os ins) := by
  by_cases h0 : circE gs os = 0
  · by_cases hl : ins.length = (whoseL gs).length
    · have e : runE gs os ins = 0 := by unfold runE; rw [if_pos h0, if_pos hl]
      rw [e, show runL gs os ins = ofFs (couts gs os (toFs ins)) from if_pos e]
      exact cRun_ok v vi gs os ins w h hi h0 hl
    · have e : runE gs os ins = 5 := by unfold runE; rw [if_pos h0, if_neg hl]
      rw [e, show runL gs os ins = [] from if_neg (by omega)]
      exact cRun_form v vi gs os ins w h hi h0 hl
  · have e : runE gs os ins = circE gs os := by unfold runE; rw [if_neg h0]
    rw [e, show runL gs os ins = [] from if_neg (by rw [e]; exact h0)]
    exact cRun_bad v vi gs os w h h0
theorem flat_cell {w : World} {b : Nat} {t : TypeId} {cs : List Value} (h : Box w b t cs) : Cells w (some ⟨b, 0, none⟩) cs := by
  refine .inr ⟨b, 0, rfl, h.lt, fun j hj => ?_⟩
  rw [Nat.zero_add, List.getElem?_eq_getElem hj]
  exact h.cell (List.getElem?_eq_getElem hj)
theorem lit_ints (w : World) (zs : List Int) (h : ∀ z ∈ zs, I64 z) (hl : zs.length ≤ 1000) : IsInts (w.alloc (.cells (i64s zs).toArray 3)) (.slice (some ⟨w.heap.size, 0, none⟩) zs.length zs.length) zs :=
  ⟨_, _, rfl, Nat.le_refl _, by unfold maxLen; omega, by omega, h, flat_cell (Box.new _ _ _)⟩
end Go.Proofs.YtploomncapiloaaGreatDoor
