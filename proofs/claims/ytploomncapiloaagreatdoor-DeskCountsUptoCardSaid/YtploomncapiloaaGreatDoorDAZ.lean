/- Parts of the proof, put together by a program: PrintW RefTx RefRd DeskE. No condition. -/
import Derived.Test.YtploomncapiloaaGreatDoorDAW
import Derived.Test.YtploomncapiloaaGreatDoorDAY
namespace Go.Proofs.YtploomncapiloaaGreatDoor
open Go.RowKit Go.Sort Croft
def Bld (w : World) (b : Nat) (l : List UInt8) : Prop := Lib.IsBuilder 36 5 b b (Lib.byteCells l) w
theorem BldAt.below {w w' : World} {b : Nat} {p : Value} {l : List Value} (h : Lib.BuilderAt 36 5 b b p l w) (hb : Below w.heap.size w w') : Lib.BuilderAt 36 5 b b p l w' := by
  obtain ⟨h1, v, h2, h3, h4⟩ := h
  exact ⟨h1, v, (hb.block b (Array.getElem?_eq_some_iff.1 h2).1).trans h2, own_kept h3 hb, h4⟩
theorem Bld.below {w w' : World} {b : Nat} {l : List UInt8} (h : Bld w b l) (hb : Below w.heap.size w w') : Bld w' b l := by
  rcases h with h | h
  · exact .inl (BldAt.below h hb)
  · exact .inr (BldAt.below h hb)
theorem Bld.new (w : World) : Bld (w.alloc (.cells #[.pointer none, .slice none 0 0] 36)) w.heap.size [] :=
  .inl ⟨Nat.le_refl _, _, heap_alloc_new w _, World.ownsRow_nil _ _ _ _, by simp [Value.ownBlock]⟩
theorem Bld.lt {w : World} {b : Nat} {l : List UInt8} (h : Bld w b l) : b < w.heap.size := by
  rcases h with h | h <;> exact h.lt
theorem bld_write (b : Nat) (l x : List UInt8) (w : World) (h : Bld w b l) (hl : l.length + x.length ≤ 100000) :
    Calls Tryz.prog 15 #[.pointer (some ⟨b, 0, none⟩), .string (bs x)] w fun e w' => e = .returned (.tuple #[.int .i64 x.length, .nilIface]) ∧ Bld w' b (l ++ x) ∧ Below b w w' := by
  refine (sh_Builder_WriteString b b _ (bs x) w h (by rw [Lib.byteCells_length, bs_size]; omega) (Nat.le_of_lt h.lt)).mono fun e w' hh => ?_
  obtain ⟨rfl, h1, h2⟩ := hh
  rw [bs_size]
  refine ⟨rfl, .inr ?_, h2⟩
  rw [Lib.byteCells_append]
  exact h1
set_option maxRecDepth 100000 in
set_option maxHeartbeats 4000000 in
theorem cPrint_ok (v : Value) (gs : List Gt) (os : List Int) (w : World) (h : IsCirc w v gs os) (h0 : circE gs os = 0) (htab : Lib.TabIs Tryz.prog w "internal/strconv.uint64pow10" .u64 Lib.pow10Tab) :
    Calls Tryz.prog 112 #[v] w fun e w' => e = .returned (.tuple #[.string (bs (circT gs os)), .int .i64 0]) ∧ Below w.heap.size w w' := by
  have OK := Lib.hid (circE_zero.1 h0)
  have H0 := Lib.hid h0
  have KC := Lib.hid h
  have hg30 := OK.out.g2
  have ho30 := OK.out.o2
  have TB := Lib.hid htab
  obtain ⟨vg, vo, rfl, hg, ho⟩ := h
  have KG := Lib.hid hg
  have KO := Lib.hid ho
  obtain ⟨A1, c1, rfl, hc1, hm1, hl1, hu1, hr1⟩ := hg
  obtain ⟨A2, c2, rfl, hc2, hm2, hl2, hu2, hr2⟩ := ho
  have BB := Lib.hid ((Below.refl w.heap.size w).alloc (Nat.le_refl _) (.cells #[.slice A1 gs.length c1, .slice A2 os.length c2] 85))
  have BX0 := Lib.hid (Box.new w 85 [.slice A1 gs.length c1, .slice A2 os.length c2])
  suffices hgoal : ∀ Post : Ending → World → Prop, (∀ w', Below w.heap.size w w' → Post (.returned (.tuple #[.string (bs (circT gs os)), .int .i64 0])) w') → Calls Tryz.prog 112 #[.agg #[.slice A1 gs.length c1, .slice A2 os.length c2]] w Post from hgoal _ fun w' h => ⟨rfl, h⟩
  intro Post hpo
  have HP := Lib.hid hpo
  clear hu1 hr1 hm1 hu2 hr2 hm2 hpo h0 htab
  go_enter Tryz.func112, Tryz.ntmps112
  go_wp2_with fail
  refine (cCheck_any _ gs os _ (KC.out.below BB.out)).mono ?_
  rintro e W1 ⟨rfl, hb⟩
  rw [H0.out]
  have B1 := Lib.hid (below_trans BB.out hb BB.out.size)
  have BX1 := Lib.hid (BX0.out.below hb)
  have hlt1 := BX1.out.lt
  have hc0 := BX1.out.cell (i := 0) rfl
  have hc1' := BX1.out.cell (i := 1) rfl
  clear hb
  have hba : Below W1.heap.size W1 (W1.alloc (.cells #[.pointer none, .slice none 0 0] 36)) := (Below.refl _ _).alloc (Nat.le_refl _) _
  have B2 := Lib.hid (below_trans B1.out hba B1.out.size)
  have BX2 := Lib.hid (BX1.out.below hba)
  have BD2 := Lib.hid (Bld.new W1)
  have hs1 := B1.out.size
  clear hba
  try dsimp only
  go_wp2_with fail
  clear hc0 hc1'
  obtain ⟨b, hb⟩ : ∃ b, b = W1.heap.size := ⟨_, rfl⟩
  rw [← hb] at BD2 hlt1 hs1 ⊢
  clear hb
  go_loopw [19] (fun i wr => ∃ k : Nat, k ≤ gs.length ∧ i = .int .i64 k ∧ Bld wr b ((gs.take k).flatMap gateT) ∧ ((gs.take k).flatMap gateT).length ≤ 60 * k ∧ Box wr w.heap.size 85 [.slice A1 gs.length c1, .slice A2 os.length c2] ∧ Below w.heap.size w wr) (fun i _ => gs.length - (intOf i).toNat)
  case atStart => exact ⟨0, Nat.zero_le _, rfl, BD2.out, Nat.zero_le _, BX2.out, B2.out⟩
  case round =>
    obtain ⟨k, hk, rfl, hbd, hlen, hbx, hbel⟩ := hrel
    have BD := Lib.hid hbd
    have BX := Lib.hid hbx
    have BEL := Lib.hid hbel
    have hsz := hbel.size
    clear hbd hbx hbel
    by_cases hlt : k < gs.length
    · obtain ⟨A, c, hA, _, _, _, hu, hr⟩ := KG.out.below BEL.out
      injection hA with hA1 hA2 hA3
      subst hA1 hA3
      obtain ⟨b1', o1, ⟨kd, ga, gb, gn⟩, rfl, hb1, hgk, hgo, ha1, ha2, ha3, ha4⟩ := gate_at hr hu hlt
      dsimp only at ha1 ha2 ha3 ha4
      have hright := OK.out.right k _ hgk
      have HGO := Lib.hid hgo
      have HNX := Lib.hid (gatesT_next hgk)
      obtain ⟨tx, htx⟩ : ∃ tx, tx = (gs.take k).flatMap gateT := ⟨_, rfl⟩
      rw [← htx] at HNX hlen BD
      have hll := lineT_len ⟨kd, ga, gb, gn⟩ (by have := HGO.out.2.1.2; dsimp only at this ⊢; omega) (by have := HGO.out.2.2.1.2; dsimp only at this ⊢; omega)
      have hgl : (gateT ⟨kd, ga, gb, gn⟩).length ≤ 48 := by rw [gateT, List.length_append, List.length_singleton]; omega
      have HGL := Lib.hid hgl
      have HLEN := Lib.hid (show ((gs.take (k + 1)).flatMap gateT).length ≤ 60 * (k + 1) by rw [HNX.out, List.length_append]; omega)
      have HLT := Lib.hid hlen
      have BA := Lib.hid ((Below.refl wr.heap.size wr).alloc (Nat.le_refl _) (.cells #[.int .i64 kd, .int .i64 ga, .int .i64 gb, .int .u64 gn] 133))
      have BG0 := Lib.hid (Box.new wr 133 [.int .i64 kd, .int .i64 ga, .int .i64 gb, .int .u64 gn])
      have TB2 := Lib.hid (tab_below (tab_below TB.out BEL.out) BA.out)
      have HUN := Lib.hid (show U64 gn from HGO.out.2.2.2)
      have hgn0 : 0 ≤ gn := HUN.out.1
      have hkk : kd = 1 ∨ kd = 2 ∨ kd = 3 ∨ kd = 4 ∨ kd = 5 ∨ kd = 6 := by
        by_cases q : kd = 1 ∨ kd = 2 ∨ kd = 3 ∨ kd = 4 ∨ kd = 5 ∨ kd = 6
        · exact q
        · simp only [not_or] at q
          simp [gRight, q] at hright
      obtain ⟨z, hz⟩ : ∃ z, z = ofF (toF gn) := ⟨_, rfl⟩
      have hz0 : 0 ≤ z := by rw [hz]; exact ofF_nonneg _
      have hz1 : z < 2147483647 := by rw [hz]; exact ofF_lt _
      have CN := Lib.hid (show ∀ W, Calls Tryz.prog 148 #[.int .u64 gn] W fun e w' => e = .returned (.int .u64 z) ∧ W = w' from fun W => by rw [hz]; exact fNorm_any gn W hgn0)
      have HZ := Lib.hid hz
      obtain ⟨nb, hnb⟩ : ∃ nb : Int → ByteArray, nb = fun x => bs (numL x) := ⟨_, rfl⟩
      have HNB := Lib.hid hnb
      have hnzs : (nb z).size ≤ 20 := by rw [hnb, bs_size]; exact numL_len _ (by omega)
      have hnas : (nb ga).size ≤ 20 := by rw [hnb, bs_size]; exact numL_len _ (by have := HGO.out.2.1.2; dsimp only at this; omega)
      have hnbs : (nb gb).size ≤ 20 := by rw [hnb, bs_size]; exact numL_len _ (by have := HGO.out.2.2.1.2; dsimp only at this; omega)
      have ITO := Lib.hid (show ∀ (x : Int) (W : World), 0 ≤ x → x ≤ 9223372036854775807 → Lib.TabIs Tryz.prog W "internal/strconv.uint64pow10" .u64 Lib.pow10Tab → Calls Tryz.prog 55 #[.int .i64 x] W fun e w' => e = .returned (.string (nb x)) ∧ Below W.heap.size W w' from fun x W hx0 hx1 ht => by
        refine (itoa_nat x W hx0 hx1 ht).mono fun e w' hh => ?_
        obtain ⟨rfl, kk, os3, rfl⟩ := hh
        rw [hnb]
        exact ⟨rfl, below_grow W kk os3⟩)
      have FMT := Lib.hid (show ∀ (W : World), Lib.TabIs Tryz.prog W "internal/strconv.uint64pow10" .u64 Lib.pow10Tab → Calls Tryz.prog 79 #[.int .u64 z, .int .i64 10] W fun e w' => e = .returned (.string (nb z)) ∧ Below W.heap.size W w' from fun W ht => by
        refine (fmt_nat z W hz0 (by omega) ht).mono fun e w' hh => ?_
        obtain ⟨rfl, kk, os3, rfl⟩ := hh
        rw [hnb]
        exact ⟨rfl, below_grow W kk os3⟩)
      clear hu hr hgk hgo hb1 hA2 htx hll hgl hlen hz hnb
      rcases hkk with hkd | hkd | hkd | hkd | hkd | hkd
      · subst hkd
        have hx : 0 ≤ ga ∧ ga ≤ 9 := by simp [gRight] at hright; all_goals omega
        obtain ⟨bv, hbv⟩ : ∃ bv, bv = bs (wordL 1) := ⟨_, rfl⟩
        have hbvs : bv.size ≤ 5 := by rw [hbv, bs_size]; exact wordL_len _
        have CW := Lib.hid (show ∀ W, Calls Tryz.prog 156 #[.int .i64 1] W fun e w' => e = .returned (.string bv) ∧ W = w' from fun W => by rw [hbv]; exact cWord_any 1 W (by omega) (by omega))
        have HT0 : (bv ++ (bs [32] ++ nb ga)) ++ bs [10] = bs (gateT ⟨1, ga, gb, gn⟩) := by
          rw [hbv, HNB.out]; dsimp only; simp only [bs_append]; congr 1 <;> simp [gateT, lineT, HZ.out]
        have HT := Lib.hid (show (bv ++ (⟨#[32]⟩ ++ nb ga)) ++ ⟨#[10]⟩ = bs (gateT ⟨1, ga, gb, gn⟩) from HT0)
        clear HT0
        clear hbv
        have TV0 := Lib.hid TB2.out
        have DV0 := Lib.hid (BD.out.below BA.out)
        have XV0 := Lib.hid (BX.out.below BA.out)
        have EV0 := Lib.hid (below_trans BEL.out BA.out hsz)
        have GV0 := Lib.hid BG0.out
        go_wp2_with fail
        refine (CW.out _).mono ?_
        rintro e w' ⟨rfl, rfl⟩
        try dsimp only
        go_wp2_with fail
        refine (ITO.out ga _ (by omega) (by omega) TV0.out).mono ?_
        rintro e V1 ⟨rfl, hb⟩
        have TV1 := Lib.hid (tab_below TV0.out hb)
        have DV1 := Lib.hid (DV0.out.below hb)
        have XV1 := Lib.hid (XV0.out.below hb)
        have EV1 := Lib.hid (below_trans EV0.out hb EV0.out.size)
        have GV1 := Lib.hid (GV0.out.below hb)
        have g0 := GV1.out.cell (i := 0) rfl
        have g1 := GV1.out.cell (i := 1) rfl
        have g2 := GV1.out.cell (i := 2) rfl
        have g3 := GV1.out.cell (i := 3) rfl
        clear hb
        try dsimp only
        go_wp2_with fail
        rw [HT.out]
        have hbb := DV1.out.lt
        refine (bld_write b tx _ _ DV1.out (by have := HGL.out; have := HLT.out; omega)).mono ?_
        rintro e V9 ⟨rfl, hd, hb⟩
        have BD9 := Lib.hid (show Bld V9 b ((gs.take (k + 1)).flatMap gateT) by rw [HNX.out]; exact hd)
        have BX9 := Lib.hid (XV1.out.under hb (by omega))
        have B9 := Lib.hid (EV1.out.trans (hb.mono (by omega)))
        clear hd hb
        try dsimp only
        go_wp2_with fail
        exact ⟨⟨k + 1, by omega, by go_num, BD9.out, HLEN.out, BX9.out, B9.out⟩, by simp [intOf] <;> omega⟩
      · subst hkd
        obtain ⟨bv, hbv⟩ : ∃ bv, bv = bs (wordL 2) := ⟨_, rfl⟩
        have hbvs : bv.size ≤ 5 := by rw [hbv, bs_size]; exact wordL_len _
        have CW := Lib.hid (show ∀ W, Calls Tryz.prog 156 #[.int .i64 2] W fun e w' => e = .returned (.string bv) ∧ W = w' from fun W => by rw [hbv]; exact cWord_any 2 W (by omega) (by omega))
        have HT0 : (bv ++ (bs [32] ++ nb z)) ++ bs [10] = bs (gateT ⟨2, ga, gb, gn⟩) := by
          rw [hbv, HNB.out]; dsimp only; simp only [bs_append]; congr 1 <;> simp [gateT, lineT, HZ.out]
        have HT := Lib.hid (show (bv ++ (⟨#[32]⟩ ++ nb z)) ++ ⟨#[10]⟩ = bs (gateT ⟨2, ga, gb, gn⟩) from HT0)
        clear HT0
        clear hbv
        have TV0 := Lib.hid TB2.out
        have DV0 := Lib.hid (BD.out.below BA.out)
        have XV0 := Lib.hid (BX.out.below BA.out)
        have EV0 := Lib.hid (below_trans BEL.out BA.out hsz)
        have GV0 := Lib.hid BG0.out
        go_wp2_with fail
        refine (CW.out _).mono ?_
        rintro e w' ⟨rfl, rfl⟩
        try dsimp only
        go_wp2_with fail
        refine (CN.out _).mono ?_
        rintro e w' ⟨rfl, rfl⟩
        try dsimp only
        go_wp2_with fail
        refine (FMT.out _ TV0.out).mono ?_
        rintro e V1 ⟨rfl, hb⟩
        have TV1 := Lib.hid (tab_below TV0.out hb)
        have DV1 := Lib.hid (DV0.out.below hb)
        have XV1 := Lib.hid (XV0.out.below hb)
        have EV1 := Lib.hid (below_trans EV0.out hb EV0.out.size)
        have GV1 := Lib.hid (GV0.out.below hb)
        have g0 := GV1.out.cell (i := 0) rfl
        have g1 := GV1.out.cell (i := 1) rfl
        have g2 := GV1.out.cell (i := 2) rfl
        have g3 := GV1.out.cell (i := 3) rfl
        clear hb
        try dsimp only
        go_wp2_with fail
        rw [HT.out]
        have hbb := DV1.out.lt
        refine (bld_write b tx _ _ DV1.out (by have := HGL.out; have := HLT.out; omega)).mono ?_
        rintro e V9 ⟨rfl, hd, hb⟩
        have BD9 := Lib.hid (show Bld V9 b ((gs.take (k + 1)).flatMap gateT) by rw [HNX.out]; exact hd)
        have BX9 := Lib.hid (XV1.out.under hb (by omega))
        have B9 := Lib.hid (EV1.out.trans (hb.mono (by omega)))
        clear hd hb
        try dsimp only
        go_wp2_with fail
        exact ⟨⟨k + 1, by omega, by go_num, BD9.out, HLEN.out, BX9.out, B9.out⟩, by simp [intOf] <;> omega⟩
      · subst hkd
        have hx : (0 ≤ ga ∧ ga < k) ∧ (0 ≤ gb ∧ gb < k) := by simp [gRight, aheadB] at hright; all_goals omega
        obtain ⟨bv, hbv⟩ : ∃ bv, bv = bs (wordL 3) := ⟨_, rfl⟩
        have hbvs : bv.size ≤ 5 := by rw [hbv, bs_size]; exact wordL_len _
        have CW := Lib.hid (show ∀ W, Calls Tryz.prog 156 #[.int .i64 3] W fun e w' => e = .returned (.string bv) ∧ W = w' from fun W => by rw [hbv]; exact cWord_any 3 W (by omega) (by omega))
        have HT0 : (bv ++ (bs [32] ++ nb ga) ++ (bs [32] ++ nb gb)) ++ bs [10] = bs (gateT ⟨3, ga, gb, gn⟩) := by
          rw [hbv, HNB.out]; dsimp only; simp only [bs_append]; congr 1 <;> simp [gateT, lineT, HZ.out]
        have HT := Lib.hid (show (bv ++ (⟨#[32]⟩ ++ nb ga) ++ (⟨#[32]⟩ ++ nb gb)) ++ ⟨#[10]⟩ = bs (gateT ⟨3, ga, gb, gn⟩) from HT0)
        clear HT0
        clear hbv
        have TV0 := Lib.hid TB2.out
        have DV0 := Lib.hid (BD.out.below BA.out)
        have XV0 := Lib.hid (BX.out.below BA.out)
        have EV0 := Lib.hid (below_trans BEL.out BA.out hsz)
        have GV0 := Lib.hid BG0.out
        go_wp2_with fail
        refine (CW.out _).mono ?_
        rintro e w' ⟨rfl, rfl⟩
        try dsimp only
        go_wp2_with fail
        refine (ITO.out ga _ (by omega) (by omega) TV0.out).mono ?_
        rintro e V1 ⟨rfl, hb⟩
        have TV1 := Lib.hid (tab_below TV0.out hb)
        have DV1 := Lib.hid (DV0.out.below hb)
        have XV1 := Lib.hid (XV0.out.below hb)
        have EV1 := Lib.hid (below_trans EV0.out hb EV0.out.size)
        have GV1 := Lib.hid (GV0.out.below hb)
        have g0 := GV1.out.cell (i := 0) rfl
        have g1 := GV1.out.cell (i := 1) rfl
        have g2 := GV1.out.cell (i := 2) rfl
        have g3 := GV1.out.cell (i := 3) rfl
        clear hb
        try dsimp only
        go_wp2_with fail
        refine (ITO.out gb _ (by omega) (by omega) TV1.out).mono ?_
        rintro e V2 ⟨rfl, hb⟩
        have TV2 := Lib.hid (tab_below TV1.out hb)
        have DV2 := Lib.hid (DV1.out.below hb)
        have XV2 := Lib.hid (XV1.out.below hb)
        have EV2 := Lib.hid (below_trans EV1.out hb EV1.out.size)
        have GV2 := Lib.hid (GV1.out.below hb)
        have g0 := GV2.out.cell (i := 0) rfl
        have g1 := GV2.out.cell (i := 1) rfl
        have g2 := GV2.out.cell (i := 2) rfl
        have g3 := GV2.out.cell (i := 3) rfl
        clear hb
        try dsimp only
        go_wp2_with fail
        rw [HT.out]
        have hbb := DV2.out.lt
        refine (bld_write b tx _ _ DV2.out (by have := HGL.out; have := HLT.out; omega)).mono ?_
        rintro e V9 ⟨rfl, hd, hb⟩
        have BD9 := Lib.hid (show Bld V9 b ((gs.take (k + 1)).flatMap gateT) by rw [HNX.out]; exact hd)
        have BX9 := Lib.hid (XV2.out.under hb (by omega))
        have B9 := Lib.hid (EV2.out.trans (hb.mono (by omega)))
        clear hd hb
        try dsimp only
        go_wp2_with fail
        exact ⟨⟨k + 1, by omega, by go_num, BD9.out, HLEN.out, BX9.out, B9.out⟩, by simp [intOf] <;> omega⟩
      · subst hkd
        have hx : (0 ≤ ga ∧ ga < k) ∧ (0 ≤ gb ∧ gb < k) := by simp [gRight, aheadB] at hright; all_goals omega
        obtain ⟨bv, hbv⟩ : ∃ bv, bv = bs (wordL 4) := ⟨_, rfl⟩
        have hbvs : bv.size ≤ 5 := by rw [hbv, bs_size]; exact wordL_len _
        have CW := Lib.hid (show ∀ W, Calls Tryz.prog 156 #[.int .i64 4] W fun e w' => e = .returned (.string bv) ∧ W = w' from fun W => by rw [hbv]; exact cWord_any 4 W (by omega) (by omega))
        have HT0 : (bv ++ (bs [32] ++ nb ga) ++ (bs [32] ++ nb gb)) ++ bs [10] = bs (gateT ⟨4, ga, gb, gn⟩) := by
          rw [hbv, HNB.out]; dsimp only; simp only [bs_append]; congr 1 <;> simp [gateT, lineT, HZ.out]
        have HT := Lib.hid (show (bv ++ (⟨#[32]⟩ ++ nb ga) ++ (⟨#[32]⟩ ++ nb gb)) ++ ⟨#[10]⟩ = bs (gateT ⟨4, ga, gb, gn⟩) from HT0)
        clear HT0
        clear hbv
        have TV0 := Lib.hid TB2.out
        have DV0 := Lib.hid (BD.out.below BA.out)
        have XV0 := Lib.hid (BX.out.below BA.out)
        have EV0 := Lib.hid (below_trans BEL.out BA.out hsz)
        have GV0 := Lib.hid BG0.out
        go_wp2_with fail
        refine (CW.out _).mono ?_
        rintro e w' ⟨rfl, rfl⟩
        try dsimp only
        go_wp2_with fail
        refine (ITO.out ga _ (by omega) (by omega) TV0.out).mono ?_
        rintro e V1 ⟨rfl, hb⟩
        have TV1 := Lib.hid (tab_below TV0.out hb)
        have DV1 := Lib.hid (DV0.out.below hb)
        have XV1 := Lib.hid (XV0.out.below hb)
        have EV1 := Lib.hid (below_trans EV0.out hb EV0.out.size)
        have GV1 := Lib.hid (GV0.out.below hb)
        have g0 := GV1.out.cell (i := 0) rfl
        have g1 := GV1.out.cell (i := 1) rfl
        have g2 := GV1.out.cell (i := 2) rfl
        have g3 := GV1.out.cell (i := 3) rfl
        clear hb
        try dsimp only
        go_wp2_with fail
        refine (ITO.out gb _ (by omega) (by omega) TV1.out).mono ?_
        rintro e V2 ⟨rfl, hb⟩
        have TV2 := Lib.hid (tab_below TV1.out hb)
        have DV2 := Lib.hid (DV1.out.below hb)
        have XV2 := Lib.hid (XV1.out.below hb)
        have EV2 := Lib.hid (below_trans EV1.out hb EV1.out.size)
        have GV2 := Lib.hid (GV1.out.below hb)
        have g0 := GV2.out.cell (i := 0) rfl
        have g1 := GV2.out.cell (i := 1) rfl
        have g2 := GV2.out.cell (i := 2) rfl
        have g3 := GV2.out.cell (i := 3) rfl
        clear hb
        try dsimp only
        go_wp2_with fail
        rw [HT.out]
        have hbb := DV2.out.lt
        refine (bld_write b tx _ _ DV2.out (by have := HGL.out; have := HLT.out; omega)).mono ?_
        rintro e V9 ⟨rfl, hd, hb⟩
        have BD9 := Lib.hid (show Bld V9 b ((gs.take (k + 1)).flatMap gateT) by rw [HNX.out]; exact hd)
        have BX9 := Lib.hid (XV2.out.under hb (by omega))
        have B9 := Lib.hid (EV2.out.trans (hb.mono (by omega)))
        clear hd hb
        try dsimp only
        go_wp2_with fail
        exact ⟨⟨k + 1, by omega, by go_num, BD9.out, HLEN.out, BX9.out, B9.out⟩, by simp [intOf] <;> omega⟩
      · subst hkd
        have hx : (0 ≤ ga ∧ ga < k) ∧ (0 ≤ gb ∧ gb < k) := by simp [gRight, aheadB] at hright; all_goals omega
        obtain ⟨bv, hbv⟩ : ∃ bv, bv = bs (wordL 5) := ⟨_, rfl⟩
        have hbvs : bv.size ≤ 5 := by rw [hbv, bs_size]; exact wordL_len _
        have CW := Lib.hid (show ∀ W, Calls Tryz.prog 156 #[.int .i64 5] W fun e w' => e = .returned (.string bv) ∧ W = w' from fun W => by rw [hbv]; exact cWord_any 5 W (by omega) (by omega))
        have HT0 : (bv ++ (bs [32] ++ nb ga) ++ (bs [32] ++ nb gb)) ++ bs [10] = bs (gateT ⟨5, ga, gb, gn⟩) := by
          rw [hbv, HNB.out]; dsimp only; simp only [bs_append]; congr 1 <;> simp [gateT, lineT, HZ.out]
        have HT := Lib.hid (show (bv ++ (⟨#[32]⟩ ++ nb ga) ++ (⟨#[32]⟩ ++ nb gb)) ++ ⟨#[10]⟩ = bs (gateT ⟨5, ga, gb, gn⟩) from HT0)
        clear HT0
        clear hbv
        have TV0 := Lib.hid TB2.out
        have DV0 := Lib.hid (BD.out.below BA.out)
        have XV0 := Lib.hid (BX.out.below BA.out)
        have EV0 := Lib.hid (below_trans BEL.out BA.out hsz)
        have GV0 := Lib.hid BG0.out
        go_wp2_with fail
        refine (CW.out _).mono ?_
        rintro e w' ⟨rfl, rfl⟩
        try dsimp only
        go_wp2_with fail
        refine (ITO.out ga _ (by omega) (by omega) TV0.out).mono ?_
        rintro e V1 ⟨rfl, hb⟩
        have TV1 := Lib.hid (tab_below TV0.out hb)
        have DV1 := Lib.hid (DV0.out.below hb)
        have XV1 := Lib.hid (XV0.out.below hb)
        have EV1 := Lib.hid (below_trans EV0.out hb EV0.out.size)
        have GV1 := Lib.hid (GV0.out.below hb)
        have g0 := GV1.out.cell (i := 0) rfl
        have g1 := GV1.out.cell (i := 1) rfl
        have g2 := GV1.out.cell (i := 2) rfl
        have g3 := GV1.out.cell (i := 3) rfl
        clear hb
        try dsimp only
        go_wp2_with fail
        refine (ITO.out gb _ (by omega) (by omega) TV1.out).mono ?_
        rintro e V2 ⟨rfl, hb⟩
        have TV2 := Lib.hid (tab_below TV1.out hb)
        have DV2 := Lib.hid (DV1.out.below hb)
        have XV2 := Lib.hid (XV1.out.below hb)
        have EV2 := Lib.hid (below_trans EV1.out hb EV1.out.size)
        have GV2 := Lib.hid (GV1.out.below hb)
        have g0 := GV2.out.cell (i := 0) rfl
        have g1 := GV2.out.cell (i := 1) rfl
        have g2 := GV2.out.cell (i := 2) rfl
        have g3 := GV2.out.cell (i := 3) rfl
        clear hb
        try dsimp only
        go_wp2_with fail
        rw [HT.out]
        have hbb := DV2.out.lt
        refine (bld_write b tx _ _ DV2.out (by have := HGL.out; have := HLT.out; omega)).mono ?_
        rintro e V9 ⟨rfl, hd, hb⟩
        have BD9 := Lib.hid (show Bld V9 b ((gs.take (k + 1)).flatMap gateT) by rw [HNX.out]; exact hd)
        have BX9 := Lib.hid (XV2.out.under hb (by omega))
        have B9 := Lib.hid (EV2.out.trans (hb.mono (by omega)))
        clear hd hb
        try dsimp only
        go_wp2_with fail
        exact ⟨⟨k + 1, by omega, by go_num, BD9.out, HLEN.out, BX9.out, B9.out⟩, by simp [intOf] <;> omega⟩
      · subst hkd
        have hx : 0 ≤ ga ∧ ga < k := by simp [gRight, aheadB] at hright; all_goals omega
        obtain ⟨bv, hbv⟩ : ∃ bv, bv = bs (wordL 6) := ⟨_, rfl⟩
        have hbvs : bv.size ≤ 5 := by rw [hbv, bs_size]; exact wordL_len _
        have CW := Lib.hid (show ∀ W, Calls Tryz.prog 156 #[.int .i64 6] W fun e w' => e = .returned (.string bv) ∧ W = w' from fun W => by rw [hbv]; exact cWord_any 6 W (by omega) (by omega))
        have HT0 : (bv ++ (bs [32] ++ nb ga) ++ (bs [32] ++ nb z)) ++ bs [10] = bs (gateT ⟨6, ga, gb, gn⟩) := by
          rw [hbv, HNB.out]; dsimp only; simp only [bs_append]; congr 1 <;> simp [gateT, lineT, HZ.out]
        have HT := Lib.hid (show (bv ++ (⟨#[32]⟩ ++ nb ga) ++ (⟨#[32]⟩ ++ nb z)) ++ ⟨#[10]⟩ = bs (gateT ⟨6, ga, gb, gn⟩) from HT0)
        clear HT0
        clear hbv
        have TV0 := Lib.hid TB2.out
        have DV0 := Lib.hid (BD.out.below BA.out)
        have XV0 := Lib.hid (BX.out.below BA.out)
        have EV0 := Lib.hid (below_trans BEL.out BA.out hsz)
        have GV0 := Lib.hid BG0.out
        go_wp2_with fail
        refine (CW.out _).mono ?_
        rintro e w' ⟨rfl, rfl⟩
        try dsimp only
        go_wp2_with fail
        refine (ITO.out ga _ (by omega) (by omega) TV0.out).mono ?_
        rintro e V1 ⟨rfl, hb⟩
        have TV1 := Lib.hid (tab_below TV0.out hb)
        have DV1 := Lib.hid (DV0.out.below hb)
        have XV1 := Lib.hid (XV0.out.below hb)
        have EV1 := Lib.hid (below_trans EV0.out hb EV0.out.size)
        have GV1 := Lib.hid (GV0.out.below hb)
        have g0 := GV1.out.cell (i := 0) rfl
        have g1 := GV1.out.cell (i := 1) rfl
        have g2 := GV1.out.cell (i := 2) rfl
        have g3 := GV1.out.cell (i := 3) rfl
        clear hb
        try dsimp only
        go_wp2_with fail
        refine (CN.out _).mono ?_
        rintro e w' ⟨rfl, rfl⟩
        try dsimp only
        go_wp2_with fail
        refine (FMT.out _ TV1.out).mono ?_
        rintro e V2 ⟨rfl, hb⟩
        have TV2 := Lib.hid (tab_below TV1.out hb)
        have DV2 := Lib.hid (DV1.out.below hb)
        have XV2 := Lib.hid (XV1.out.below hb)
        have EV2 := Lib.hid (below_trans EV1.out hb EV1.out.size)
        have GV2 := Lib.hid (GV1.out.below hb)
        have g0 := GV2.out.cell (i := 0) rfl
        have g1 := GV2.out.cell (i := 1) rfl
        have g2 := GV2.out.cell (i := 2) rfl
        have g3 := GV2.out.cell (i := 3) rfl
        clear hb
        try dsimp only
        go_wp2_with fail
        rw [HT.out]
        have hbb := DV2.out.lt
        refine (bld_write b tx _ _ DV2.out (by have := HGL.out; have := HLT.out; omega)).mono ?_
        rintro e V9 ⟨rfl, hd, hb⟩
        have BD9 := Lib.hid (show Bld V9 b ((gs.take (k + 1)).flatMap gateT) by rw [HNX.out]; exact hd)
        have BX9 := Lib.hid (XV2.out.under hb (by omega))
        have B9 := Lib.hid (EV2.out.trans (hb.mono (by omega)))
        clear hd hb
        try dsimp only
        go_wp2_with fail
        exact ⟨⟨k + 1, by omega, by go_num, BD9.out, HLEN.out, BX9.out, B9.out⟩, by simp [intOf] <;> omega⟩
    · obtain rfl : k = gs.length := by omega
      have HTK := Lib.hid (show gs.take gs.length = gs from List.take_length)
      rw [HTK.out] at BD hlen
      obtain ⟨tg, htg⟩ : ∃ tg, tg = gs.flatMap gateT := ⟨_, rfl⟩
      have HTG := Lib.hid htg
      rw [← htg] at BD hlen
      have HTGL := Lib.hid (show tg.length ≤ 1800 by omega)
      have hc1' := BX.out.cell (i := 1) rfl
      clear htg hlen
      go_wp2_with fail
      clear hc1'
      obtain ⟨wo, hwo⟩ : ∃ wo, wo = wr := ⟨_, rfl⟩
      subst hwo
      go_loopw [64] (fun i wr => ∃ q : Nat, q ≤ os.length ∧ i = .int .i64 q ∧ Bld wr b (tg ++ (os.take q).flatMap outT) ∧ (tg ++ (os.take q).flatMap outT).length ≤ 1800 + 30 * q ∧ Below w.heap.size w wr) (fun i _ => os.length - (intOf i).toNat)
      case atStart => exact ⟨0, Nat.zero_le _, rfl, by simpa using BD.out, by simp; exact HTGL.out, BEL.out⟩
      case round =>
        obtain ⟨q, hq, rfl, hbd, hlq, hbel⟩ := hrel
        have BD1 := Lib.hid hbd
        have BE1 := Lib.hid hbel
        have hs2 := hbel.size
        clear hbd hbel
        by_cases hltq : q < os.length
        · obtain ⟨A, c, hA, _, _, _, hu, hr⟩ := KO.out.below BE1.out
          injection hA with hA1 hA2 hA3
          subst hA1 hA3
          clear hA2
          obtain ⟨b2, o2, z, rfl, hb2, hgz, hat, hcz⟩ := ints_at hr hu hltq
          obtain ⟨hz0, hz1⟩ := OK.out.outs z (List.mem_of_getElem? hgz)
          obtain ⟨na, hna⟩ : ∃ na, na = bs (numL z) := ⟨_, rfl⟩
          have hnl := numL_len z (by omega)
          have hnas : na.size ≤ 20 := by rw [hna, bs_size]; exact hnl
          have hol : (outT z).length ≤ 25 := by
            rw [outT, List.length_append, List.length_append]
            simp only [List.length_cons, List.length_nil]
            omega
          have HOL := Lib.hid hol
          have HLQ0 := Lib.hid hlq
          have HNQ := Lib.hid (show tg ++ (os.take (q + 1)).flatMap outT = (tg ++ (os.take q).flatMap outT) ++ outT z by rw [outsT_next hgz, List.append_assoc])
          have HLQ := Lib.hid (show (tg ++ (os.take (q + 1)).flatMap outT).length ≤ 1800 + 30 * (q + 1) by
            rw [HNQ.out, List.length_append]; omega)
          have HT0 : (bs [111, 117, 116, 32] ++ na) ++ bs [10] = bs (outT z) := by rw [hna]; simp only [bs_append]; rfl
          have HT := Lib.hid (show (⟨#[111, 117, 116, 32]⟩ ++ na) ++ ⟨#[10]⟩ = bs (outT z) from HT0)
          clear HT0
          have CI := Lib.hid (itoa_nat z wr hz0 (by omega) (tab_below TB.out BE1.out))
          rw [← hna] at CI
          clear hr hu hgz hb2 hna hlq hol hnl
          go_wp2_with fail
          refine CI.out.mono ?_
          rintro e w3 ⟨rfl, kk, os3, rfl⟩
          have BN := below_grow wr kk os3
          have BD3 := Lib.hid (BD1.out.below BN)
          have B3 := Lib.hid (below_trans BE1.out BN BE1.out.size)
          clear BN hcz
          try dsimp only
          go_wp2_with fail
          rw [HT.out]
          have hbb := BD3.out.lt
          refine (bld_write b _ _ _ BD3.out (by have := HOL.out; have := HLQ0.out; omega)).mono ?_
          rintro e V9 ⟨rfl, hd, hb⟩
          have BD9 := Lib.hid (show Bld V9 b (tg ++ (os.take (q + 1)).flatMap outT) by rw [HNQ.out]; exact hd)
          have B9 := Lib.hid (B3.out.trans (hb.mono (by omega)))
          clear hd hb
          try dsimp only
          go_wp2_with fail
          exact ⟨⟨q + 1, by omega, by go_num, BD9.out, HLQ.out, B9.out⟩, by simp [intOf] <;> omega⟩
        · obtain rfl : q = os.length := by omega
          have HF := Lib.hid (show tg ++ (os.take os.length).flatMap outT = circT gs os by rw [List.take_length, HTG.out]; rfl)
          rw [HF.out] at BD1
          have hbb := BD1.out.lt
          go_wp2_with fail
          refine (sh_Builder_String_any b b (circT gs os) _ BD1.out (Nat.le_of_lt hbb)).mono ?_
          rintro e V9 ⟨rfl, hb⟩
          have B9 := Lib.hid (BE1.out.trans (hb.mono (by omega)))
          clear hb
          try dsimp only
          go_wp2_with fail
          exact HP.out _ B9.out
def Verbs (w : World) : Prop := ∀ k : Nat, 1 ≤ k → k ≤ 6 → w.cell? ⟨1, k, none⟩ = some (.string (bs (wordL k)))
theorem Verbs.lt {w : World} (h : Verbs w) : 1 < w.heap.size := by
  have h1 := h 1 (by omega) (by omega)
  rcases Nat.lt_or_ge 1 w.heap.size with k | k
  · exact k
  · simp [World.cell?, Array.getElem?_eq_none k] at h1
theorem Verbs.below {w w' : World} (h : Verbs w) (hb : Below w.heap.size w w') : Verbs w' := fun k h1 h2 => (hb.cell (p := ⟨1, k, none⟩) h.lt).trans (h k h1 h2)
end Go.Proofs.YtploomncapiloaaGreatDoor
namespace Go.Proofs.YtploomncapiloaaGreatDoor
open Go.RowKit Go.Sort Go.PlainAid Croft
def Verbs0 (w : World) : Prop := Verbs w ∧ w.cell? ⟨1, 0, none⟩ = some (.string (bs []))
theorem Verbs0.below {w w' : World} (h : Verbs0 w) (hb : Below w.heap.size w w') : Verbs0 w' :=
  ⟨h.1.below hb, (hb.cell (p := ⟨1, 0, none⟩) h.1.lt).trans h.2⟩
def Lay (w : World) : Prop := MaxIs w ∧ Lib.TabIs Tryz.prog w "internal/strconv.uint64pow10" .u64 Lib.pow10Tab ∧ True
theorem Lay.below {w w' : World} (h : Lay w) (hb : Below w.heap.size w w') : Lay w' := ⟨h.1.below hb, tab_below h.2.1 hb, trivial⟩
theorem circE_range (gs : List Gt) (os : List Int) : 0 ≤ circE gs os ∧ circE gs os ≤ 2 := by
  unfold circE
  split
  · omega
  split
  · omega
  split
  · split <;> omega
  · omega
theorem parseR_at : ∀ (P : List (List UInt8)) (gs : List Gt) (os : List Int) (n k : Nat), parseR gs os n P = .inr k → k ≤ n + P.length
  | [], gs, os, n, k, h => by simp [parseR] at h
  | [x], gs, os, n, k, h => by
    rw [parseR] at h
    split at h
    · cases h
    · cases h; simp
  | x :: y :: l, gs, os, n, k, h => by
    rw [parseR] at h
    split at h
    · cases h; omega
    · next p q hp =>
      have := parseR_at (y :: l) _ _ _ _ h
      simp only [List.length_cons] at this ⊢
      omega
theorem parseT_e (s : List UInt8) : 0 ≤ (parseT s).e ∧ (parseT s).e ≤ 3 := by
  unfold parseT
  split
  · simp
  · unfold parsedOf
    split
    · simp
    · next gs os _ =>
      have := circE_range gs os
      split
      · simp
      · dsimp only; omega
theorem parseT_at (s : List UInt8) : 0 ≤ (parseT s).at_ ∧ (parseT s).at_ ≤ 3000 := by
  unfold parseT
  split
  · simp
  · next hs =>
    unfold parsedOf
    split
    · next k hk =>
      have h1 := parseR_at _ _ _ _ _ hk
      have h2 := pieces_le 10 s
      dsimp only
      omega
    · split <;> simp
set_option maxRecDepth 100000 in
set_option maxHeartbeats 1000000 in
theorem netted_any (F : Nat) (cap : Array Value) (f : List Gt → List Int → List UInt8) (db : Nat) (tx : List UInt8) (kp : Value) (w : World) (hd : Box w db 32 [.string (bs tx), kp]) (hL : Lay w)
    (hcf : ∀ (x : Value) (W : World), (callFunc F (#[x] ++ cap)).run Tryz.prog W = .ok (.enter F (#[x] ++ cap)) W)
    (hF : ∀ (v : Value) (gs : List Gt) (os : List Int) (W : World), Below w.heap.size w W → IsCirc W v gs os → circE gs os = 0 → Calls Tryz.prog F (#[v] ++ cap) W fun e w' => e = .returned (.string (bs (f gs os))) ∧ Below W.heap.size W w') :
    Calls Tryz.prog 49 #[.pointer (some ⟨db, 0, none⟩), .func (.func F) #[] cap] w fun e w' => e = .returned (.string (bs (netA tx f))) ∧ Below w.heap.size w w' := by
  have HF := Lib.hid hF
  have HL := Lib.hid hL
  have BX := Lib.hid hd
  have hc0 := hd.cell (i := 0) rfl
  have CP := Lib.hid (cParse_any tx w hL.1)
  suffices hgoal : ∀ Post : Ending → World → Prop, (∀ w', Below w.heap.size w w' → Post (.returned (.string (bs (netA tx f)))) w') → Calls Tryz.prog 49 #[.pointer (some ⟨db, 0, none⟩), .func (.func F) #[] cap] w Post from hgoal _ fun w' h => ⟨rfl, h⟩
  intro Post hpo
  have HP := Lib.hid hpo
  have he3 := parseT_e tx
  have hat := parseT_at tx
  obtain ⟨E, hE⟩ : ∃ E, E = (parseT tx).e := ⟨_, rfl⟩
  obtain ⟨A, hA⟩ : ∃ A, A = (parseT tx).at_ := ⟨_, rfl⟩
  obtain ⟨gs, hgs⟩ : ∃ gs, gs = (parseT tx).gs := ⟨_, rfl⟩
  obtain ⟨os, hos⟩ : ∃ os, os = (parseT tx).os := ⟨_, rfl⟩
  have HN := Lib.hid (show netA tx f = if E = 0 then f gs os else errT E ++ 32 :: numL A by unfold netA; rw [← hE, ← hA, ← hgs, ← hos])
  have HC := Lib.hid (show E = 0 → circE gs os = 0 by rw [hE, hgs, hos]; exact fun h => circE_zero.2 (parseT_ok h))
  rw [← hE, ← hA, ← hgs, ← hos] at CP
  rw [← hE] at he3
  rw [← hA] at hat
  obtain ⟨st, hst⟩ : ∃ st, st = bs tx := ⟨_, rfl⟩
  rw [← hst] at CP hc0
  clear hpo hF hL hd hE hA hgs hos hst
  by_cases hE0 : E = 0
  · have hbn : (E != 0) = false := by rw [bne_eq_false_iff_eq]; exact hE0
    have HC0 := Lib.hid (HC.out hE0)
    have HN0 := Lib.hid (show netA tx f = f gs os by rw [HN.out, if_pos hE0])
    clear hE0
    go_enter Tryz.func49, Tryz.ntmps49
    go_wp2_with fail
    refine CP.out.mono ?_
    rintro e W1 ⟨v, rfl, hcirc, hb⟩
    have KC := Lib.hid hcirc
    obtain ⟨vg, vo, rfl, hg, ho⟩ := hcirc
    obtain ⟨A1, c1, rfl, hc1, hm1, hl1, hu1, hr1⟩ := hg
    obtain ⟨A2, c2, rfl, hc2, hm2, hl2, hu2, hr2⟩ := ho
    have B1 := Lib.hid hb
    clear hb hu1 hr1 hm1 hu2 hr2 hm2
    try dsimp only
    go_wp2_with fail
    have B2 := Lib.hid (B1.out.alloc B1.out.size (.cells #[.slice A1 gs.length c1, .slice A2 os.length c2] 85))
    refine (HF.out _ gs os _ B2.out (KC.out.below ((Below.refl _ _).alloc (Nat.le_refl _) _)) HC0.out).mono ?_
    rintro e w' ⟨rfl, hb⟩
    have B3 := Lib.hid (below_trans B2.out hb B2.out.size)
    clear hb
    rw [HN0.out] at HP
    try dsimp only
    go_wp2_with fail
    exact HP.out _ B3.out
  · have hbn : (E != 0) = true := by rw [bne_iff_ne]; exact hE0
    have HN0 := Lib.hid (show netA tx f = errT E ++ 32 :: numL A by rw [HN.out, if_neg hE0])
    obtain ⟨s1, hs1⟩ : ∃ s1, s1 = bs (errT E) := ⟨_, rfl⟩
    obtain ⟨s3, hs3⟩ : ∃ s3, s3 = bs (numL A) := ⟨_, rfl⟩
    have CF := Lib.hid (fun W (hW : Lay W) => failed_any E W (by omega) (by omega) hW.2.1)
    have CI := Lib.hid (fun W (hW : Lay W) => itoa_nat A W (by omega) (by omega) hW.2.1)
    have hz1 : s1.size ≤ 40 := by rw [hs1, bs_size, errT, List.length_append]; have := numL_len E (by omega); simp; omega
    have hz3 : s3.size ≤ 20 := by rw [hs3, bs_size]; exact numL_len _ (by omega)
    have HN1 := Lib.hid (show s1 ++ (⟨#[32]⟩ : ByteArray) ++ s3 = bs (netA tx f) by
      rw [HN0.out, hs1, hs3]
      show bs _ ++ bs [32] ++ bs _ = _
      rw [bs_append, bs_append]; simp)
    obtain ⟨s2, hs2⟩ : ∃ s2, s2 = s1 ++ (⟨#[32]⟩ : ByteArray) := ⟨_, rfl⟩
    have hz2 : s2.size ≤ 41 := by rw [hs2, ByteArray.size_append]; have : (⟨#[32]⟩ : ByteArray).size = 1 := rfl; omega
    have t1 : ∀ W, (Op.stringOp .add s1 ⟨#[32]⟩).run Tryz.prog W = .ok (.string s2) W := fun W => by
      rw [hs2]; exact run_string_add_sum W s1 _ (by have : (⟨#[32]⟩ : ByteArray).size = 1 := rfl; omega)
    have t2 : ∀ W, (Op.stringOp .add s2 s3).run Tryz.prog W = .ok (.string (s2 ++ s3)) W := fun W => run_string_add_sum W s2 s3 (by omega)
    rw [← hs1] at CF
    rw [← hs3] at CI
    rw [← hs2] at HN1
    rw [← HN1.out] at HP
    clear hE0 hs1 hs2 hs3 he3 hat
    go_enter Tryz.func49, Tryz.ntmps49
    go_wp2_with fail
    refine CP.out.mono ?_
    rintro e W1 ⟨v, rfl, hcirc, hb⟩
    obtain ⟨vg, vo, rfl, hg, ho⟩ := hcirc
    obtain ⟨A1, c1, rfl, hc1, hm1, hl1, hu1, hr1⟩ := hg
    obtain ⟨A2, c2, rfl, hc2, hm2, hl2, hu2, hr2⟩ := ho
    have B1 := Lib.hid hb
    clear hb hu1 hr1 hm1 hu2 hr2 hm2
    have B2 := Lib.hid (B1.out.alloc B1.out.size (.cells #[.slice A1 gs.length c1, .slice A2 os.length c2] 85))
    try dsimp only
    go_wp2_with fail
    refine (CF.out _ (HL.out.below B2.out)).mono ?_
    rintro e W2 ⟨rfl, hb⟩
    have B3 := Lib.hid (below_trans B2.out hb B2.out.size)
    clear hb
    try dsimp only
    go_wp2_with fail
    refine (CI.out _ (HL.out.below B3.out)).mono ?_
    rintro e W3 ⟨rfl, q, os, rfl⟩
    try dsimp only
    go_wp2_with fail
    exact HP.out _ (below_trans B3.out (below_grow W2 q os) B3.out.size)
end Go.Proofs.YtploomncapiloaaGreatDoor
