/- The law TopKeys, walked. -/
import Derived.Test.YtbgfgkegcchaoaaTopK
import Derived.Deep.CutRange
import Derived.Deep.CutBlock
namespace Go.Proofs.Ytbgfgkegcchaoaa
open Go.RowKit Go.Maps Croft

set_option maxRecDepth 100000 in
set_option maxHeartbeats 4000000 in
theorem topKeys_any (t n : Int) (vl : Value) (l : List (Cl × Value)) (w : World) (h1 : IsCalls w vl l) :
    Calls Try.prog 3 #[.int .i64 t, .int .i64 n, vl] w fun e w' => e = .returned (.bool true) ∧ Below w.heap.size w w' := by
  have hmm := @run_makeMap Try.prog
  have KL := Lib.hid h1
  obtain ⟨A1, c1, rfl, hc1, hm1, hl1, hu1, hr1⟩ := h1
  clear hu1 hr1 hm1
  suffices hgoal : ∀ Post : Ending → World → Prop, (∀ w', Below w.heap.size w w' → Post (.returned (.bool true)) w') → Calls Try.prog 3 #[.int .i64 t, .int .i64 n, .slice A1 l.length c1] w Post from hgoal _ fun w' h => ⟨rfl, h⟩
  intro Post hpo
  have HP := Lib.hid hpo
  clear hpo
  go_enter Try.func3, Try.ntmps3
  go_wp2_with fail
  refine (tSaid_any _).mono ?_
  rintro e W1 ⟨rfl, hb⟩
  have B1 := Lib.hid hb
  clear hb
  try dsimp only
  go_wp2_with fail
  refine (tCrew_any t n _).mono ?_
  rintro e w' ⟨⟨T, N, hT, hN1, hN2, rfl⟩, rfl⟩
  try dsimp only
  go_wp2_with fail
  refine (kNew_ok N T _ hT (by omega) hN2 hN1).mono ?_
  rintro e W2 ⟨kb, mb, V0, rfl, hk2, hb2⟩
  have K2 := Lib.hid hk2
  have B2 := Lib.hid (below_trans B1.out hb2 B1.out.size)
  have BS := Lib.hid B1.out.size
  clear hk2 hb2 B1
  try dsimp only
  by_cases h60 : (l.length : Int) > 60
  · go_wp2_with fail
    exact HP.out _ B2.out
  · have hd60 : decide ((l.length : Int) > 60) = false := by simpa using h60
    go_wp2_with fail
    have P3 := Lib.hid (show PlainIs (W2.alloc (.map #[] 0)) W2.heap.size 0 (fun _ => none) (fun _ => 0) from ⟨_, World.ownsMap_made W2 _ _ _, rfl, fun z => rfl, fun z d h => by simp at h⟩)
    have K3 := Lib.hid (K2.out.below ((Below.refl W2.heap.size W2).alloc (Nat.le_refl _) (.map #[] 0)))
    have B3 := Lib.hid (B2.out.alloc B2.out.size (.map #[] 0))
    have hpw : w.heap.size ≤ W2.heap.size := B2.out.size
    have hpk : W2.heap.size ≠ kb := by have := K2.out.lt; omega
    have hpm : W2.heap.size ≠ mb := by have := K2.out.store.lt; omega
    obtain ⟨pb, hpb⟩ : ∃ pb, pb = W2.heap.size := ⟨_, rfl⟩
    obtain ⟨W3, hW3⟩ : ∃ W3, W3 = W2.alloc (.map #[] 0) := ⟨_, rfl⟩
    rw [← hW3] at P3 K3 B3 ⊢
    rw [← hpb] at P3 hpk hpm hpw ⊢
    clear hpb hW3 K2 B2 hmm
    go_loopw [49] (fun i wr => ∃ j : Nat, j ≤ l.length ∧ i = .int .i64 j ∧ Both wr W1.heap.size kb mb pb N T j ∧ Below w.heap.size w wr) (fun i _ => l.length - (intOf i).toNat)
    case atStart => exact ⟨0, Nat.zero_le _, rfl, ⟨0, 0, _, V0, _, K3.out, P3.out, fun z zs h => by simp at h, Nat.le_refl _, hpk, hpm⟩, B3.out⟩
    case round =>
      obtain ⟨j, hj, rfl, hboth, hbel⟩ := hrel
      clear P3 K3 B3
      obtain ⟨last, sz, S, V, X, hk, hp, hx, hlast, _, _⟩ := hboth
      have KK := Lib.hid hk
      have PP := Lib.hid hp
      have XX := Lib.hid hx
      have BEL := Lib.hid hbel
      have hsz := hbel.size
      clear hk hp hx hbel
      by_cases hlt : j < l.length
      · obtain ⟨A, c, hA, _, _, _, hu, hr⟩ := KL.out.below BEL.out
        injection hA with hA1 hA2 hA3
        subst hA1 hA3
        clear hA2
        obtain ⟨b1, o1, C, u, rfl, hb1, hgk, hok, hc0, hc1', hc2, hc3, hc4, hc5⟩ := call_at hr hu hlt
        obtain ⟨kind, gg, hh, aa, bb, draws⟩ := C
        obtain ⟨k1, k2, k3, k4, k5, k6⟩ := hok
        dsimp only at k1 k2 k3 k4 k5 k6 hc0 hc1' hc2 hc3 hc4 hc5
        have HD := Lib.hid k6
        clear hr hu hgk
        obtain ⟨Ad, cd, rfl, _, _, _, _, _⟩ := k6
        have HB2 := Lib.hid (BEL.out.alloc hsz (.cells #[.int .i64 kind, .int .i64 gg, .int .i64 hh, .int .u64 aa, .int .u64 bb, .slice Ad draws.length cd] 34))
        have HN2 := Lib.hid ((Below.refl wr.heap.size wr).alloc (Nat.le_refl _) (.cells #[.int .i64 kind, .int .i64 gg, .int .i64 hh, .int .u64 aa, .int .u64 bb, .slice Ad draws.length cd] 34))
        have KK2 := Lib.hid (KK.out.below HN2.out)
        have PP2 := Lib.hid (PP.out.below HN2.out)
        have HD2 := Lib.hid (HD.out.below HN2.out)
        have BX2 := Lib.hid (Box.new wr 34 [.int .i64 kind, .int .i64 gg, .int .i64 hh, .int .u64 aa, .int .u64 bb, .slice Ad draws.length cd])
        have hck : wr.heap.size ≠ kb := by have := KK.out.lt; omega
        have hcm : wr.heap.size ≠ mb := by have := KK.out.store.lt; omega
        have hsz2 := HB2.out.size
        have hwk : w.heap.size ≤ kb := Nat.le_trans BS.out KK.out.le
        have hwm : w.heap.size ≤ mb := Nat.le_trans BS.out KK.out.store.le
        have hsz8 := KK.out.sz8
        go_upto_block 2 with fail
        obtain ⟨w2, hw2⟩ : ∃ w2, w2 = wr.alloc (.cells #[.int .i64 kind, .int .i64 gg, .int .i64 hh, .int .u64 aa, .int .u64 bb, .slice Ad draws.length cd] 34) := ⟨_, rfl⟩
        replace BX2 := Lib.hid (show Box w2 wr.heap.size 34 [.int .i64 kind, .int .i64 gg, .int .i64 hh, .int .u64 aa, .int .u64 bb, .slice Ad draws.length cd] by rw [hw2]; exact BX2.out)
        rw [← hw2] at HB2 KK2 PP2 HD2 hsz2 ⊢
        obtain ⟨cb, hcb⟩ : ∃ cb, cb = wr.heap.size := ⟨_, rfl⟩
        rw [← hcb] at BX2 hck hcm ⊢
        clear hw2 hcb HN2 KK PP HD BEL hsz hc0 hc1' hc2 hc3 hc4 hc5 hb1 KL
        have g0 := BX2.out.cell (i := 0) rfl
        have g1 := BX2.out.cell (i := 1) rfl
        have g2 := BX2.out.cell (i := 2) rfl
        have g3 := BX2.out.cell (i := 3) rfl
        have g4 := BX2.out.cell (i := 4) rfl
        have g5 := BX2.out.cell (i := 5) rfl
        obtain ⟨m0, hm0⟩ : ∃ m0 : Nat, N * (T + 1) = m0 := ⟨_, rfl⟩
        obtain ⟨m1, hm1⟩ : ∃ m1 : Nat, N * T = m1 := ⟨_, rfl⟩
        have hmul0 : (N : Int) * ((T : Int) + 1) = (m0 : Int) := by rw [← hm0]; simp
        have hmul1 : (N : Int) * (T : Int) = (m1 : Int) := by rw [← hm1]; simp
        have hm0b : m0 ≤ 45 := by rw [← hm0]; exact Nat.le_trans (Nat.mul_le_mul hN2 (show T + 1 ≤ 5 by omega)) (by omega)
        have hm1b : m1 ≤ 36 := by rw [← hm1]; exact Nat.le_trans (Nat.mul_le_mul hN2 hT) (by omega)
        have hwr1 : IntKind.i64.wrap (m1 : Int) = (m1 : Int) := IntWalk.i64_in _ (by omega)
        have HM0 := Lib.hid hm0
        have HM1 := Lib.hid hm1
        clear hm0 hm1
        have FR := Lib.hid KK2.out.fresh
        have hi1 : I64 ((last : Int) + 1) := by unfold I64; omega
        go_cut [49] from 49 to 220 (fun i wx => i = .int .i64 j ∧ Both wx W1.heap.size kb mb pb N T (j + 1) ∧ Below w.heap.size w wx)
        case first =>
          by_cases e0 : kind = 0
          · as_aux_lemma =>
            subst e0
            go_wp2_with fail
            refine (tFilled_any _ draws m0 _ HD2.out (by omega)).mono ?_
            rintro e w3 ⟨vd, rfl, ho3, hb3⟩
            have KK3 := Lib.hid (KK2.out.below hb3)
            have PP3 := Lib.hid (PP2.out.below hb3)
            have BL3 := Lib.hid (below_trans HB2.out hb3 HB2.out.size)
            have HO3 := Lib.hid ho3
            have hkb2 := KK2.out.lt
            have hmb2 := KK2.out.store.lt
            clear ho3 hb3 KK2 PP2 HB2 HD2
            try dsimp only
            go_wp2_with fail
            refine (kGen_any vd (fillL draws m0) w3 KK3.out HO3.out.is (by rw [fillL_length, HM0.out]) hT hN2 (by omega) (by omega)).mono ?_
            intro e w4 h4
            by_cases h8 : sz = 8
            · rw [if_pos h8] at h4
              obtain ⟨rfl, hb4⟩ := h4
              have KK4 := Lib.hid (KK3.out.below hb4)
              have PP4 := Lib.hid (PP3.out.below hb4)
              have BL4 := Lib.hid (below_trans BL3.out hb4 BL3.out.size)
              clear hb4
              try dsimp only
              go_wp2_with fail
              go_meet
              case rel => exact ⟨rfl, ⟨last, sz, S, V, X, KK4.out, PP4.out, XX.out, by omega, hpk, hpm⟩, BL4.out⟩
            · rw [if_neg h8] at h4
              obtain ⟨rfl, ⟨V', hk4⟩, hn4⟩ := h4
              have KK4 := Lib.hid hk4
              have PP4 := Lib.hid (PP3.out.near hn4 hpk hpm)
              have BL4 := Lib.hid (below_near BL3.out hn4 hwk hwm BL3.out.size)
              have HO4 := Lib.hid (HO3.out.near hn4 hkb2 hmb2)
              have h4s := BL4.out.size
              obtain ⟨Af, cf, rfl, hcf, hmf, hlf, huf, hrf⟩ := HO4.out.is
              rw [fillL_length] at hcf hlf ⊢
              have HRF := Lib.hid hrf
              have HUF := Lib.hid huf
              clear hk4 hn4 HO3 PP3 BL3 KK3 hmf hrf huf HO4 g0 g1 g2 g3 g4 g5
              obtain ⟨gx, hgx⟩ : ∃ gx : Nat → F, gx = fun i => toF ((fillL draws m0).getD (i * (T + 1)) 0) := ⟨_, rfl⟩
              have HGX := Lib.hid hgx
              clear hgx
              try dsimp only
              go_wp2_with fail
              go_loopw [15, 73] (fun s i wq => ∃ k : Nat, k ≤ N ∧ i = .int .i64 k ∧ s = .int .u64 (ofF (fsum k gx)) ∧ wq = w4) (fun _ i _ => N - (intOf i).toNat)
              case atStart => exact ⟨0, Nat.zero_le _, rfl, rfl, rfl⟩
              case round =>
                obtain ⟨k, hk, rfl, rfl, rfl⟩ := hrel
                by_cases hlk : k < N
                · obtain ⟨mk, hmk⟩ : ∃ mk : Nat, k * (T + 1) = mk := ⟨_, rfl⟩
                  have hmulk : (k : Int) * ((T : Int) + 1) = (mk : Int) := by rw [← hmk]; simp
                  have hmkb : mk < m0 := by
                    rw [← hmk, ← HM0.out]
                    exact Nat.lt_of_lt_of_le (show k * (T + 1) < (k + 1) * (T + 1) by rw [Nat.succ_mul]; omega) (Nat.mul_le_mul hlk (Nat.le_refl _))
                  obtain ⟨b5, o5, z5, rfl, hb5, hg5, hz5, hc5⟩ := nums_at HRF.out HUF.out (k := mk) (by rw [fillL_length]; exact hmkb)
                  have HNX := Lib.hid (show fsum (k + 1) gx = fsum k gx + toF z5 by
                    show _ + gx k = _
                    rw [show gx k = toF ((fillL draws m0).getD (k * (T + 1)) 0) by rw [HGX.out], hmk, List.getD, hg5]; rfl)
                  clear hmk hg5 hb5
                  go_wp2_with fail
                  refine (fAdd_any _ _ _ (ofF_nonneg _) hz5.1).mono ?_
                  rintro e w' ⟨rfl, rfl⟩
                  rw [toF_ofF]
                  try dsimp only
                  go_wp2_with fail
                  exact ⟨⟨k + 1, by omega, by go_num, by rw [HNX.out], trivial⟩, by simp [intOf] <;> omega⟩
                · obtain rfl : k = N := by omega
                  have HSH := Lib.hid (show Shared k T (toFs (ofFs (sumD k (genP T (fillL draws m0)) k))) (fsum k gx) by rw [HGX.out]; exact genP_shared _)
                  go_wp2_with (at_mapUpdate; refine wpList_put_plain rfl _ _ _ rfl rfl PP4.out (by omega) ((last : Int) + 1) hi1 (fsum k gx) rfl rfl FR.out (ofFs (sumD k (genP T (fillL draws m0)) k)) ?_)
                  intro w5 hp5 hg5
                  have KK5 := Lib.hid (KK4.out.other hg5 hpk hpm PP4.out.noCells)
                  have BL5 := Lib.hid (below_grown BL4.out hg5 hpw h4s)
                  have PP5 := Lib.hid hp5
                  clear hp5 hg5
                  go_wp2_with fail
                  go_meet
                  case rel => exact ⟨rfl, ⟨last + 1, sz + 1, _, _, _, KK5.out, PP5.out, XX.out.put HSH.out, by omega, hpk, hpm⟩, BL5.out⟩
          · have HE0 := Lib.hid e0
            have hb0 : (kind == 0) = false := by rw [beq_eq_false_iff_ne]; exact e0
            clear e0
            by_cases e1 : kind = 1
            · as_aux_lemma =>
              subst e1
              have F3 := Lib.hid (tFilled_any _ draws m1 _ (HD2.out.drewN 1) (by omega))
              have hkb2 := KK2.out.lt
              have hmb2 := KK2.out.store.lt
              have hcb2 := BX2.out.lt
              have HI := Lib.hid (Classical.em ((S hh).isSome = true))
              by_cases hin : (S hh).isSome = true
              · obtain ⟨l0, hl0⟩ := Option.isSome_iff_exists.1 hin
                have C4 := Lib.hid (fun vd w3 (h3 : OwnNums w3 w2.heap.size vd (fillL draws m1)) (hb : Below w2.heap.size w2 w3) => kRefresh_ok hh vd (fillL draws m1) l0 w3 (KK2.out.below hb) k3 hl0 h3.is (by rw [fillL_length, HM1.out]) hT (by omega) hN2)
                have HL0 := Lib.hid hl0
                clear hl0 hin HI
                go_wp2_with fail
                go_region_held3 (fun w' => w'.cell? ⟨cb, 2, none⟩ = some (.int .i64 hh) ∧ w'.cell? ⟨cb, 5, none⟩ = some (.slice Ad draws.length cd)) (go_keep) (first | (go_at_call 16; refine F3.out.mono ?_; rintro e w3 ⟨vd, rfl, ho3, hb3⟩; have D3 := Lib.hid ((below_drewN (Below.refl w2.heap.size w2) 1).trans (show Below w2.heap.size (w2.drewN 1) w3 from hb3)); have BX3 := Lib.hid (BX2.out.below D3.out); have C3 := Lib.hid (C4.out vd w3 ho3 D3.out); have q0 := BX3.out.cell (i := 2) rfl; have q1 := BX3.out.cell (i := 5) rfl; clear ho3 hb3) | (go_at_call 19; refine C3.out.mono ?_; rintro e w4 ⟨rfl, ⟨V', hk4⟩, hn4⟩; have KK4 := Lib.hid hk4; have PP4 := Lib.hid (((PP2.out.below D3.out).near hn4 hpk hpm).same (S' := upd S hh (some (ofFs (List.zipWith (· + ·) (toFs l0) (sumD N (refP T (fillL draws m1)) N))))) (upd_there _ HL0.out)); have BL4 := Lib.hid (below_near (below_trans HB2.out D3.out HB2.out.size) hn4 hwk hwm (Nat.le_trans hsz2 D3.out.size)); have BX4 := Lib.hid (BX3.out.near hn4 hck hcm); have q2 := BX4.out.cell (i := 2) rfl; have q3 := BX4.out.cell (i := 5) rfl; clear hk4 hn4))
                clear g0 g1 g2 g3 g4 g5 q0 q1 q2 q3
                go_wp2_with fail
                go_meet
                case rel => exact ⟨rfl, ⟨last, sz, _, _, X, KK4.out, PP4.out, XX.out.turn (refP_shared _ _ (XX.out _ _ HL0.out)), by omega, hpk, hpm⟩, BL4.out⟩
              · have C4 := Lib.hid (fun A m c w3 (hb : Below w2.heap.size w2 w3) => kRefresh_none hh A m c w3 (KK2.out.below hb) k3 hin)
                clear hin HI
                go_wp2_with fail
                go_region_held3 (fun w' => w'.cell? ⟨cb, 2, none⟩ = some (.int .i64 hh) ∧ w'.cell? ⟨cb, 5, none⟩ = some (.slice Ad draws.length cd)) (go_keep) (first | (go_at_call 16; refine F3.out.mono ?_; rintro e w3 ⟨vd, rfl, ho3, hb3⟩; have D3 := Lib.hid ((below_drewN (Below.refl w2.heap.size w2) 1).trans (show Below w2.heap.size (w2.drewN 1) w3 from hb3)); have BX3 := Lib.hid (BX2.out.below D3.out); obtain ⟨A3, c3, rfl, _, _⟩ := own_form ho3.1; rw [fillL_length]; have C3 := Lib.hid (C4.out A3 m1 c3 w3 D3.out); have q0 := BX3.out.cell (i := 2) rfl; have q1 := BX3.out.cell (i := 5) rfl; clear ho3 hb3) | (go_at_call 19; refine C3.out.mono ?_; rintro e w4 ⟨rfl, hb4⟩; have D4 := Lib.hid (below_trans D3.out hb4 D3.out.size); have q2 := (BX3.out.below hb4).cell (i := 2) rfl; have q3 := (BX3.out.below hb4).cell (i := 5) rfl; clear hb4))
                clear g0 g1 g2 g3 g4 g5 q0 q1 q2 q3
                go_wp2_with fail
                go_meet
                case rel => exact ⟨rfl, ⟨last, sz, S, V, X, KK2.out.below D4.out, PP2.out.below D4.out, XX.out, by omega, hpk, hpm⟩, below_trans HB2.out D4.out HB2.out.size⟩
            · have HE1 := Lib.hid e1
              have hb1 : (kind == 1) = false := by rw [beq_eq_false_iff_ne]; exact e1
              clear e1
              by_cases e2 : kind = 2
              · as_aux_lemma =>
                subst e2
                by_cases hin : (S hh).isSome = true
                · obtain ⟨l0, hl0⟩ := Option.isSome_iff_exists.1 hin
                  have C4 := Lib.hid (kTweak_ok hh aa l0 _ KK2.out k3 hl0 k4 (by omega) hN2 (by omega))
                  have HL0 := Lib.hid hl0
                  clear hin hl0
                  go_wp2_with fail
                  refine C4.out.mono ?_
                  intro e w4 h4
                  by_cases h8 : sz = 8
                  · obtain ⟨rfl, ⟨V', hk4⟩, hn4⟩ := h4.full h8
                    have KK4 := Lib.hid hk4
                    have PP4 := Lib.hid (PP2.out.near hn4 hpk hpm)
                    have BL4 := Lib.hid (below_near HB2.out hn4 hwk hwm hsz2)
                    clear h4 hk4 hn4 g0 g1 g2 g3 g4 g5
                    try dsimp only
                    go_wp2_with fail
                    go_meet
                    case rel => exact ⟨rfl, ⟨last, sz, S, _, X, KK4.out, PP4.out, XX.out, by omega, hpk, hpm⟩, BL4.out⟩
                  · obtain ⟨rfl, ⟨V', hk4⟩, hn4⟩ := h4.new h8
                    have KK4 := Lib.hid hk4
                    have PP4 := Lib.hid (PP2.out.near hn4 hpk hpm)
                    have BL4 := Lib.hid (below_near HB2.out hn4 hwk hwm hsz2)
                    have BX4 := Lib.hid (BX2.out.near hn4 hck hcm)
                    have q2 := BX4.out.cell (i := 2) rfl
                    have q3 := BX4.out.cell (i := 3) rfl
                    have hlook := PP4.out.look k3 (by rw [HL0.out]; rfl)
                    have h4s := BL4.out.size
                    clear h4 hk4 hn4 g0 g1 g2 g3 g4 g5
                    try dsimp only
                    go_wp2_with fail
                    refine (fAdd_any _ _ _ (ofF_nonneg _) k4.1).mono ?_
                    rintro e w' ⟨rfl, rfl⟩
                    rw [toF_ofF]
                    try dsimp only
                    go_wp2_with (at_mapUpdate; refine wpList_put_plain rfl _ _ _ rfl rfl PP4.out (by omega) ((last : Int) + 1) hi1 (X hh + toF aa) rfl rfl FR.out (l0.map fun y => ofF (toF y + toF aa)) ?_)
                    intro w5 hp5 hg5
                    have KK5 := Lib.hid (KK4.out.other hg5 hpk hpm PP4.out.noCells)
                    have BL5 := Lib.hid (below_grown BL4.out hg5 hpw h4s)
                    have PP5 := Lib.hid hp5
                    clear hp5 hg5 q2 q3 hlook
                    go_wp2_with fail
                    go_meet
                    case rel => exact ⟨rfl, ⟨last + 1, sz + 1, _, _, _, KK5.out, PP5.out, XX.out.put (tweak_shared l0 _ (XX.out _ _ HL0.out)), by omega, hpk, hpm⟩, BL5.out⟩
                · have C4 := Lib.hid (kTweak_none hh aa _ KK2.out k3 hin)
                  clear hin
                  go_wp2_with fail
                  refine C4.out.mono ?_
                  rintro e w4 ⟨rfl, hb4⟩
                  have KK4 := Lib.hid (KK2.out.below hb4)
                  have PP4 := Lib.hid (PP2.out.below hb4)
                  have BL4 := Lib.hid (below_trans HB2.out hb4 hsz2)
                  clear hb4 g0 g1 g2 g3 g4 g5
                  try dsimp only
                  go_wp2_with fail
                  go_meet
                  case rel => exact ⟨rfl, ⟨last, sz, S, _, X, KK4.out, PP4.out, XX.out, by omega, hpk, hpm⟩, BL4.out⟩
              · have HE2 := Lib.hid e2
                have hb2 : (kind == 2) = false := by rw [beq_eq_false_iff_ne]; exact e2
                clear e2
                by_cases e3 : kind = 3
                · as_aux_lemma =>
                  subst e3
                  by_cases hin : (S gg).isSome = true ∧ (S hh).isSome = true
                  · obtain ⟨l0, hl0⟩ := Option.isSome_iff_exists.1 hin.1
                    obtain ⟨l1, hl1⟩ := Option.isSome_iff_exists.1 hin.2
                    have C4 := Lib.hid (kCombine_ok gg hh aa bb l0 l1 _ KK2.out k2 k3 hl0 hl1 k4 k5 (by omega) hN2 (by omega))
                    have HL0 := Lib.hid hl0
                    have HL1 := Lib.hid hl1
                    clear hin hl0 hl1
                    go_wp2_with fail
                    refine C4.out.mono ?_
                    intro e w4 h4
                    by_cases h8 : sz = 8
                    · obtain ⟨rfl, ⟨V', hk4⟩, hn4⟩ := h4.full h8
                      have KK4 := Lib.hid hk4
                      have PP4 := Lib.hid (PP2.out.near hn4 hpk hpm)
                      have BL4 := Lib.hid (below_near HB2.out hn4 hwk hwm hsz2)
                      clear h4 hk4 hn4 g0 g1 g2 g3 g4 g5
                      try dsimp only
                      go_wp2_with fail
                      go_meet
                      case rel => exact ⟨rfl, ⟨last, sz, S, _, X, KK4.out, PP4.out, XX.out, by omega, hpk, hpm⟩, BL4.out⟩
                    · obtain ⟨rfl, ⟨V', hk4⟩, hn4⟩ := h4.new h8
                      have KK4 := Lib.hid hk4
                      have PP4 := Lib.hid (PP2.out.near hn4 hpk hpm)
                      have BL4 := Lib.hid (below_near HB2.out hn4 hwk hwm hsz2)
                      have BX4 := Lib.hid (BX2.out.near hn4 hck hcm)
                      have q1 := BX4.out.cell (i := 1) rfl
                      have q2 := BX4.out.cell (i := 2) rfl
                      have q3 := BX4.out.cell (i := 3) rfl
                      have q4 := BX4.out.cell (i := 4) rfl
                      have hlk1 := fun q => (PP4.out.drewN q).look k2 (by rw [HL0.out]; rfl)
                      have hlk2 := fun q => (PP4.out.drewN q).look k3 (by rw [HL1.out]; rfl)
                      have hlk3 := PP4.out.look k2 (by rw [HL0.out]; rfl)
                      have hlk4 := PP4.out.look k3 (by rw [HL1.out]; rfl)
                      have h4s := BL4.out.size
                      clear h4 hk4 hn4 g0 g1 g2 g3 g4 g5
                      try dsimp only
                      go_wp2_with fail
                      refine wp_region_quiet_tail 17 (by kernel_rfl) (by kernel_rfl) ?_
                      simp only [List.take_succ_cons, List.take_zero, List.drop_succ_cons, List.drop_zero]
                      repeat (go_big_quiet_step ((first | exact quietL (fMul_any _ _ _ k4.1 (ofF_nonneg _)) | exact quietL (fMul_any _ _ _ k5.1 (ofF_nonneg _)) | exact quietL (fAdd_any _ _ _ (ofF_nonneg _) (ofF_nonneg _)))))
                      refine wpQuiet_nil ?_
                      intro nq
                      have hx : toF (ofF (toF aa * toF (ofF (X gg)))) + toF (ofF (toF bb * toF (ofF (X hh)))) = X gg * toF aa + X hh * toF bb := by rw [toF_ofF, toF_ofF, toF_ofF, toF_ofF]; exact swap_sum _ _ _ _
                      have hs4 := BL4.out.size
                      go_wp2_with (at_mapUpdate; refine wpList_put_plain rfl _ _ _ rfl rfl (PP4.out.drewN nq) (by omega) ((last : Int) + 1) hi1 (X gg * toF aa + X hh * toF bb) rfl (by rw [← hx]; rfl) FR.out (zipS (· + ·) (l0.map fun z => ofF (toF z * toF aa)) (l1.map fun z => ofF (toF z * toF bb))) ?_)
                      intro w5 hp5 hg5
                      have KK5 := Lib.hid ((KK4.out.drewN nq).other hg5 hpk hpm (PP4.out.drewN nq).noCells)
                      have BL5 := Lib.hid (below_grown (below_drewN BL4.out nq) hg5 hpw h4s)
                      have PP5 := Lib.hid hp5
                      clear hp5 hg5 q1 q2 q3 q4 hlk1 hlk2 hlk3 hlk4 hx
                      go_wp2_with fail
                      go_meet
                      case rel => exact ⟨rfl, ⟨last + 1, sz + 1, _, _, _, KK5.out, PP5.out, XX.out.put (combine_shared l0 l1 _ _ (XX.out _ _ HL0.out) (XX.out _ _ HL1.out)), by omega, hpk, hpm⟩, BL5.out⟩
                  · have C4 := Lib.hid (kCombine_none gg hh aa bb _ KK2.out k2 k3 hin)
                    clear hin
                    go_wp2_with fail
                    refine C4.out.mono ?_
                    rintro e w4 ⟨rfl, hb4⟩
                    have KK4 := Lib.hid (KK2.out.below hb4)
                    have PP4 := Lib.hid (PP2.out.below hb4)
                    have BL4 := Lib.hid (below_trans HB2.out hb4 hsz2)
                    clear hb4 g0 g1 g2 g3 g4 g5
                    try dsimp only
                    go_wp2_with fail
                    go_meet
                    case rel => exact ⟨rfl, ⟨last, sz, S, _, X, KK4.out, PP4.out, XX.out, by omega, hpk, hpm⟩, BL4.out⟩
                · have HE3 := Lib.hid e3
                  have hb3 : (kind == 3) = false := by rw [beq_eq_false_iff_ne]; exact e3
                  clear e3
                  by_cases e4 : kind = 4
                  · as_aux_lemma =>
                    subst e4
                    have F3 := Lib.hid (tFilled_any _ draws m1 _ (HD2.out.drewN 1) (by omega))
                    by_cases hin : (S gg).isSome = true ∧ (S hh).isSome = true
                    · obtain ⟨l0, hl0⟩ := Option.isSome_iff_exists.1 hin.1
                      obtain ⟨l1, hl1⟩ := Option.isSome_iff_exists.1 hin.2
                      have C4 := Lib.hid (fun vd w3 (h3 : OwnNums w3 w2.heap.size vd (fillL draws m1)) (hb : Below w2.heap.size w2 w3) => kMultiply_ok gg hh vd (fillL draws m1) l0 l1 w3 (KK2.out.below hb) k2 k3 hl0 hl1 h3.is (by rw [fillL_length, HM1.out]) hT hN1 hN2 (by omega))
                      have HL0 := Lib.hid hl0
                      have HL1 := Lib.hid hl1
                      clear hl0 hl1 hin
                      by_cases h8 : sz = 8
                      · go_wp2_with fail
                        go_region_held3 (fun w' => w'.cell? ⟨cb, 1, none⟩ = some (.int .i64 gg) ∧ w'.cell? ⟨cb, 2, none⟩ = some (.int .i64 hh) ∧ w'.cell? ⟨cb, 5, none⟩ = some (.slice Ad draws.length cd)) (go_keep) (first | (go_at_call 16; refine F3.out.mono ?_; rintro e w3 ⟨vd, rfl, ho3, hb3⟩; have D3 := Lib.hid ((below_drewN (Below.refl w2.heap.size w2) 1).trans (show Below w2.heap.size (w2.drewN 1) w3 from hb3)); have BX3 := Lib.hid (BX2.out.below D3.out); have C3 := Lib.hid (C4.out vd w3 ho3 D3.out); have q0 := BX3.out.cell (i := 1) rfl; have q1 := BX3.out.cell (i := 2) rfl; have q2 := BX3.out.cell (i := 5) rfl; clear ho3 hb3) | (go_at_call 23; refine C3.out.mono ?_; intro e w4 h4; obtain ⟨rfl, ⟨V', hk4⟩, hn4⟩ := h4.full h8; have KK4 := Lib.hid hk4; have PP4 := Lib.hid ((PP2.out.below D3.out).near hn4 hpk hpm); have BL4 := Lib.hid (below_near (below_trans HB2.out D3.out HB2.out.size) hn4 hwk hwm (Nat.le_trans hsz2 D3.out.size)); have BX4 := Lib.hid (BX3.out.near hn4 hck hcm); have q3 := BX4.out.cell (i := 1) rfl; have q4 := BX4.out.cell (i := 2) rfl; have q5 := BX4.out.cell (i := 5) rfl; clear h4 hk4 hn4))
                        clear g0 g1 g2 g3 g4 g5 q0 q1 q2 q3 q4 q5
                        go_wp2_with fail
                        go_meet
                        case rel => exact ⟨rfl, ⟨last, sz, S, _, X, KK4.out, PP4.out, XX.out, by omega, hpk, hpm⟩, BL4.out⟩
                      · go_wp2_with fail
                        go_region_held3 (fun w' => w'.cell? ⟨cb, 1, none⟩ = some (.int .i64 gg) ∧ w'.cell? ⟨cb, 2, none⟩ = some (.int .i64 hh) ∧ w'.cell? ⟨cb, 5, none⟩ = some (.slice Ad draws.length cd)) (go_keep) (first | (go_at_call 16; refine F3.out.mono ?_; rintro e w3 ⟨vd, rfl, ho3, hb3⟩; have D3 := Lib.hid ((below_drewN (Below.refl w2.heap.size w2) 1).trans (show Below w2.heap.size (w2.drewN 1) w3 from hb3)); have BX3 := Lib.hid (BX2.out.below D3.out); have C3 := Lib.hid (C4.out vd w3 ho3 D3.out); have q0 := BX3.out.cell (i := 1) rfl; have q1 := BX3.out.cell (i := 2) rfl; have q2 := BX3.out.cell (i := 5) rfl; clear ho3 hb3) | (go_at_call 23; refine C3.out.mono ?_; intro e w4 h4; obtain ⟨rfl, ⟨V', hk4⟩, hn4⟩ := h4.new h8; have KK4 := Lib.hid hk4; have PP4 := Lib.hid ((PP2.out.below D3.out).near hn4 hpk hpm); have BL4 := Lib.hid (below_near (below_trans HB2.out D3.out HB2.out.size) hn4 hwk hwm (Nat.le_trans hsz2 D3.out.size)); have BX4 := Lib.hid (BX3.out.near hn4 hck hcm); have q3 := BX4.out.cell (i := 1) rfl; have q4 := BX4.out.cell (i := 2) rfl; have q5 := BX4.out.cell (i := 5) rfl; clear h4 hk4 hn4))
                        have hlk1 := PP4.out.look k2 (by rw [HL0.out]; rfl)
                        have hlk2 := PP4.out.look k3 (by rw [HL1.out]; rfl)
                        have h4s := BL4.out.size
                        clear g0 g1 g2 g3 g4 g5 q0 q1 q2
                        go_wp2_with fail
                        refine (fMul_any _ _ _ (ofF_nonneg _) (ofF_nonneg _)).mono ?_
                        rintro e w' ⟨rfl, rfl⟩
                        rw [toF_ofF, toF_ofF]
                        try dsimp only
                        go_wp2_with (at_mapUpdate; refine wpList_put_plain rfl _ _ _ rfl rfl PP4.out (by omega) ((last : Int) + 1) hi1 (X gg * X hh) rfl rfl FR.out (ofFs (mulOut N T (toFs l0) (toFs l1) (toFs (fillL draws m1)))) ?_)
                        intro w5 hp5 hg5
                        have KK5 := Lib.hid (KK4.out.other hg5 hpk hpm PP4.out.noCells)
                        have BL5 := Lib.hid (below_grown BL4.out hg5 hpw h4s)
                        have PP5 := Lib.hid hp5
                        clear hp5 hg5 q3 q4 q5 hlk1 hlk2
                        go_wp2_with fail
                        go_meet
                        case rel => exact ⟨rfl, ⟨last + 1, sz + 1, _, _, _, KK5.out, PP5.out, XX.out.put (multiply_shared l0 l1 _ (XX.out _ _ HL0.out) (XX.out _ _ HL1.out) hN1 hN2), by omega, hpk, hpm⟩, BL5.out⟩
                    · have C4 := Lib.hid (fun vd w3 (hb : Below w2.heap.size w2 w3) => kMultiply_none gg hh vd w3 (KK2.out.below hb) k2 k3 hin)
                      clear hin
                      go_wp2_with fail
                      go_region_held3 (fun w' => w'.cell? ⟨cb, 1, none⟩ = some (.int .i64 gg) ∧ w'.cell? ⟨cb, 2, none⟩ = some (.int .i64 hh) ∧ w'.cell? ⟨cb, 5, none⟩ = some (.slice Ad draws.length cd)) (go_keep) (first | (go_at_call 16; refine F3.out.mono ?_; rintro e w3 ⟨vd, rfl, ho3, hb3⟩; have D3 := Lib.hid ((below_drewN (Below.refl w2.heap.size w2) 1).trans (show Below w2.heap.size (w2.drewN 1) w3 from hb3)); have BX3 := Lib.hid (BX2.out.below D3.out); have C3 := Lib.hid (C4.out vd w3 D3.out); have q0 := BX3.out.cell (i := 1) rfl; have q1 := BX3.out.cell (i := 2) rfl; have q2 := BX3.out.cell (i := 5) rfl; clear ho3 hb3) | (go_at_call 23; refine C3.out.mono ?_; rintro e w4 ⟨rfl, hb4⟩; have D4 := Lib.hid (below_trans D3.out hb4 D3.out.size); have q3 := (BX3.out.below hb4).cell (i := 1) rfl; have q4 := (BX3.out.below hb4).cell (i := 2) rfl; have q5 := (BX3.out.below hb4).cell (i := 5) rfl; clear hb4))
                      clear g0 g1 g2 g3 g4 g5 q0 q1 q2 q3 q4 q5
                      go_wp2_with fail
                      go_meet
                      case rel => exact ⟨rfl, ⟨last, sz, S, V, X, KK2.out.below D4.out, PP2.out.below D4.out, XX.out, by omega, hpk, hpm⟩, below_trans HB2.out D4.out HB2.out.size⟩
                  · have HE4 := Lib.hid e4
                    have hb4 : (kind == 4) = false := by rw [beq_eq_false_iff_ne]; exact e4
                    clear e4
                    by_cases e5 : kind = 5
                    · as_aux_lemma =>
                      subst e5
                      by_cases hin : (S hh).isSome = true
                      · obtain ⟨l0, hl0⟩ := Option.isSome_iff_exists.1 hin
                        have C4 := Lib.hid (kDrop_ok hh l0 _ KK2.out k3 hl0)
                        have HL0 := Lib.hid hl0
                        clear hl0 hin
                        go_wp2_with fail
                        refine C4.out.mono ?_
                        rintro e w4 ⟨rfl, hk4, hn4⟩
                        have KK4 := Lib.hid hk4
                        have PP4 := Lib.hid (PP2.out.near hn4 hpk hpm)
                        have BL4 := Lib.hid (below_near HB2.out hn4 hwk hwm hsz2)
                        have BX4 := Lib.hid (BX2.out.near hn4 hck hcm)
                        have q2 := BX4.out.cell (i := 2) rfl
                        have h4s := BL4.out.size
                        clear hk4 hn4 g0 g1 g2 g3 g4 g5
                        try dsimp only
                        go_wp2_with (at_delete; refine wpList_del_plain rfl _ _ rfl rfl PP4.out hh k3 rfl (by rw [HL0.out]; rfl) ?_)
                        intro w5 hp5 hg5
                        have KK5 := Lib.hid (KK4.out.other hg5 hpk hpm PP4.out.noCells)
                        have BL5 := Lib.hid (below_grown BL4.out hg5 hpw h4s)
                        have PP5 := Lib.hid hp5
                        clear hp5 hg5 q2
                        go_wp2_with fail
                        go_meet
                        case rel => exact ⟨rfl, ⟨last, sz - 1, _, _, X, KK5.out, PP5.out, XX.out.drop, by omega, hpk, hpm⟩, BL5.out⟩
                      · have C4 := Lib.hid (kDrop_none hh _ KK2.out k3 hin)
                        clear hin
                        go_wp2_with fail
                        refine C4.out.mono ?_
                        rintro e w4 ⟨rfl, hb5⟩
                        have KK4 := Lib.hid (KK2.out.below hb5)
                        have PP4 := Lib.hid (PP2.out.below hb5)
                        have BL4 := Lib.hid (below_trans HB2.out hb5 hsz2)
                        clear hb5 g0 g1 g2 g3 g4 g5
                        try dsimp only
                        go_wp2_with fail
                        go_meet
                        case rel => exact ⟨rfl, ⟨last, sz, S, _, X, KK4.out, PP4.out, XX.out, by omega, hpk, hpm⟩, BL4.out⟩
                    · have hb5 : (kind == 5) = false := by rw [beq_eq_false_iff_ne]; exact e5
                      clear e5
                      go_wp2_with fail
                      go_meet
                      case rel => exact ⟨rfl, ⟨last, sz, S, V, X, KK2.out, PP2.out, XX.out, by omega, hpk, hpm⟩, HB2.out⟩
        case rest =>
          as_aux_lemma =>
          obtain ⟨rfl, ⟨last5, sz5, S5, V5, X5, hk5, hp5, hx5, hl5, _, _⟩, hb5⟩ := hcut
          clear KK2 PP2 HB2 HD2 BX2 g0 g1 g2 g3 g4 g5 FR XX hlast
          have K5 := Lib.hid hk5
          have P5 := Lib.hid hp5
          have X5' := Lib.hid hx5
          have B5 := Lib.hid hb5
          obtain ⟨D, hD, hD2, hD3, hD4⟩ := hp5
          have hz8 := hk5.sz8
          have OWN := Lib.hid hD
          have HAS := Lib.hid hD3
          have AT := Lib.hid hD4
          have b5s := hb5.size
          clear hk5 hx5 hb5 hD hD3 hD4 hD2
          go_wp2_with (first | (at_len; refine wpList_len_plain rfl _ rfl rfl P5.out ?_) | (at_range; refine wpList_range_own _ rfl _ 30 rfl 3 31 ilaw Try.underlying30 _ pb sz5 D rfl OWN.out ?_; intro w6 hrg6 hg6 hs6) | go_in)
          go_frame
          have B6 := Lib.hid (show Below wc.heap.size wc w6 from (Below.refl _ _).grown hg6 (Nat.le_refl _) (fun k h => by cases h))
          have RG := Lib.hid hrg6
          clear hg6 hrg6 hs6
          go_loopw [202] (fun _ wq => ∃ (left : Lit → Bool) (cnt : Nat), wq.ranges Try.prog 3 (plainElem Try.prog 31) pb wc.heap.size sz5 D left cnt ∧ (∀ kl, left kl = true → Maps.has D kl = true) ∧ Below wc.heap.size wc wq) (fun _ wq => wq.rangeLeft pb wc.heap.size)
          case atStart => exact ⟨_, _, RG.out, fun kl h => h, B6.out⟩
          case round =>
            obtain ⟨left, cnt, hrg, hlf, hbq⟩ := hrel
            have RQ := Lib.hid hrg
            have HLF := Lib.hid hlf
            have BQ := Lib.hid hbq
            have hbqs := hbq.size
            clear hrg hlf hbq RG B6
            go_wp2_with (first | (at_next; refine wpList_next_ranges_ii _ rfl _ rfl 3 31 .i64 .u64 ilaw Try.underlying3 Try.underlying31 pb wc.heap.size sz5 _ _ _ rfl RQ.out ?_ ?_) | go_in)
            · intro _ hl0
              go_wp2_with fail
              go_roundw
              case rel =>
                have HR := Lib.hid (show Both wr W1.heap.size kb mb pb N T (j + 1) ∧ Below w.heap.size w wr from ⟨⟨last5, sz5, S5, V5, X5, K5.out.below BQ.out, P5.out.below BQ.out, X5'.out, hl5, hpk, hpm⟩, below_trans B5.out BQ.out b5s⟩)
                first
                  | exact ⟨j + 1, by omega, by go_num, HR.out.1, HR.out.2⟩
                  | ((repeat apply Exists.intro); exact ⟨⟨j + 1, by omega, by go_num, HR.out.1, HR.out.2⟩, rfl⟩)
              case measure => simp [intOf] <;> omega
            · intro x c w7 cnt1 hwx hwc hlx hat hrg1 hlt1 hg1 hs1 hen
              have hx64 := I64.of_wf' hwx
              have hsx : (S5 x).isSome = true := by rw [← HAS.out x]; exact HLF.out _ hlx
              obtain ⟨l0, hl0⟩ := Option.isSome_iff_exists.1 hsx
              have B7 := Lib.hid (show Below wc.heap.size wc w7 from BQ.out.grown hg1 BQ.out.size (fun k h => by injection h with h; omega))
              have hc : c = ofF (X5 x) := by
                have := (AT.out x (.lit (.int .u64 0)) hsx).symm.trans (hat _)
                simp only [DataW.lit.injEq, Lit.int.injEq, true_and] at this
                exact this.symm
              subst hc
              have C7 := Lib.hid (kOpen_ok x l0 (X5 x) w7 (K5.out.below B7.out) hx64 hl0 (X5'.out _ _ hl0) hT (by omega) hN2)
              have RG1 := Lib.hid hrg1
              have HLX := Lib.hid hlx
              have HW7 := Lib.hid (show wr.heap.size ≤ w7.heap.size by omega)
              clear hat hrg1 hlx hg1 hs1 hl0 hsx hwx hwc
              go_wp2_with fail
              refine C7.out.mono ?_
              rintro e w8 ⟨rfl, hb8⟩
              have B8 := Lib.hid (below_trans B7.out hb8 B7.out.size)
              have RG8 := Lib.hid (RG1.out.kept (show w7.grownBy w8 none from ⟨hb8.os, hb8.tape, hb8.output, hb8.size, fun k hk _ => hb8.block k hk⟩) (fun e => by cases e) (fun e => by cases e))
              clear hb8
              try dsimp only
              go_wp2_with fail
              go_roundw
              case rel => exact ⟨_, cnt1, RG8.out, fun kl h => HLF.out kl (by rw [Bool.and_eq_true] at h; exact h.1), B8.out⟩
              case measure => rw [RG8.out.left_eq, RQ.out.left_eq]; exact hlt1
      · obtain rfl : j = l.length := by omega
        go_wp2_with fail
        exact HP.out _ BEL.out
end Go.Proofs.Ytbgfgkegcchaoaa
