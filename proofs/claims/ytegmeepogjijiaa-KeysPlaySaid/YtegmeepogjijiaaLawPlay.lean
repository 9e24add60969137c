/- The law KeysPlay, walked. -/
import Derived.Test.YtegmeepogjijiaaRefK
import Derived.Deep.CutRange
import Derived.Deep.CutBlock
namespace Go.Proofs.Ytegmeepogjijiaa
open Go.RowKit Go.Maps Croft

set_option maxRecDepth 100000 in
set_option maxHeartbeats 1000000 in
theorem keysPlay_bad (n t : Int) (vl : Value) (w : World) (h : ¬ (0 ≤ t ∧ t ≤ 4 ∧ 1 ≤ n ∧ n ≤ 9 ∧ 2 * t + 1 ≤ n)) :
    Calls Try.prog 6 #[.int .i64 n, .int .i64 t, vl] w fun e w' => e = .returned (.bool true) ∧ w = w' := by
  have C1 := Lib.hid (kNew_bad n t w h)
  by_cases h1 : 0 ≤ t ∧ t ≤ 4
  · have HT := Lib.hid (show decide (0 ≤ t ∧ t ≤ 4) = true by simpa using h1)
    by_cases h2 : 1 ≤ n ∧ n ≤ 9
    · have HN := Lib.hid (show decide (1 ≤ n ∧ n ≤ 9) = true by simpa using h2)
      have d5 : decide (n ≥ 2 * t + 1) = false := by simp; omega
      go_enter Try.func6, Try.ntmps6
      go_wp2_with fail
      refine C1.out.mono ?_
      rintro e w' ⟨rfl, rfl⟩
      try dsimp only
      go_wp2_with fail
      refine (rIn_any t 0 4 _).mono ?_
      rintro e w' ⟨rfl, rfl⟩
      rw [HT.out]
      try dsimp only
      go_wp2_with fail
      refine (rIn_any n 1 9 _).mono ?_
      rintro e w' ⟨rfl, rfl⟩
      rw [HN.out]
      try dsimp only
      go_wp2_with fail
      go_ret
      exact ⟨rfl, rfl⟩
    · have HN := Lib.hid (show decide (1 ≤ n ∧ n ≤ 9) = false by simpa using h2)
      go_enter Try.func6, Try.ntmps6
      go_wp2_with fail
      refine C1.out.mono ?_
      rintro e w' ⟨rfl, rfl⟩
      try dsimp only
      go_wp2_with fail
      refine (rIn_any t 0 4 _).mono ?_
      rintro e w' ⟨rfl, rfl⟩
      rw [HT.out]
      try dsimp only
      go_wp2_with fail
      refine (rIn_any n 1 9 _).mono ?_
      rintro e w' ⟨rfl, rfl⟩
      rw [HN.out]
      try dsimp only
      go_wp2_with fail
      go_ret
      exact ⟨rfl, rfl⟩
  · have HT := Lib.hid (show decide (0 ≤ t ∧ t ≤ 4) = false by simpa using h1)
    go_enter Try.func6, Try.ntmps6
    go_wp2_with fail
    refine C1.out.mono ?_
    rintro e w' ⟨rfl, rfl⟩
    try dsimp only
    go_wp2_with fail
    refine (rIn_any t 0 4 _).mono ?_
    rintro e w' ⟨rfl, rfl⟩
    rw [HT.out]
    try dsimp only
    go_wp2_with fail
    go_ret
    exact ⟨rfl, rfl⟩
theorem kRefresh_ok' (h : Int) (vd : Value) (ds l0 : List Int) (w : World) {base kb mb n t last sz : Nat} {S : Int → Option (List Int)} {V : Int → Value} (hk : KeysIs w base kb mb n t last sz S V) (hi : I64 h) (hs : S h = some l0) (hd : IsNums w vd ds) (hdl : ds.length = n * t) (ht : t ≤ 4) (htn : t + 1 ≤ n) (hn9 : n ≤ 9) :
    Calls Try.prog 18 #[.pointer (some ⟨kb, 0, none⟩), .int .i64 h, vd] w fun e w' => e = .returned (.int .i64 0) ∧ (∃ V', KeysIs w' base kb mb n t last sz (upd S h (some (ofFs (List.zipWith (· + ·) (toFs l0) (sumD n (refP t ds) n))))) V') ∧ Near kb mb w w' := kRefresh_ok h vd ds l0 w hk hi hs hd hdl ht htn hn9
theorem sRefresh_ok' (h : Int) (vd : Value) (ds l0 : List Int) (w : World) {base kb mb n t last sz : Nat} {S : Int → Option (List Int)} {V : Int → Value} (hk : RefIs w base kb mb n t last sz S V) (hi : I64 h) (hs : S h = some l0) (hd : IsNums w vd ds) (hdl : ds.length = n * t) (ht : t ≤ 4) (hn9 : n ≤ 9) :
    Calls Try.prog 44 #[.pointer (some ⟨kb, 0, none⟩), .int .i64 h, vd] w fun e w' => e = .returned (.int .i64 0) ∧ (∃ V', RefIs w' base kb mb n t last sz (upd S h (some (ofFs (List.zipWith (· + ·) (toFs l0) (sumD n (refP t ds) n))))) V') ∧ Near kb mb w w' := sRefresh_ok h vd ds l0 w hk hi hs hd hdl ht hn9
theorem kDrop_ok' (h : Int) (l0 : List Int) (w : World) {base kb mb n t last sz : Nat} {S : Int → Option (List Int)} {V : Int → Value} (hk : KeysIs w base kb mb n t last sz S V) (hi : I64 h) (hs : S h = some l0) :
    Calls Try.prog 21 #[.pointer (some ⟨kb, 0, none⟩), .int .i64 h] w fun e w' => e = .returned (.int .i64 0) ∧ (∃ V', KeysIs w' base kb mb n t last (sz - 1) (upd S h none) V') ∧ Near kb mb w w' :=
  (kDrop_ok h l0 w hk hi hs).mono fun _ _ h => ⟨h.1, ⟨_, h.2.1⟩, h.2.2⟩
theorem sDrop_ok' (h : Int) (l0 : List Int) (w : World) {base kb mb n t last sz : Nat} {S : Int → Option (List Int)} {V : Int → Value} (hk : RefIs w base kb mb n t last sz S V) (hi : I64 h) (hs : S h = some l0) :
    Calls Try.prog 47 #[.pointer (some ⟨kb, 0, none⟩), .int .i64 h] w fun e w' => e = .returned (.int .i64 0) ∧ (∃ V', RefIs w' base kb mb n t last (sz - 1) (upd S h none) V') ∧ Near kb mb w w' :=
  (sDrop_ok h l0 w hk hi hs).mono fun _ _ h => ⟨h.1, ⟨_, h.2.1⟩, h.2.2⟩
theorem sTweak_ok (h x : Int) (l0 : List Int) (w : World) {base kb mb n t last sz : Nat} {S : Int → Option (List Int)} {V : Int → Value} (hk : RefIs w base kb mb n t last sz S V) (hi : I64 h) (hs : S h = some l0) (hx : U64 x) (hlast : last < 1000000) :
    Calls Try.prog 45 #[.pointer (some ⟨kb, 0, none⟩), .int .i64 h, .int .i64 h, .int .u64 1, .int .u64 0, .int .u64 x] w fun e w' => NewRef w base kb mb n t last sz S (l0.map fun y => ofF (toF y + toF x)) e w' := by
  have := sCombine_ok h h 1 0 x l0 l0 w hk hi hi hs hs ⟨by omega, by omega⟩ ⟨by omega, by omega⟩ hx hlast
  rwa [mixed_tweak] at this
theorem sCombine_ok' (g h x y : Int) (l0 l1 : List Int) (w : World) {base kb mb n t last sz : Nat} {S : Int → Option (List Int)} {V : Int → Value} (hk : RefIs w base kb mb n t last sz S V) (hi : I64 g) (hj : I64 h) (hs : S g = some l0) (ht0 : S h = some l1) (hx : U64 x) (hy : U64 y) (hlast : last < 1000000) :
    Calls Try.prog 45 #[.pointer (some ⟨kb, 0, none⟩), .int .i64 g, .int .i64 h, .int .u64 x, .int .u64 y, .int .u64 0] w fun e w' => NewRef w base kb mb n t last sz S (zipS (· + ·) (l0.map fun z => ofF (toF z * toF x)) (l1.map fun z => ofF (toF z * toF y))) e w' := by
  have := sCombine_ok g h x y 0 l0 l1 w hk hi hj hs ht0 hx hy ⟨by omega, by omega⟩ hlast
  rwa [mixed_combine] at this
set_option maxRecDepth 100000 in
set_option maxHeartbeats 4000000 in
theorem keysPlay_ok (N T : Nat) (vl : Value) (l : List (Cl × Value)) (w : World) (h1 : IsCalls w vl l) (hT : T ≤ 4) (hN1 : 2 * T + 1 ≤ N) (hN2 : N ≤ 9) :
    Calls Try.prog 6 #[.int .i64 N, .int .i64 T, vl] w fun e w' => e = .returned (.bool true) ∧ Below w.heap.size w w' := by
  have KL := Lib.hid h1
  obtain ⟨A1, c1, rfl, hc1, hm1, hl1, hu1, hr1⟩ := h1
  have HCW := Lib.hid hu1
  clear hu1 hr1 hm1
  suffices hgoal : ∀ Post : Ending → World → Prop, (∀ w', Below w.heap.size w w' → Post (.returned (.bool true)) w') → Calls Try.prog 6 #[.int .i64 N, .int .i64 T, .slice A1 l.length c1] w Post from hgoal _ fun w' h => ⟨rfl, h⟩
  intro Post hpo
  have HP := Lib.hid hpo
  clear hpo
  have HT := Lib.hid (show decide ((0 : Int) ≤ (T : Int) ∧ (T : Int) ≤ 4) = true by simp; omega)
  have HN := Lib.hid (show decide ((1 : Int) ≤ (N : Int) ∧ (N : Int) ≤ 9) = true by simp; omega)
  have d5 : decide ((N : Int) ≥ 2 * (T : Int) + 1) = true := by simp; omega
  go_enter Try.func6, Try.ntmps6
  go_wp2_with fail
  refine (kNew_ok N T _ hT (by omega) hN2 hN1).mono ?_
  rintro e W1 ⟨kb, mb, V0, rfl, hk1, hb1⟩
  have K1 := Lib.hid hk1
  have B1 := Lib.hid hb1
  clear hk1 hb1
  try dsimp only
  go_wp2_with fail
  refine (rIn_any T 0 4 _).mono ?_
  rintro e w' ⟨rfl, rfl⟩
  rw [HT.out]
  try dsimp only
  go_wp2_with fail
  refine (rIn_any N 1 9 _).mono ?_
  rintro e w' ⟨rfl, rfl⟩
  rw [HN.out]
  try dsimp only
  by_cases h60 : (l.length : Int) > 60
  · go_wp2_with fail
    exact HP.out _ B1.out
  · have hd60 : decide ((l.length : Int) > 60) = false := by simpa using h60
    go_wp2_with fail
    refine (sNew_ok N T _).mono ?_
    rintro e W2 ⟨rb, rm, V1, rfl, hr2, hb2⟩
    have T2 := Lib.hid (show Two W2 w.heap.size W1.heap.size kb mb rb rm N T 0 0 (fun _ => none) (fun _ => 0) from
      ⟨⟨_, K1.out.below hb2⟩, ⟨_, hr2⟩, fun z zs h => by (cases h), fun e => by have := K1.out.store.lt; have := hr2.store.le; omega⟩)
    have B2 := Lib.hid (below_trans B1.out hb2 B1.out.size)
    have BS := Lib.hid B1.out.size
    clear hr2 hb2 K1 B1
    try dsimp only
    go_wp2_with fail
    go_loopw [67] (fun i wr => ∃ j : Nat, j ≤ l.length ∧ i = .int .i64 j ∧ (∃ last sz S X, Two wr w.heap.size W1.heap.size kb mb rb rm N T last sz S X ∧ last ≤ j) ∧ Below w.heap.size w wr) (fun i _ => l.length - (intOf i).toNat)
    case atStart => exact ⟨0, Nat.zero_le _, rfl, ⟨0, 0, _, _, T2.out, Nat.le_refl _⟩, B2.out⟩
    case round =>
      obtain ⟨j, hj, rfl, ⟨last, sz, S, X, htwo, hlast⟩, hbel⟩ := hrel
      clear T2 B2
      have TT := Lib.hid htwo
      have BEL := Lib.hid hbel
      have hsz := hbel.size
      clear htwo hbel
      by_cases hlt : j < l.length
      · obtain ⟨A, c, hA, _, _, _, hu, hr⟩ := KL.out.below BEL.out
        injection hA with hA1 hA2 hA3
        subst hA1 hA3
        clear hA2
        obtain ⟨b1, o1, C, u, rfl, hb1, hgk, hok, hc0, hc1', hc2, hc3, hc4, hc5⟩ := call_at hr hu hlt
        obtain ⟨kind, gg, hh, aa, bb, draws⟩ := C
        obtain ⟨k1, k2, k3, k4, k5, k6⟩ := hok
        dsimp only at k1 k2 k3 k4 k5 k6 hc0 hc1' hc2 hc3 hc4 hc5
        have HD := Lib.hid (show IsNums w u draws from (HCW.out _ (List.mem_of_getElem? hgk)).2.2.2.2.2)
        clear hr hu hgk
        obtain ⟨Ad, cd, rfl, _, _, _, _, _⟩ := k6
        have HB2 := Lib.hid (BEL.out.alloc hsz (.cells #[.int .i64 kind, .int .i64 gg, .int .i64 hh, .int .u64 aa, .int .u64 bb, .slice Ad draws.length cd] 77))
        have HN2 := Lib.hid ((Below.refl wr.heap.size wr).alloc (Nat.le_refl _) (.cells #[.int .i64 kind, .int .i64 gg, .int .i64 hh, .int .u64 aa, .int .u64 bb, .slice Ad draws.length cd] 77))
        have TT2 := Lib.hid (TT.out.below HN2.out)
        have BX2 := Lib.hid (Box.new wr 77 [.int .i64 kind, .int .i64 gg, .int .i64 hh, .int .u64 aa, .int .u64 bb, .slice Ad draws.length cd])
        have hcks : wr.heap.size ≠ kb ∧ wr.heap.size ≠ mb ∧ wr.heap.size ≠ rb ∧ wr.heap.size ≠ rm := by
          obtain ⟨⟨V, hk⟩, ⟨V', hr⟩, _, _⟩ := TT.out
          have := hk.lt; have := hk.store.lt; have := hr.lt; have := hr.store.lt
          omega
        have hwk : w.heap.size ≤ kb ∧ w.heap.size ≤ mb ∧ w.heap.size ≤ rb ∧ w.heap.size ≤ rm := by
          obtain ⟨⟨V, hk⟩, ⟨V', hr⟩, _, _⟩ := TT.out
          have := hk.le; have := hk.store.le; have := hr.le; have := hr.store.le; have := BS.out
          omega
        have hsz2 := HB2.out.size
        go_upto_block 2 with fail
        obtain ⟨w2, hw2⟩ : ∃ w2, w2 = wr.alloc (.cells #[.int .i64 kind, .int .i64 gg, .int .i64 hh, .int .u64 aa, .int .u64 bb, .slice Ad draws.length cd] 77) := ⟨_, rfl⟩
        replace BX2 := Lib.hid (show Box w2 wr.heap.size 77 [.int .i64 kind, .int .i64 gg, .int .i64 hh, .int .u64 aa, .int .u64 bb, .slice Ad draws.length cd] by rw [hw2]; exact BX2.out)
        rw [← hw2] at HB2 TT2 hsz2 ⊢
        obtain ⟨cb, hcb⟩ : ∃ cb, cb = wr.heap.size := ⟨_, rfl⟩
        rw [← hcb] at BX2 hcks ⊢
        clear hw2 hcb HN2 TT BEL hsz hc0 hc1' hc2 hc3 hc4 hc5 hb1 KL
        have g0 := BX2.out.cell (i := 0) rfl
        have g1 := BX2.out.cell (i := 1) rfl
        have g2 := BX2.out.cell (i := 2) rfl
        have g3 := BX2.out.cell (i := 3) rfl
        have g4 := BX2.out.cell (i := 4) rfl
        have g5 := BX2.out.cell (i := 5) rfl
        go_cut [13, 14, 15, 16, 67] from 67 to 246 (fun h i e f jj wx => ∃ (z er : Int) (last' sz' : Nat) (S' : Int → Option (List Int)) (X' : Int → F), h = .int .i64 z ∧ i = .int .i64 z ∧ e = .int .i64 er ∧ f = .int .i64 er ∧ jj = .int .i64 j ∧ Two wx w.heap.size W1.heap.size kb mb rb rm N T last' sz' S' X' ∧ last' ≤ j + 1 ∧ Below w.heap.size w wx)
        case first =>
          by_cases e0 : kind = 0
          · as_aux_lemma =>
            subst e0
            obtain ⟨⟨V, hk⟩, ⟨V', hr⟩, hs, hm⟩ := id TT2.out
            have KK := Lib.hid hk
            have RR := Lib.hid hr
            have SS := Lib.hid hs
            have HD2 := Lib.hid (HD.out.below HB2.out)
            clear hk hr hs
            by_cases hl : draws.length = N * (T + 1)
            · have HL := Lib.hid hl
              clear hl
              have C4 := Lib.hid (kGen_new _ draws w2 KK.out HD2.out HL.out hT hN2 (by omega) (by omega))
              go_wp2_with fail
              refine C4.out.mono ?_
              intro e w3 h3
              obtain ⟨z, er, rfl⟩ := h3.form
              have H3 := Lib.hid h3
              have RR3 := Lib.hid (RR.out.nearK KK.out hm h3.near)
              have BX3 := Lib.hid (BX2.out.near h3.near hcks.1 hcks.2.1)
              have B3 := Lib.hid (below_near HB2.out h3.near hwk.1 hwk.2.1 hsz2)
              have C5 := Lib.hid (sGen_ok _ draws w3 RR3.out (HD.out.below B3.out) HL.out hT hN2 (by omega))
              clear g0 g1 g2 g3 g4 g5
              have q0 := BX3.out.cell (i := 0) rfl
              have q1 := BX3.out.cell (i := 1) rfl
              have q2 := BX3.out.cell (i := 2) rfl
              have q3 := BX3.out.cell (i := 3) rfl
              have q4 := BX3.out.cell (i := 4) rfl
              have q5 := BX3.out.cell (i := 5) rfl
              clear h3 C4
              try dsimp only
              go_wp2_with fail
              refine C5.out.mono ?_
              intro e w4 h4
              obtain ⟨rfl, last', sz', S', X', htw, hl'⟩ := pair_new KK.out RR.out hm SS.out (genP_shared draws) H3.out h4
              have B4 := Lib.hid (below_near B3.out h4.near hwk.2.2.1 hwk.2.2.2 B3.out.size)
              have T4 := Lib.hid htw
              clear h4 htw C5 H3
              clear q0 q1 q2 q3 q4 q5
              try dsimp only
              go_wp2_with fail
              go_meet
              case rel => exact ⟨z, er, last', sz', S', X', rfl, rfl, rfl, rfl, rfl, T4.out, by omega, B4.out⟩
            · have HL := Lib.hid hl
              clear hl
              have C4 := Lib.hid (kGen_bad _ draws w2 KK.out HD2.out HL.out hT hN2)
              go_wp2_with fail
              refine C4.out.mono ?_
              rintro e w3 ⟨rfl, hb3⟩
              have B3 := Lib.hid (below_trans HB2.out hb3 hsz2)
              have BX3 := Lib.hid (BX2.out.below hb3)
              have T3 := Lib.hid (TT2.out.below hb3)
              have RR3 := Lib.hid (RR.out.below hb3)
              have C5 := Lib.hid (sGen_bad _ draws w3 RR3.out (HD.out.below B3.out) HL.out hT hN2)
              clear g0 g1 g2 g3 g4 g5
              have q0 := BX3.out.cell (i := 0) rfl
              have q1 := BX3.out.cell (i := 1) rfl
              have q2 := BX3.out.cell (i := 2) rfl
              have q3 := BX3.out.cell (i := 3) rfl
              have q4 := BX3.out.cell (i := 4) rfl
              have q5 := BX3.out.cell (i := 5) rfl
              clear hb3 C4
              try dsimp only
              go_wp2_with fail
              refine C5.out.mono ?_
              rintro e w4 ⟨rfl, hb4⟩
              have B4 := Lib.hid (below_trans B3.out hb4 B3.out.size)
              have T4 := Lib.hid (T3.out.below hb4)
              clear hb4 C5
              clear q0 q1 q2 q3 q4 q5
              try dsimp only
              go_wp2_with fail
              go_meet
              case rel => exact ⟨0, 1, last, sz, S, X, rfl, rfl, rfl, rfl, rfl, T4.out, by omega, B4.out⟩
          · have HE0 := Lib.hid e0
            have hb0 : (kind == 0) = false := by rw [beq_eq_false_iff_ne]; exact e0
            clear e0
            by_cases e1 : kind = 1
            · as_aux_lemma =>
              subst e1
              obtain ⟨⟨V, hk⟩, ⟨V', hr⟩, hs, hm⟩ := id TT2.out
              have KK := Lib.hid hk
              have RR := Lib.hid hr
              have SS := Lib.hid hs
              have HD2 := Lib.hid (HD.out.below HB2.out)
              clear hk hr hs
              by_cases hin : (S hh).isSome = true
              · obtain ⟨l0, hl0⟩ := Option.isSome_iff_exists.1 hin
                have HL0 := Lib.hid hl0
                clear hin hl0
                by_cases hl : draws.length = N * T
                · have HL := Lib.hid hl
                  clear hl
                  have KQ := Lib.hid (KK.out.drewN 1)
                  have RQ := Lib.hid (RR.out.drewN 1)
                  have BQ := Lib.hid (below_drewN HB2.out 1)
                  have BXQ := Lib.hid (BX2.out.drewN 1)
                  have TQ := Lib.hid (TT2.out.below (below_drewN (Below.refl w2.heap.size w2) 1))
                  go_wp2_with fail
                  go_region_held3 (fun w' => w'.cell? ⟨cb, 2, none⟩ = some (.int .i64 hh) ∧ w'.cell? ⟨cb, 5, none⟩ = some (.slice Ad draws.length cd)) (go_keep) (first | (go_at_call 18; refine (kRefresh_ok' hh _ draws l0 _ KQ.out k3 HL0.out (HD.out.below BQ.out) HL.out hT (by omega) hN2).mono ?_; rintro e w3 ⟨rfl, hk3, hn3⟩; have K3 := Lib.hid hk3; have N3 := Lib.hid hn3; have B3 := Lib.hid (below_near BQ.out hn3 hwk.1 hwk.2.1 BQ.out.size); have R3 := Lib.hid (RQ.out.nearK KQ.out hm hn3); have BX3 := Lib.hid (BXQ.out.near hn3 hcks.1 hcks.2.1); have bx32 := BX3.out.cell (i := 2) rfl; have bx35 := BX3.out.cell (i := 5) rfl; clear hk3 hn3) | (go_at_call 44; refine (sRefresh_ok' hh _ draws l0 _ RQ.out k3 HL0.out (HD.out.below BQ.out) HL.out hT hN2).mono ?_; rintro e w3 ⟨rfl, hr3, hn3⟩; have R3 := Lib.hid hr3; have N3 := Lib.hid hn3; have B3 := Lib.hid (below_near BQ.out hn3 hwk.2.2.1 hwk.2.2.2 BQ.out.size); have K3 := Lib.hid (KQ.out.nearR RQ.out hm hn3); have BX3 := Lib.hid (BXQ.out.near hn3 hcks.2.2.1 hcks.2.2.2); have bx32 := BX3.out.cell (i := 2) rfl; have bx35 := BX3.out.cell (i := 5) rfl; clear hr3 hn3) | (go_at_call 44; refine (sRefresh_ok' hh _ draws l0 _ R3.out k3 HL0.out (HD.out.below B3.out) HL.out hT hN2).mono ?_; rintro e w4 ⟨rfl, hr4, hn4⟩; have BF := Lib.hid (below_near B3.out hn4 hwk.2.2.1 hwk.2.2.2 B3.out.size); have RF := Lib.hid hr4; have KF := Lib.hid (by obtain ⟨V3, hk3⟩ := K3.out; exact (⟨V3, hk3.nearR R3.out hm hn4⟩ : ∃ V3, _)); have BX4 := Lib.hid (BX3.out.near hn4 hcks.2.2.1 hcks.2.2.2); have bx42 := BX4.out.cell (i := 2) rfl; have bx45 := BX4.out.cell (i := 5) rfl; clear hr4 hn4) | (go_at_call 18; refine (kRefresh_ok' hh _ draws l0 _ K3.out k3 HL0.out (HD.out.below B3.out) HL.out hT (by omega) hN2).mono ?_; rintro e w4 ⟨rfl, hk4, hn4⟩; have BF := Lib.hid (below_near B3.out hn4 hwk.1 hwk.2.1 B3.out.size); have KF := Lib.hid hk4; have RF := Lib.hid (by obtain ⟨V3, hr3⟩ := R3.out; exact (⟨V3, hr3.nearK K3.out hm hn4⟩ : ∃ V3, _)); have BX4 := Lib.hid (BX3.out.near hn4 hcks.1 hcks.2.1); have bx42 := BX4.out.cell (i := 2) rfl; have bx45 := BX4.out.cell (i := 5) rfl; clear hk4 hn4))
                  all_goals (
                    clear g0 g1 g2 g3 g4 g5
                    try dsimp only
                    go_wp2_with fail
                    go_meet
                    case rel => exact ⟨0, 0, last, sz, _, X, rfl, rfl, rfl, rfl, rfl, ⟨KF.out, RF.out, SS.out.turn (refP_shared draws l0 (SS.out _ _ HL0.out)), hm⟩, by omega, BF.out⟩)
                · have HL := Lib.hid hl
                  clear hl
                  have KQ := Lib.hid (KK.out.drewN 1)
                  have RQ := Lib.hid (RR.out.drewN 1)
                  have BQ := Lib.hid (below_drewN HB2.out 1)
                  have BXQ := Lib.hid (BX2.out.drewN 1)
                  have TQ := Lib.hid (TT2.out.below (below_drewN (Below.refl w2.heap.size w2) 1))
                  go_wp2_with fail
                  go_region_held3 (fun w' => w'.cell? ⟨cb, 2, none⟩ = some (.int .i64 hh) ∧ w'.cell? ⟨cb, 5, none⟩ = some (.slice Ad draws.length cd)) (go_keep) (first | (go_at_call 18; refine (kRefresh_bad hh _ draws l0 _ KQ.out k3 HL0.out (HD.out.below BQ.out) HL.out hT hN2).mono ?_; rintro e w3 ⟨rfl, hb3⟩; have K3 := Lib.hid (KQ.out.below hb3); have R3 := Lib.hid (RQ.out.below hb3); have T3 := Lib.hid (TQ.out.below hb3); have B3 := Lib.hid (below_trans BQ.out hb3 BQ.out.size); have BX3 := Lib.hid (BXQ.out.below hb3); have bx32 := BX3.out.cell (i := 2) rfl; have bx35 := BX3.out.cell (i := 5) rfl; clear hb3) | (go_at_call 44; refine (sRefresh_bad hh _ draws l0 _ RQ.out k3 HL0.out (HD.out.below BQ.out) HL.out hT hN2).mono ?_; rintro e w3 ⟨rfl, hb3⟩; have K3 := Lib.hid (KQ.out.below hb3); have R3 := Lib.hid (RQ.out.below hb3); have T3 := Lib.hid (TQ.out.below hb3); have B3 := Lib.hid (below_trans BQ.out hb3 BQ.out.size); have BX3 := Lib.hid (BXQ.out.below hb3); have bx32 := BX3.out.cell (i := 2) rfl; have bx35 := BX3.out.cell (i := 5) rfl; clear hb3) | (go_at_call 44; refine (sRefresh_bad hh _ draws l0 _ R3.out k3 HL0.out (HD.out.below B3.out) HL.out hT hN2).mono ?_; rintro e w4 ⟨rfl, hb4⟩; have TF := Lib.hid (T3.out.below hb4); have BF := Lib.hid (below_trans B3.out hb4 B3.out.size); have BX4 := Lib.hid (BX3.out.below hb4); have bx42 := BX4.out.cell (i := 2) rfl; have bx45 := BX4.out.cell (i := 5) rfl; clear hb4) | (go_at_call 18; refine (kRefresh_bad hh _ draws l0 _ K3.out k3 HL0.out (HD.out.below B3.out) HL.out hT hN2).mono ?_; rintro e w4 ⟨rfl, hb4⟩; have TF := Lib.hid (T3.out.below hb4); have BF := Lib.hid (below_trans B3.out hb4 B3.out.size); have BX4 := Lib.hid (BX3.out.below hb4); have bx42 := BX4.out.cell (i := 2) rfl; have bx45 := BX4.out.cell (i := 5) rfl; clear hb4))
                  all_goals (
                    clear g0 g1 g2 g3 g4 g5
                    try dsimp only
                    go_wp2_with fail
                    go_meet
                    case rel => exact ⟨0, 1, last, sz, S, X, rfl, rfl, rfl, rfl, rfl, TF.out, by omega, BF.out⟩)
              · have HIN := Lib.hid hin
                clear hin
                have KQ := Lib.hid (KK.out.drewN 1)
                have RQ := Lib.hid (RR.out.drewN 1)
                have BQ := Lib.hid (below_drewN HB2.out 1)
                have BXQ := Lib.hid (BX2.out.drewN 1)
                have TQ := Lib.hid (TT2.out.below (below_drewN (Below.refl w2.heap.size w2) 1))
                go_wp2_with fail
                go_region_held3 (fun w' => w'.cell? ⟨cb, 2, none⟩ = some (.int .i64 hh) ∧ w'.cell? ⟨cb, 5, none⟩ = some (.slice Ad draws.length cd)) (go_keep) (first | (go_at_call 18; refine (kRefresh_none hh _ _ _ _ KQ.out k3 HIN.out).mono ?_; rintro e w3 ⟨rfl, hb3⟩; have K3 := Lib.hid (KQ.out.below hb3); have R3 := Lib.hid (RQ.out.below hb3); have T3 := Lib.hid (TQ.out.below hb3); have B3 := Lib.hid (below_trans BQ.out hb3 BQ.out.size); have BX3 := Lib.hid (BXQ.out.below hb3); have bx32 := BX3.out.cell (i := 2) rfl; have bx35 := BX3.out.cell (i := 5) rfl; clear hb3) | (go_at_call 44; refine (sRefresh_none hh _ _ RQ.out k3 HIN.out).mono ?_; rintro e w3 ⟨rfl, hb3⟩; have K3 := Lib.hid (KQ.out.below hb3); have R3 := Lib.hid (RQ.out.below hb3); have T3 := Lib.hid (TQ.out.below hb3); have B3 := Lib.hid (below_trans BQ.out hb3 BQ.out.size); have BX3 := Lib.hid (BXQ.out.below hb3); have bx32 := BX3.out.cell (i := 2) rfl; have bx35 := BX3.out.cell (i := 5) rfl; clear hb3) | (go_at_call 44; refine (sRefresh_none hh _ _ R3.out k3 HIN.out).mono ?_; rintro e w4 ⟨rfl, hb4⟩; have TF := Lib.hid (T3.out.below hb4); have BF := Lib.hid (below_trans B3.out hb4 B3.out.size); have BX4 := Lib.hid (BX3.out.below hb4); have bx42 := BX4.out.cell (i := 2) rfl; have bx45 := BX4.out.cell (i := 5) rfl; clear hb4) | (go_at_call 18; refine (kRefresh_none hh _ _ _ _ K3.out k3 HIN.out).mono ?_; rintro e w4 ⟨rfl, hb4⟩; have TF := Lib.hid (T3.out.below hb4); have BF := Lib.hid (below_trans B3.out hb4 B3.out.size); have BX4 := Lib.hid (BX3.out.below hb4); have bx42 := BX4.out.cell (i := 2) rfl; have bx45 := BX4.out.cell (i := 5) rfl; clear hb4))
                all_goals (
                  clear g0 g1 g2 g3 g4 g5
                  try dsimp only
                  go_wp2_with fail
                  go_meet
                  case rel => exact ⟨0, 4, last, sz, S, X, rfl, rfl, rfl, rfl, rfl, TF.out, by omega, BF.out⟩)
            · have HE1 := Lib.hid e1
              have hb1 : (kind == 1) = false := by rw [beq_eq_false_iff_ne]; exact e1
              clear e1
              by_cases e2 : kind = 2
              · as_aux_lemma =>
                subst e2
                obtain ⟨⟨V, hk⟩, ⟨V', hr⟩, hs, hm⟩ := id TT2.out
                have KK := Lib.hid hk
                have RR := Lib.hid hr
                have SS := Lib.hid hs
                have HD2 := Lib.hid (HD.out.below HB2.out)
                clear hk hr hs
                by_cases hin : (S hh).isSome = true
                · obtain ⟨l0, hl0⟩ := Option.isSome_iff_exists.1 hin
                  have HL0 := Lib.hid hl0
                  clear hin hl0
                  have C4 := Lib.hid (kTweak_ok hh aa l0 w2 KK.out k3 HL0.out k4 (by omega) hN2 (by omega))
                  go_wp2_with fail
                  refine C4.out.mono ?_
                  intro e w3 h3
                  obtain ⟨z, er, rfl⟩ := h3.form
                  have H3 := Lib.hid h3
                  have RR3 := Lib.hid (RR.out.nearK KK.out hm h3.near)
                  have BX3 := Lib.hid (BX2.out.near h3.near hcks.1 hcks.2.1)
                  have B3 := Lib.hid (below_near HB2.out h3.near hwk.1 hwk.2.1 hsz2)
                  have C5 := Lib.hid (sTweak_ok hh aa l0 w3 RR3.out k3 HL0.out k4 (by omega))
                  clear g0 g1 g2 g3 g4 g5
                  have q0 := BX3.out.cell (i := 0) rfl
                  have q1 := BX3.out.cell (i := 1) rfl
                  have q2 := BX3.out.cell (i := 2) rfl
                  have q3 := BX3.out.cell (i := 3) rfl
                  have q4 := BX3.out.cell (i := 4) rfl
                  have q5 := BX3.out.cell (i := 5) rfl
                  clear h3 C4
                  try dsimp only
                  go_wp2_with fail
                  refine C5.out.mono ?_
                  intro e w4 h4
                  obtain ⟨rfl, last', sz', S', X', htw, hl'⟩ := pair_new KK.out RR.out hm SS.out (tweak_shared l0 _ (SS.out _ _ HL0.out)) H3.out h4
                  have B4 := Lib.hid (below_near B3.out h4.near hwk.2.2.1 hwk.2.2.2 B3.out.size)
                  have T4 := Lib.hid htw
                  clear h4 htw C5 H3
                  clear q0 q1 q2 q3 q4 q5
                  try dsimp only
                  go_wp2_with fail
                  go_meet
                  case rel => exact ⟨z, er, last', sz', S', X', rfl, rfl, rfl, rfl, rfl, T4.out, by omega, B4.out⟩
                · have HIN := Lib.hid hin
                  clear hin
                  have C4 := Lib.hid (kTweak_none hh aa w2 KK.out k3 HIN.out)
                  go_wp2_with fail
                  refine C4.out.mono ?_
                  rintro e w3 ⟨rfl, hb3⟩
                  have B3 := Lib.hid (below_trans HB2.out hb3 hsz2)
                  have BX3 := Lib.hid (BX2.out.below hb3)
                  have T3 := Lib.hid (TT2.out.below hb3)
                  have RR3 := Lib.hid (RR.out.below hb3)
                  have C5 := Lib.hid (sCombine_none hh hh 1 0 aa w3 RR3.out k3 k3 (fun h => HIN.out h.1))
                  clear g0 g1 g2 g3 g4 g5
                  have q0 := BX3.out.cell (i := 0) rfl
                  have q1 := BX3.out.cell (i := 1) rfl
                  have q2 := BX3.out.cell (i := 2) rfl
                  have q3 := BX3.out.cell (i := 3) rfl
                  have q4 := BX3.out.cell (i := 4) rfl
                  have q5 := BX3.out.cell (i := 5) rfl
                  clear hb3 C4
                  try dsimp only
                  go_wp2_with fail
                  refine C5.out.mono ?_
                  rintro e w4 ⟨rfl, hb4⟩
                  have B4 := Lib.hid (below_trans B3.out hb4 B3.out.size)
                  have T4 := Lib.hid (T3.out.below hb4)
                  clear hb4 C5
                  clear q0 q1 q2 q3 q4 q5
                  try dsimp only
                  go_wp2_with fail
                  go_meet
                  case rel => exact ⟨0, 4, last, sz, S, X, rfl, rfl, rfl, rfl, rfl, T4.out, by omega, B4.out⟩
              · have HE2 := Lib.hid e2
                have hb2 : (kind == 2) = false := by rw [beq_eq_false_iff_ne]; exact e2
                clear e2
                by_cases e3 : kind = 3
                · as_aux_lemma =>
                  subst e3
                  obtain ⟨⟨V, hk⟩, ⟨V', hr⟩, hs, hm⟩ := id TT2.out
                  have KK := Lib.hid hk
                  have RR := Lib.hid hr
                  have SS := Lib.hid hs
                  have HD2 := Lib.hid (HD.out.below HB2.out)
                  clear hk hr hs
                  by_cases hin : (S gg).isSome = true ∧ (S hh).isSome = true
                  · obtain ⟨l0, hl0⟩ := Option.isSome_iff_exists.1 hin.1
                    obtain ⟨l1, hl1⟩ := Option.isSome_iff_exists.1 hin.2
                    have HL0 := Lib.hid hl0
                    have HL1 := Lib.hid hl1
                    clear hin hl0 hl1
                    have C4 := Lib.hid (kCombine_ok gg hh aa bb l0 l1 w2 KK.out k2 k3 HL0.out HL1.out k4 k5 (by omega) hN2 (by omega))
                    go_wp2_with fail
                    refine C4.out.mono ?_
                    intro e w3 h3
                    obtain ⟨z, er, rfl⟩ := h3.form
                    have H3 := Lib.hid h3
                    have RR3 := Lib.hid (RR.out.nearK KK.out hm h3.near)
                    have BX3 := Lib.hid (BX2.out.near h3.near hcks.1 hcks.2.1)
                    have B3 := Lib.hid (below_near HB2.out h3.near hwk.1 hwk.2.1 hsz2)
                    have C5 := Lib.hid (sCombine_ok' gg hh aa bb l0 l1 w3 RR3.out k2 k3 HL0.out HL1.out k4 k5 (by omega))
                    clear g0 g1 g2 g3 g4 g5
                    have q0 := BX3.out.cell (i := 0) rfl
                    have q1 := BX3.out.cell (i := 1) rfl
                    have q2 := BX3.out.cell (i := 2) rfl
                    have q3 := BX3.out.cell (i := 3) rfl
                    have q4 := BX3.out.cell (i := 4) rfl
                    have q5 := BX3.out.cell (i := 5) rfl
                    clear h3 C4
                    try dsimp only
                    go_wp2_with fail
                    refine C5.out.mono ?_
                    intro e w4 h4
                    obtain ⟨rfl, last', sz', S', X', htw, hl'⟩ := pair_new KK.out RR.out hm SS.out (combine_shared l0 l1 _ _ (SS.out _ _ HL0.out) (SS.out _ _ HL1.out)) H3.out h4
                    have B4 := Lib.hid (below_near B3.out h4.near hwk.2.2.1 hwk.2.2.2 B3.out.size)
                    have T4 := Lib.hid htw
                    clear h4 htw C5 H3
                    clear q0 q1 q2 q3 q4 q5
                    try dsimp only
                    go_wp2_with fail
                    go_meet
                    case rel => exact ⟨z, er, last', sz', S', X', rfl, rfl, rfl, rfl, rfl, T4.out, by omega, B4.out⟩
                  · have HIN := Lib.hid hin
                    clear hin
                    have C4 := Lib.hid (kCombine_none gg hh aa bb w2 KK.out k2 k3 HIN.out)
                    go_wp2_with fail
                    refine C4.out.mono ?_
                    rintro e w3 ⟨rfl, hb3⟩
                    have B3 := Lib.hid (below_trans HB2.out hb3 hsz2)
                    have BX3 := Lib.hid (BX2.out.below hb3)
                    have T3 := Lib.hid (TT2.out.below hb3)
                    have RR3 := Lib.hid (RR.out.below hb3)
                    have C5 := Lib.hid (sCombine_none gg hh aa bb 0 w3 RR3.out k2 k3 HIN.out)
                    clear g0 g1 g2 g3 g4 g5
                    have q0 := BX3.out.cell (i := 0) rfl
                    have q1 := BX3.out.cell (i := 1) rfl
                    have q2 := BX3.out.cell (i := 2) rfl
                    have q3 := BX3.out.cell (i := 3) rfl
                    have q4 := BX3.out.cell (i := 4) rfl
                    have q5 := BX3.out.cell (i := 5) rfl
                    clear hb3 C4
                    try dsimp only
                    go_wp2_with fail
                    refine C5.out.mono ?_
                    rintro e w4 ⟨rfl, hb4⟩
                    have B4 := Lib.hid (below_trans B3.out hb4 B3.out.size)
                    have T4 := Lib.hid (T3.out.below hb4)
                    clear hb4 C5
                    clear q0 q1 q2 q3 q4 q5
                    try dsimp only
                    go_wp2_with fail
                    go_meet
                    case rel => exact ⟨0, 4, last, sz, S, X, rfl, rfl, rfl, rfl, rfl, T4.out, by omega, B4.out⟩
                · have HE3 := Lib.hid e3
                  have hb3 : (kind == 3) = false := by rw [beq_eq_false_iff_ne]; exact e3
                  clear e3
                  by_cases e4 : kind = 4
                  · as_aux_lemma =>
                    subst e4
                    obtain ⟨⟨V, hk⟩, ⟨V', hr⟩, hs, hm⟩ := id TT2.out
                    have KK := Lib.hid hk
                    have RR := Lib.hid hr
                    have SS := Lib.hid hs
                    have HD2 := Lib.hid (HD.out.below HB2.out)
                    clear hk hr hs
                    by_cases hin : (S gg).isSome = true ∧ (S hh).isSome = true
                    · obtain ⟨l0, hl0⟩ := Option.isSome_iff_exists.1 hin.1
                      obtain ⟨l1, hl1⟩ := Option.isSome_iff_exists.1 hin.2
                      have HL0 := Lib.hid hl0
                      have HL1 := Lib.hid hl1
                      clear hin hl0 hl1
                      by_cases hl : draws.length = N * T
                      · have HL := Lib.hid hl
                        clear hl
                        have C4 := Lib.hid (kMultiply_ok gg hh _ draws l0 l1 w2 KK.out k2 k3 HL0.out HL1.out HD2.out HL.out hT hN1 hN2 (by omega))
                        go_wp2_with fail
                        refine C4.out.mono ?_
                        intro e w3 h3
                        obtain ⟨z, er, rfl⟩ := h3.form
                        have H3 := Lib.hid h3
                        have RR3 := Lib.hid (RR.out.nearK KK.out hm h3.near)
                        have BX3 := Lib.hid (BX2.out.near h3.near hcks.1 hcks.2.1)
                        have B3 := Lib.hid (below_near HB2.out h3.near hwk.1 hwk.2.1 hsz2)
                        have C5 := Lib.hid (sMultiply_ok gg hh _ draws l0 l1 w3 RR3.out k2 k3 HL0.out HL1.out (HD.out.below B3.out) HL.out hT (by omega) hN2 (by omega))
                        clear g0 g1 g2 g3 g4 g5
                        have q0 := BX3.out.cell (i := 0) rfl
                        have q1 := BX3.out.cell (i := 1) rfl
                        have q2 := BX3.out.cell (i := 2) rfl
                        have q3 := BX3.out.cell (i := 3) rfl
                        have q4 := BX3.out.cell (i := 4) rfl
                        have q5 := BX3.out.cell (i := 5) rfl
                        clear h3 C4
                        try dsimp only
                        go_wp2_with fail
                        refine C5.out.mono ?_
                        intro e w4 h4
                        obtain ⟨rfl, last', sz', S', X', htw, hl'⟩ := pair_new KK.out RR.out hm SS.out (multiply_shared l0 l1 _ (SS.out _ _ HL0.out) (SS.out _ _ HL1.out) hN1 hN2) H3.out h4
                        have B4 := Lib.hid (below_near B3.out h4.near hwk.2.2.1 hwk.2.2.2 B3.out.size)
                        have T4 := Lib.hid htw
                        clear h4 htw C5 H3
                        clear q0 q1 q2 q3 q4 q5
                        try dsimp only
                        go_wp2_with fail
                        go_meet
                        case rel => exact ⟨z, er, last', sz', S', X', rfl, rfl, rfl, rfl, rfl, T4.out, by omega, B4.out⟩
                      · have HL := Lib.hid hl
                        clear hl
                        have C4 := Lib.hid (kMultiply_bad gg hh _ draws l0 l1 w2 KK.out k2 k3 HL0.out HL1.out HD2.out HL.out hT hN1 hN2)
                        go_wp2_with fail
                        refine C4.out.mono ?_
                        rintro e w3 ⟨rfl, hb3⟩
                        have B3 := Lib.hid (below_trans HB2.out hb3 hsz2)
                        have BX3 := Lib.hid (BX2.out.below hb3)
                        have T3 := Lib.hid (TT2.out.below hb3)
                        have RR3 := Lib.hid (RR.out.below hb3)
                        have C5 := Lib.hid (sMultiply_bad gg hh _ draws l0 l1 w3 RR3.out k2 k3 HL0.out HL1.out (HD.out.below B3.out) HL.out hT hN2)
                        clear g0 g1 g2 g3 g4 g5
                        have q0 := BX3.out.cell (i := 0) rfl
                        have q1 := BX3.out.cell (i := 1) rfl
                        have q2 := BX3.out.cell (i := 2) rfl
                        have q3 := BX3.out.cell (i := 3) rfl
                        have q4 := BX3.out.cell (i := 4) rfl
                        have q5 := BX3.out.cell (i := 5) rfl
                        clear hb3 C4
                        try dsimp only
                        go_wp2_with fail
                        refine C5.out.mono ?_
                        rintro e w4 ⟨rfl, hb4⟩
                        have B4 := Lib.hid (below_trans B3.out hb4 B3.out.size)
                        have T4 := Lib.hid (T3.out.below hb4)
                        clear hb4 C5
                        clear q0 q1 q2 q3 q4 q5
                        try dsimp only
                        go_wp2_with fail
                        go_meet
                        case rel => exact ⟨0, 1, last, sz, S, X, rfl, rfl, rfl, rfl, rfl, T4.out, by omega, B4.out⟩
                    · have HIN := Lib.hid hin
                      clear hin
                      have C4 := Lib.hid (kMultiply_none gg hh (.slice Ad draws.length cd) w2 KK.out k2 k3 HIN.out)
                      go_wp2_with fail
                      refine C4.out.mono ?_
                      rintro e w3 ⟨rfl, hb3⟩
                      have B3 := Lib.hid (below_trans HB2.out hb3 hsz2)
                      have BX3 := Lib.hid (BX2.out.below hb3)
                      have T3 := Lib.hid (TT2.out.below hb3)
                      have RR3 := Lib.hid (RR.out.below hb3)
                      have C5 := Lib.hid (sMultiply_none gg hh (.slice Ad draws.length cd) w3 RR3.out k2 k3 HIN.out)
                      clear g0 g1 g2 g3 g4 g5
                      have q0 := BX3.out.cell (i := 0) rfl
                      have q1 := BX3.out.cell (i := 1) rfl
                      have q2 := BX3.out.cell (i := 2) rfl
                      have q3 := BX3.out.cell (i := 3) rfl
                      have q4 := BX3.out.cell (i := 4) rfl
                      have q5 := BX3.out.cell (i := 5) rfl
                      clear hb3 C4
                      try dsimp only
                      go_wp2_with fail
                      refine C5.out.mono ?_
                      rintro e w4 ⟨rfl, hb4⟩
                      have B4 := Lib.hid (below_trans B3.out hb4 B3.out.size)
                      have T4 := Lib.hid (T3.out.below hb4)
                      clear hb4 C5
                      clear q0 q1 q2 q3 q4 q5
                      try dsimp only
                      go_wp2_with fail
                      go_meet
                      case rel => exact ⟨0, 4, last, sz, S, X, rfl, rfl, rfl, rfl, rfl, T4.out, by omega, B4.out⟩
                  · have HE4 := Lib.hid e4
                    have hb4 : (kind == 4) = false := by rw [beq_eq_false_iff_ne]; exact e4
                    clear e4
                    by_cases e5 : kind = 5
                    · as_aux_lemma =>
                      subst e5
                      obtain ⟨⟨V, hk⟩, ⟨V', hr⟩, hs, hm⟩ := id TT2.out
                      have KK := Lib.hid hk
                      have RR := Lib.hid hr
                      have SS := Lib.hid hs
                      have HD2 := Lib.hid (HD.out.below HB2.out)
                      clear hk hr hs
                      by_cases hin : (S hh).isSome = true
                      · obtain ⟨l0, hl0⟩ := Option.isSome_iff_exists.1 hin
                        have HL0 := Lib.hid hl0
                        clear hin hl0
                        have KQ := Lib.hid (KK.out.drewN 1)
                        have RQ := Lib.hid (RR.out.drewN 1)
                        have BQ := Lib.hid (below_drewN HB2.out 1)
                        have BXQ := Lib.hid (BX2.out.drewN 1)
                        have TQ := Lib.hid (TT2.out.below (below_drewN (Below.refl w2.heap.size w2) 1))
                        go_wp2_with fail
                        go_region_held3 (fun w' => w'.cell? ⟨cb, 2, none⟩ = some (.int .i64 hh)) (go_keep) (first | (go_at_call 21; refine (kDrop_ok' hh l0 _ KQ.out k3 HL0.out).mono ?_; rintro e w3 ⟨rfl, hk3, hn3⟩; have K3 := Lib.hid hk3; have N3 := Lib.hid hn3; have B3 := Lib.hid (below_near BQ.out hn3 hwk.1 hwk.2.1 BQ.out.size); have R3 := Lib.hid (RQ.out.nearK KQ.out hm hn3); have BX3 := Lib.hid (BXQ.out.near hn3 hcks.1 hcks.2.1); have bx32 := BX3.out.cell (i := 2) rfl; clear hk3 hn3) | (go_at_call 47; refine (sDrop_ok' hh l0 _ RQ.out k3 HL0.out).mono ?_; rintro e w3 ⟨rfl, hr3, hn3⟩; have R3 := Lib.hid hr3; have N3 := Lib.hid hn3; have B3 := Lib.hid (below_near BQ.out hn3 hwk.2.2.1 hwk.2.2.2 BQ.out.size); have K3 := Lib.hid (KQ.out.nearR RQ.out hm hn3); have BX3 := Lib.hid (BXQ.out.near hn3 hcks.2.2.1 hcks.2.2.2); have bx32 := BX3.out.cell (i := 2) rfl; clear hr3 hn3) | (go_at_call 47; refine (sDrop_ok' hh l0 _ R3.out k3 HL0.out).mono ?_; rintro e w4 ⟨rfl, hr4, hn4⟩; have BF := Lib.hid (below_near B3.out hn4 hwk.2.2.1 hwk.2.2.2 B3.out.size); have RF := Lib.hid hr4; have KF := Lib.hid (by obtain ⟨V3, hk3⟩ := K3.out; exact (⟨V3, hk3.nearR R3.out hm hn4⟩ : ∃ V3, _)); have BX4 := Lib.hid (BX3.out.near hn4 hcks.2.2.1 hcks.2.2.2); have bx42 := BX4.out.cell (i := 2) rfl; clear hr4 hn4) | (go_at_call 21; refine (kDrop_ok' hh l0 _ K3.out k3 HL0.out).mono ?_; rintro e w4 ⟨rfl, hk4, hn4⟩; have BF := Lib.hid (below_near B3.out hn4 hwk.1 hwk.2.1 B3.out.size); have KF := Lib.hid hk4; have RF := Lib.hid (by obtain ⟨V3, hr3⟩ := R3.out; exact (⟨V3, hr3.nearK K3.out hm hn4⟩ : ∃ V3, _)); have BX4 := Lib.hid (BX3.out.near hn4 hcks.1 hcks.2.1); have bx42 := BX4.out.cell (i := 2) rfl; clear hk4 hn4))
                        all_goals (
                          clear g0 g1 g2 g3 g4 g5
                          try dsimp only
                          go_wp2_with fail
                          go_meet
                          case rel => exact ⟨0, 0, last, sz - 1, _, X, rfl, rfl, rfl, rfl, rfl, ⟨KF.out, RF.out, SS.out.drop, hm⟩, by omega, BF.out⟩)
                      · have HIN := Lib.hid hin
                        clear hin
                        have KQ := Lib.hid (KK.out.drewN 1)
                        have RQ := Lib.hid (RR.out.drewN 1)
                        have BQ := Lib.hid (below_drewN HB2.out 1)
                        have BXQ := Lib.hid (BX2.out.drewN 1)
                        have TQ := Lib.hid (TT2.out.below (below_drewN (Below.refl w2.heap.size w2) 1))
                        go_wp2_with fail
                        go_region_held3 (fun w' => w'.cell? ⟨cb, 2, none⟩ = some (.int .i64 hh)) (go_keep) (first | (go_at_call 21; refine (kDrop_none hh _ KQ.out k3 HIN.out).mono ?_; rintro e w3 ⟨rfl, hb3⟩; have K3 := Lib.hid (KQ.out.below hb3); have R3 := Lib.hid (RQ.out.below hb3); have T3 := Lib.hid (TQ.out.below hb3); have B3 := Lib.hid (below_trans BQ.out hb3 BQ.out.size); have BX3 := Lib.hid (BXQ.out.below hb3); have bx32 := BX3.out.cell (i := 2) rfl; clear hb3) | (go_at_call 47; refine (sDrop_none hh _ RQ.out k3 HIN.out).mono ?_; rintro e w3 ⟨rfl, hb3⟩; have K3 := Lib.hid (KQ.out.below hb3); have R3 := Lib.hid (RQ.out.below hb3); have T3 := Lib.hid (TQ.out.below hb3); have B3 := Lib.hid (below_trans BQ.out hb3 BQ.out.size); have BX3 := Lib.hid (BXQ.out.below hb3); have bx32 := BX3.out.cell (i := 2) rfl; clear hb3) | (go_at_call 47; refine (sDrop_none hh _ R3.out k3 HIN.out).mono ?_; rintro e w4 ⟨rfl, hb4⟩; have TF := Lib.hid (T3.out.below hb4); have BF := Lib.hid (below_trans B3.out hb4 B3.out.size); have BX4 := Lib.hid (BX3.out.below hb4); have bx42 := BX4.out.cell (i := 2) rfl; clear hb4) | (go_at_call 21; refine (kDrop_none hh _ K3.out k3 HIN.out).mono ?_; rintro e w4 ⟨rfl, hb4⟩; have TF := Lib.hid (T3.out.below hb4); have BF := Lib.hid (below_trans B3.out hb4 B3.out.size); have BX4 := Lib.hid (BX3.out.below hb4); have bx42 := BX4.out.cell (i := 2) rfl; clear hb4))
                        all_goals (
                          clear g0 g1 g2 g3 g4 g5
                          try dsimp only
                          go_wp2_with fail
                          go_meet
                          case rel => exact ⟨0, 4, last, sz, S, X, rfl, rfl, rfl, rfl, rfl, TF.out, by omega, BF.out⟩)
                    · have HE5 := Lib.hid e5
                      have hb5 : (kind == 5) = false := by rw [beq_eq_false_iff_ne]; exact e5
                      clear e5
                      go_wp2_with fail
                      go_meet
                      case rel => exact ⟨0, 0, last, sz, S, X, rfl, rfl, rfl, rfl, rfl, TT2.out, by omega, HB2.out⟩
        case rest =>
          as_aux_lemma =>
          obtain ⟨z, er, last5, sz5, S5, X5, rfl, rfl, rfl, rfl, rfl, ⟨⟨V5, hk5⟩, ⟨V5', hr5⟩, hs5, hm5⟩, hl5, hb5⟩ := hcut
          clear TT2 HB2 HD BX2 g0 g1 g2 g3 g4 g5 hlast
          have K5 := Lib.hid hk5
          have R5 := Lib.hid hr5
          have S5' := Lib.hid hs5
          have B5 := Lib.hid hb5
          obtain ⟨_, _, hcl, _, _⟩ := hr5.cells
          have hb5s := hb5.size
          clear hk5 hr5 hs5 hb5
          go_wp2_with fail
          go_loopw [200] (fun i wq => ∃ x : Nat, x ≤ last5 + 2 ∧ i = .int .i64 x ∧ Below wc.heap.size wc wq) (fun i _ => last5 + 2 - (intOf i).toNat)
          case atStart => exact ⟨0, Nat.zero_le _, rfl, Below.refl _ _⟩
          case round =>
            obtain ⟨x, hx, rfl, hbq⟩ := hrel
            have BQ := Lib.hid hbq
            have hbqs := hbq.size
            clear hbq hcl
            by_cases hxl : x < last5 + 2
            · have hx64 : I64 (x : Int) := by unfold I64; omega
              have K6 := Lib.hid (K5.out.below BQ.out)
              have R6 := Lib.hid (R5.out.below BQ.out)
              by_cases hin : (S5 (x : Int)).isSome = true
              · obtain ⟨l0, hl0⟩ := Option.isSome_iff_exists.1 hin
                have HL0 := Lib.hid hl0
                clear hin hl0
                go_wp2_with fail
                refine (kOpen_ok x l0 (X5 x) _ K6.out hx64 HL0.out (S5'.out _ _ HL0.out) hT (by omega) hN2).mono ?_
                rintro e w7 ⟨rfl, hb7⟩
                have K7 := Lib.hid (K6.out.below hb7)
                have R7 := Lib.hid (R6.out.below hb7)
                have B7 := Lib.hid (below_trans BQ.out hb7 hbqs)
                clear hb7 K6 R6
                try dsimp only
                go_wp2_with fail
                refine (sStOpen_ok x l0 (X5 x) _ R7.out hx64 HL0.out (S5'.out _ _ HL0.out) hT (by omega) hN2).mono ?_
                rintro e w8 ⟨rfl, hb8⟩
                have K8 := Lib.hid (K7.out.below hb8)
                have R8 := Lib.hid (R7.out.below hb8)
                have B8 := Lib.hid (below_trans B7.out hb8 B7.out.size)
                clear hb8 K7 R7 B7
                try dsimp only
                go_wp2_with fail
                refine (kShares_ok x l0 _ K8.out hx64 HL0.out (by omega)).mono ?_
                rintro e w9 ⟨v9, rfl, ho9, hb9⟩
                have R9 := Lib.hid (R8.out.below hb9)
                have B9 := Lib.hid (below_trans B8.out hb9 B8.out.size)
                have O9 := Lib.hid ho9
                obtain ⟨_, _, hcl, hm9, _⟩ := R9.out.cells
                have hlook := R9.out.store.look hx64 (by rw [HL0.out]; rfl)
                have KR := Lib.hid (R9.out.store.rows x l0 HL0.out)
                clear hb9 ho9 K8 R8 B8
                try dsimp only
                go_wp2_with fail
                refine (equal_any _ _ l0 l0 _ O9.out.is KR.out.is).mono ?_
                rintro e w' ⟨rfl, nd, rfl⟩
                have HDT := Lib.hid (show decide (l0 = l0) = true by simp)
                rw [HDT.out]
                have B10 := Lib.hid (below_drewN B9.out nd)
                clear hcl hm9 hlook
                try dsimp only
                go_wp2_with fail
                go_roundw
                case rel => exact ⟨x + 1, by omega, by go_num, B10.out⟩
                case measure => simp [intOf] <;> omega
              · have HIN := Lib.hid hin
                clear hin
                go_wp2_with fail
                refine (kOpen_none x _ K6.out hx64 HIN.out).mono ?_
                rintro e w7 ⟨rfl, hb7⟩
                have K7 := Lib.hid (K6.out.below hb7)
                have R7 := Lib.hid (R6.out.below hb7)
                have B7 := Lib.hid (below_trans BQ.out hb7 hbqs)
                clear hb7 K6 R6
                try dsimp only
                go_wp2_with fail
                refine (sOpen_none x _ R7.out hx64 HIN.out).mono ?_
                rintro e w8 ⟨rfl, hb8⟩
                have K8 := Lib.hid (K7.out.below hb8)
                have R8 := Lib.hid (R7.out.below hb8)
                have B8 := Lib.hid (below_trans B7.out hb8 B7.out.size)
                clear hb8 K7 R7 B7
                try dsimp only
                go_wp2_with fail
                refine (kShares_none x _ K8.out hx64 HIN.out).mono ?_
                rintro e w9 ⟨rfl, hb9⟩
                have R9 := Lib.hid (R8.out.below hb9)
                have B9 := Lib.hid (below_trans B8.out hb9 B8.out.size)
                obtain ⟨_, _, hcl, hm9, _⟩ := R9.out.cells
                have hlook := R9.out.store.lookNone hx64 HIN.out
                clear hb9 K8 R8 B8
                try dsimp only
                go_wp2_with fail
                refine (equal_any _ _ [] [] _ (IsNums.nil _) (IsNums.nil _)).mono ?_
                rintro e w' ⟨rfl, nd, rfl⟩
                have HDT := Lib.hid (show decide (([] : List Int) = []) = true by simp)
                rw [HDT.out]
                have B10 := Lib.hid (below_drewN B9.out nd)
                clear hcl hm9 hlook
                try dsimp only
                go_wp2_with fail
                go_roundw
                case rel => exact ⟨x + 1, by omega, by go_num, B10.out⟩
                case measure => simp [intOf] <;> omega
            · obtain rfl : x = last5 + 2 := by omega
              go_wp2_with fail
              go_roundw
              case rel =>
                have HR := Lib.hid (show (∃ last sz S X, Two wr w.heap.size W1.heap.size kb mb rb rm N T last sz S X ∧ last ≤ j + 1) ∧ Below w.heap.size w wr from ⟨⟨last5, sz5, S5, X5, ⟨⟨V5, K5.out.below BQ.out⟩, ⟨V5', R5.out.below BQ.out⟩, S5'.out, hm5⟩, hl5⟩, below_trans B5.out BQ.out hb5s⟩)
                first
                  | exact ⟨j + 1, by omega, by go_num, HR.out.1, HR.out.2⟩
                  | ((repeat apply Exists.intro); exact ⟨⟨j + 1, by omega, by go_num, HR.out.1, HR.out.2⟩, rfl⟩)
              case measure => simp [intOf] <;> omega
      · obtain rfl : j = l.length := by omega
        go_wp2_with fail
        exact HP.out _ BEL.out
theorem keysPlay_any (n t : Int) (vl : Value) (l : List (Cl × Value)) (w : World) (h1 : IsCalls w vl l) :
    Calls Try.prog 6 #[.int .i64 n, .int .i64 t, vl] w fun e w' => e = .returned (.bool true) ∧ Below w.heap.size w w' := by
  by_cases h : 0 ≤ t ∧ t ≤ 4 ∧ 1 ≤ n ∧ n ≤ 9 ∧ 2 * t + 1 ≤ n
  · obtain ⟨T, rfl⟩ := Int.eq_ofNat_of_zero_le h.1
    obtain ⟨N, rfl⟩ := Int.eq_ofNat_of_zero_le (show 0 ≤ n by omega)
    exact keysPlay_ok N T vl l w h1 (by omega) (by omega) (by omega)
  · refine (keysPlay_bad n t vl w h).mono ?_
    rintro e w' ⟨h1, rfl⟩
    exact ⟨h1, Below.refl _ _⟩
end Go.Proofs.Ytegmeepogjijiaa
