/- The document's text of a circuit: what the call returns. -/
import Derived.Test.YtknjcdlknnfhaaaDoorTextW
import Derived.Test.YtknjcdlknnfhaaaDoorRefC
import Derived.Deep.CutRange
import Derived.Deep.CutBlock
import Derived.Deep.RegionHeld3
namespace Go.Proofs.YtknjcdlknnfhaaaDoor
open Go.RowKit Go.Sort Croft

/-- the words lie in the document's table -/
def Verbs (w : World) : Prop := ∀ k : Nat, 1 ≤ k → k ≤ 6 → w.cell? ⟨0, k, none⟩ = some (.string (bs (wordL k)))
theorem Verbs.lt {w : World} (h : Verbs w) : 0 < w.heap.size := by
  have h1 := h 1 (by omega) (by omega)
  rcases Nat.lt_or_ge 0 w.heap.size with k | k
  · exact k
  · simp [World.cell?, Array.getElem?_eq_none k] at h1
theorem Verbs.below {w w' : World} (h : Verbs w) (hb : Below w.heap.size w w') : Verbs w' := fun k h1 h2 => (hb.cell (p := ⟨0, k, none⟩) h.lt).trans (h k h1 h2)
set_option maxRecDepth 100000 in
set_option maxHeartbeats 2000000 in
theorem rText_ok (v : Value) (gs : List Gt) (os : List Int) (w : World) (h : IsCirc w v gs os) (h0 : circE gs os = 0) (htab : Lib.TabIs Tryd.prog w "internal/strconv.uint64pow10" .u64 Lib.pow10Tab) (hvb : Verbs w) :
    Calls Tryd.prog 8 #[v] w fun e w' => e = .returned (.string (bs (circT gs os))) ∧ Below w.heap.size w w' := by
  have OK := Lib.hid (circE_zero.1 h0)
  have hg30 := OK.out.g2
  have ho30 := OK.out.o2
  have TB := Lib.hid htab
  have VB := Lib.hid hvb
  obtain ⟨vg, vo, rfl, hg, ho⟩ := h
  have KG := Lib.hid hg
  have KO := Lib.hid ho
  obtain ⟨A1, c1, rfl, hc1, hm1, hl1, hu1, hr1⟩ := hg
  obtain ⟨A2, c2, rfl, hc2, hm2, hl2, hu2, hr2⟩ := ho
  have BB := Lib.hid ((Below.refl w.heap.size w).alloc (Nat.le_refl _) (.cells #[.slice A1 gs.length c1, .slice A2 os.length c2] 25))
  have BX0 := Lib.hid (Box.new w 25 [.slice A1 gs.length c1, .slice A2 os.length c2])
  suffices hgoal : ∀ Post : Ending → World → Prop, (∀ w', Below w.heap.size w w' → Post (.returned (.string (bs (circT gs os)))) w') → Calls Tryd.prog 8 #[.agg #[.slice A1 gs.length c1, .slice A2 os.length c2]] w Post from hgoal _ fun w' h => ⟨rfl, h⟩
  intro Post hpo
  have HP := Lib.hid hpo
  clear hu1 hr1 hm1 hu2 hr2 hm2 hpo h0 htab hvb
  obtain ⟨e0, he0⟩ : ∃ e0, e0 = bs [] := ⟨_, rfl⟩
  have HE0 := Lib.hid he0
  go_enter Tryd.func8, Tryd.ntmps8
  go_wp2_with fail
  go_loopw [4, 5] (fun x i wr => ∃ k : Nat, k ≤ gs.length ∧ i = .int .i64 k ∧ x = .string (bs ((gs.take k).flatMap gateT)) ∧ ((gs.take k).flatMap gateT).length ≤ 60 * k ∧ Box wr w.heap.size 25 [.slice A1 gs.length c1, .slice A2 os.length c2] ∧ Below w.heap.size w wr) (fun _ i _ => gs.length - (intOf i).toNat)
  case atStart => exact ⟨0, Nat.zero_le _, rfl, rfl, Nat.zero_le _, BX0.out, BB.out⟩
  case round =>
    obtain ⟨k, hk, rfl, rfl, hlen, hbx, hbel⟩ := hrel
    have BX := Lib.hid hbx
    have BEL := Lib.hid hbel
    have hsz := hbel.size
    have hc0 := hbx.cell (i := 0) rfl
    clear hbx hbel
    by_cases hlt : k < gs.length
    · obtain ⟨A, c, hA, _, _, _, hu, hr⟩ := KG.out.below BEL.out
      injection hA with hA1 hA2 hA3
      subst hA1 hA3
      obtain ⟨b1', o1, ⟨kd, ga, gb, gn⟩, rfl, hb1, hgk, hgo, ha1, ha2, ha3, ha4⟩ := gate_at hr hu hlt
      dsimp only at ha1 ha2 ha3 ha4
      have hright := OK.out.right k _ hgk
      have HGO := Lib.hid hgo
      have HNX := Lib.hid (gatesT_next hgk)
      obtain ⟨tx, htx⟩ : ∃ tx, tx = (gs.take k).flatMap gateT := ⟨_, rfl⟩
      rw [← htx] at HNX hlen ⊢
      have BA := Lib.hid ((Below.refl wr.heap.size wr).alloc (Nat.le_refl _) (.cells #[.int .i64 kd, .int .i64 ga, .int .i64 gb, .int .u64 gn] 58))
      have BG0 := Lib.hid (Box.new wr 58 [.int .i64 kd, .int .i64 ga, .int .i64 gb, .int .u64 gn])
      have VB2 := Lib.hid ((VB.out.below BEL.out).below BA.out)
      obtain ⟨m, rfl⟩ : ∃ m : Nat, kd = m := ⟨kd.toNat, by
        have : kd = 1 ∨ kd = 2 ∨ kd = 3 ∨ kd = 4 ∨ kd = 5 ∨ kd = 6 := by
          by_cases q : kd = 1 ∨ kd = 2 ∨ kd = 3 ∨ kd = 4 ∨ kd = 5 ∨ kd = 6
          · exact q
          · simp only [not_or] at q
            simp [gRight, q] at hright
        omega⟩
      have hm : 1 ≤ m ∧ m ≤ 6 := by
        by_cases q : (m : Int) = 1 ∨ (m : Int) = 2 ∨ (m : Int) = 3 ∨ (m : Int) = 4 ∨ (m : Int) = 5 ∨ (m : Int) = 6
        · omega
        · simp only [not_or] at q
          simp [gRight, q] at hright
      obtain ⟨hm1, hm6⟩ := hm
      have hvc := VB2.out m hm1 hm6
      obtain ⟨bt, hbt⟩ : ∃ bt, bt = bs tx := ⟨_, rfl⟩
      obtain ⟨bv, hbv⟩ : ∃ bv, bv = bs (wordL (m : Int)) := ⟨_, rfl⟩
      have hbts : bt.size ≤ 1800 := by rw [hbt, bs_size]; omega
      have hbvs : bv.size ≤ 5 := by rw [hbv, bs_size]; exact wordL_len _
      have HLEN := Lib.hid (show ((gs.take (k + 1)).flatMap gateT).length ≤ 60 * (k + 1) by
        have hl := lineT_len ⟨m, ga, gb, gn⟩ (by have := HGO.out.2.1.2; dsimp only at this ⊢; omega) (by have := HGO.out.2.2.1.2; dsimp only at this ⊢; omega)
        rw [HNX.out, List.length_append, gateT, List.length_append, List.length_singleton]
        omega)
      have hll := lineT_len ⟨m, ga, gb, gn⟩ (by have := HGO.out.2.1.2; dsimp only at this ⊢; omega) (by have := HGO.out.2.2.1.2; dsimp only at this ⊢; omega)
      have HLL := Lib.hid hll
      have HLT := Lib.hid hlen
      clear hll hlen
      rw [← hbt]
      rw [← hbv] at hvc
      have HBT := Lib.hid hbt
      have HBV := Lib.hid hbv
      clear hu hr hgk hgo hb1 hA2 htx hbt hbv
      go_upto_block 2 with fail
      obtain ⟨w2, hw2⟩ : ∃ w2, w2 = wr.alloc (.cells #[.int .i64 (m : Int), .int .i64 ga, .int .i64 gb, .int .u64 gn] 58) := ⟨_, rfl⟩
      rw [← hw2]
      have B2 := Lib.hid (show Below w.heap.size w w2 by rw [hw2]; exact below_trans BEL.out BA.out hsz)
      have BX2 := Lib.hid (show Box w2 w.heap.size 25 [.slice (some ⟨b1', o1, none⟩) gs.length c1, .slice A2 os.length c2] by rw [hw2]; exact BX.out.alloc _)
      have BG := Lib.hid (show Box w2 wr.heap.size 58 [.int .i64 (m : Int), .int .i64 ga, .int .i64 gb, .int .u64 gn] by rw [hw2]; exact BG0.out)
      have TB2 := Lib.hid (show Lib.TabIs Tryd.prog w2 "internal/strconv.uint64pow10" .u64 Lib.pow10Tab by rw [hw2]; exact tab_below (tab_below TB.out BEL.out) BA.out)
      obtain ⟨cb, hcb⟩ : ∃ c, c = wr.heap.size := ⟨_, rfl⟩
      rw [← hcb] at BG ⊢
      clear hw2 hcb BG0 BA VB2 ha1 ha2 ha3 ha4 hvc BX BEL hc0
      have hs2 := B2.out.size
      go_cut [4, 5] from 8 to 79 (fun x i wx => x = .string (bs (tx ++ lineT ⟨m, ga, gb, gn⟩)) ∧ i = .int .i64 k ∧ Box wx w.heap.size 25 [.slice (some ⟨b1', o1, none⟩) gs.length c1, .slice A2 os.length c2] ∧ Below w.heap.size w wx)
      case first =>
        by_cases h1 : m = 1
        · subst h1
          have ha0 : 1 ≤ ga ∧ ga ≤ 9 := by simp [gRight] at hright; omega
          have hk0 := BG.out.cell (i := 0) rfl
          have hk1 := BG.out.cell (i := 1) rfl
          obtain ⟨na, hna⟩ : ∃ na, na = bs (numL ga) := ⟨_, rfl⟩
          have hnas : na.size ≤ 20 := by rw [hna, bs_size]; exact numL_len _ (by omega)
          have CI := Lib.hid (itoa_nat ga w2 (by omega) (by omega) TB2.out)
          rw [← hna] at CI
          have HT := Lib.hid (show bt ++ bv ++ (bs [32] ++ na) = bs (tx ++ lineT ⟨1, ga, gb, gn⟩) by rw [hna, HBT.out, HBV.out, bs_append, bs_append, bs_append]; congr 1; simp [lineT])
          clear hna
          go_wp2_with fail
          refine CI.out.mono ?_
          rintro e w3 ⟨rfl, kk, os3, rfl⟩
          have BN := below_grow w2 kk os3
          have BX3 := Lib.hid (BX2.out.below BN)
          have B3 := Lib.hid (below_trans B2.out BN B2.out.size)
          clear hk0 hk1 BN
          try dsimp only
          go_wp2_with fail
          go_meet
          case rel => exact ⟨congrArg Value.string HT.out, rfl, BX3.out, B3.out⟩
        · by_cases h2 : m = 2
          · subst h2
            clear h1
            obtain ⟨z, hz⟩ : ∃ z, z = ofF (toF gn) := ⟨_, rfl⟩
            have hz0 : 0 ≤ z := by rw [hz]; exact ofF_nonneg _
            have hz1 : z < 2147483647 := by rw [hz]; exact ofF_lt _
            have HUN := Lib.hid (show U64 gn from HGO.out.2.2.2)
            have CN := Lib.hid (show ∀ W, Calls Tryd.prog 29 #[.int .u64 gn] W fun e w' => e = .returned (.int .u64 z) ∧ W = w' from fun W => by rw [hz]; exact rNorm_any gn W HUN.out)
            obtain ⟨na, hna⟩ : ∃ na, na = bs (numL z) := ⟨_, rfl⟩
            have hnas : na.size ≤ 20 := by rw [hna, bs_size]; exact numL_len _ (by omega)
            have CI := Lib.hid (itoa_nat z w2 hz0 (by omega) TB2.out)
            rw [← hna] at CI
            have HT := Lib.hid (show bt ++ bv ++ (bs [32] ++ na) = bs (tx ++ lineT ⟨2, ga, gb, gn⟩) by rw [hna, HBT.out, HBV.out, bs_append, bs_append, bs_append]; congr 1; simp [lineT, hz])
            have hk0 := BG.out.cell (i := 0) rfl
            have hk3 := BG.out.cell (i := 3) rfl
            clear hna hz
            go_wp2_with fail
            refine (CN.out _).mono ?_
            rintro e w' ⟨rfl, rfl⟩
            try dsimp only
            go_wp2_with fail
            refine CI.out.mono ?_
            rintro e w3 ⟨rfl, kk, os3, rfl⟩
            have BN := below_grow w2 kk os3
            have BX3 := Lib.hid (BX2.out.below BN)
            have B3 := Lib.hid (below_trans B2.out BN B2.out.size)
            clear hk0 hk3 BN
            try dsimp only
            go_wp2_with fail
            go_meet
            case rel => exact ⟨congrArg Value.string HT.out, rfl, BX3.out, B3.out⟩
          · by_cases h6 : m = 6
            · subst h6
              clear h1 h2
              have ha0 : 0 ≤ ga ∧ ga < k := by simp [gRight, aheadB] at hright; omega
              obtain ⟨z, hz⟩ : ∃ z, z = ofF (toF gn) := ⟨_, rfl⟩
              have hz0 : 0 ≤ z := by rw [hz]; exact ofF_nonneg _
              have hz1 : z < 2147483647 := by rw [hz]; exact ofF_lt _
              have HUN := Lib.hid (show U64 gn from HGO.out.2.2.2)
              have CN := Lib.hid (show ∀ W, Calls Tryd.prog 29 #[.int .u64 gn] W fun e w' => e = .returned (.int .u64 z) ∧ W = w' from fun W => by rw [hz]; exact rNorm_any gn W HUN.out)
              obtain ⟨nb, hnb⟩ : ∃ nb : Int → ByteArray, nb = fun x => bs (numL x) := ⟨_, rfl⟩
              have hnas : (nb ga).size ≤ 20 := by rw [hnb, bs_size]; exact numL_len _ (by omega)
              have hnzs : (nb z).size ≤ 20 := by rw [hnb, bs_size]; exact numL_len _ (by omega)
              have ITO := Lib.hid (show ∀ (x : Int) (W : World), (x = ga ∨ x = z) → Lib.TabIs Tryd.prog W "internal/strconv.uint64pow10" .u64 Lib.pow10Tab → Calls Tryd.prog 28 #[.int .i64 x] W fun e w' => e = .returned (.string (nb x)) ∧ Below W.heap.size W w' from fun x W hx ht => by
                have hx0 : 0 ≤ x ∧ x ≤ 9223372036854775807 := by rcases hx with rfl | rfl <;> omega
                refine (itoa_nat x W hx0.1 hx0.2 ht).mono fun e w' hh => ?_
                obtain ⟨rfl, kk, os3, rfl⟩ := hh
                rw [hnb]
                exact ⟨rfl, below_grow W kk os3⟩)
              have HT := Lib.hid (show bt ++ bv ++ (bs [32] ++ nb ga ++ bs [32] ++ nb z) = bs (tx ++ lineT ⟨6, ga, gb, gn⟩) by rw [hnb, HBT.out, HBV.out]; dsimp only; rw [bs_append, bs_append, bs_append, bs_append, bs_append]; congr 1; simp [lineT, hz])
              have BQ := Lib.hid (below_drewN B2.out 1)
              have BXQ := Lib.hid (BX2.out.drewN 1)
              have BGQ := Lib.hid (BG.out.drewN 1)
              have TBQ := Lib.hid (tab_below TB2.out (below_drewN (Below.refl w2.heap.size w2) 1))
              have hk0 := BG.out.cell (i := 0) rfl
              have hk1 := BG.out.cell (i := 1) rfl
              have hk2 := BG.out.cell (i := 3) rfl
              have hwz : IntKind.i64.wrap z = z := IntWalk.i64_in _ (by omega)
              have t1 : ∀ W, (Op.stringOp .add ⟨#[32]⟩ (nb ga)).run Tryd.prog W = .ok (.string (bs [32] ++ nb ga)) W := fun W => run_string_add_sum W (bs [32]) (nb ga) (by rw [bs_size]; simp; omega)
              have t2 : ∀ W, (Op.stringOp .add (bs [32] ++ nb ga) ⟨#[32]⟩).run Tryd.prog W = .ok (.string (bs [32] ++ nb ga ++ bs [32])) W := fun W => run_string_add_sum W _ (bs [32]) (by rw [ByteArray.size_append, bs_size]; simp; omega)
              have t3 : ∀ W, (Op.stringOp .add (bs [32] ++ nb ga ++ bs [32]) (nb z)).run Tryd.prog W = .ok (.string (bs [32] ++ nb ga ++ bs [32] ++ nb z)) W := fun W => run_string_add_sum W _ _ (by rw [ByteArray.size_append, ByteArray.size_append, bs_size]; simp; omega)
              have t4 : ∀ W, (Op.stringOp .add (bt ++ bv) (bs [32] ++ nb ga ++ bs [32] ++ nb z)).run Tryd.prog W = .ok (.string (bt ++ bv ++ (bs [32] ++ nb ga ++ bs [32] ++ nb z))) W := fun W => run_string_add_sum W _ _ (by rw [ByteArray.size_append, ByteArray.size_append, ByteArray.size_append, ByteArray.size_append, bs_size]; simp; omega)
              clear hnb hz
              go_wp2_with fail
              go_region_held3 (fun w' => w'.cell? ⟨cb, 1, none⟩ = some (.int .i64 ga) ∧ w'.cell? ⟨cb, 3, none⟩ = some (.int .u64 gn)) (go_keep) (first | (go_at_call 29; refine (CN.out _).mono ?_; rintro e w' ⟨rfl, rfl⟩) | (go_at_call 28; refine (ITO.out _ _ (by first | exact .inl rfl | exact .inr rfl) TB3.out).mono ?_; rintro e w4 ⟨rfl, hb4⟩; have B4 := Lib.hid (below_trans B3.out hb4 B3.out.size); have BX4 := Lib.hid (BX3.out.below hb4); have BG4 := Lib.hid (BG3.out.below hb4); have q2 := BG4.out.cell (i := 1) rfl; have q3 := BG4.out.cell (i := 3) rfl; clear hb4) | (go_at_call 28; refine (ITO.out _ _ (by first | exact .inl rfl | exact .inr rfl) TBQ.out).mono ?_; rintro e w3 ⟨rfl, hb3⟩; have B3 := Lib.hid (below_trans BQ.out hb3 BQ.out.size); have BX3 := Lib.hid (BXQ.out.below hb3); have BG3 := Lib.hid (BGQ.out.below hb3); have TB3 := Lib.hid (tab_below TBQ.out hb3); have q0 := BG3.out.cell (i := 1) rfl; have q1 := BG3.out.cell (i := 3) rfl; clear hb3))
              all_goals
                clear hk0 hk1 hk2 q0 q1 q2 q3
                try dsimp only
                go_wp2_with fail
                go_meet
                case rel => exact ⟨congrArg Value.string HT.out, rfl, BX4.out, B4.out⟩
            · have h345 : m = 3 ∨ m = 4 ∨ m = 5 := by omega
              have hab : (0 ≤ ga ∧ ga < k) ∧ (0 ≤ gb ∧ gb < k) := by
                rcases h345 with rfl | rfl | rfl <;> (simp [gRight, aheadB] at hright; omega)
              obtain ⟨⟨ha0, ha1⟩, hb0, hb1'⟩ := hab
              obtain ⟨nb, hnb⟩ : ∃ nb : Int → ByteArray, nb = fun x => bs (numL x) := ⟨_, rfl⟩
              have hnas : (nb ga).size ≤ 20 := by rw [hnb, bs_size]; exact numL_len _ (by omega)
              have hnzs : (nb gb).size ≤ 20 := by rw [hnb, bs_size]; exact numL_len _ (by omega)
              have ITO := Lib.hid (show ∀ (x : Int) (W : World), (x = ga ∨ x = gb) → Lib.TabIs Tryd.prog W "internal/strconv.uint64pow10" .u64 Lib.pow10Tab → Calls Tryd.prog 28 #[.int .i64 x] W fun e w' => e = .returned (.string (nb x)) ∧ Below W.heap.size W w' from fun x W hx ht => by
                have hx0 : 0 ≤ x ∧ x ≤ 9223372036854775807 := by rcases hx with rfl | rfl <;> omega
                refine (itoa_nat x W hx0.1 hx0.2 ht).mono fun e w' hh => ?_
                obtain ⟨rfl, kk, os3, rfl⟩ := hh
                rw [hnb]
                exact ⟨rfl, below_grow W kk os3⟩)
              have HT := Lib.hid (show bt ++ bv ++ (bs [32] ++ nb ga ++ bs [32] ++ nb gb) = bs (tx ++ lineT ⟨m, ga, gb, gn⟩) by
                rw [hnb, HBT.out, HBV.out]; dsimp only; rw [bs_append, bs_append, bs_append, bs_append, bs_append]; congr 1
                rcases h345 with rfl | rfl | rfl <;> simp [lineT])
              have BQ := Lib.hid (below_drewN B2.out 1)
              have BXQ := Lib.hid (BX2.out.drewN 1)
              have BGQ := Lib.hid (BG.out.drewN 1)
              have TBQ := Lib.hid (tab_below TB2.out (below_drewN (Below.refl w2.heap.size w2) 1))
              have hk0 := BG.out.cell (i := 0) rfl
              have hk1 := BG.out.cell (i := 1) rfl
              have hk2 := BG.out.cell (i := 2) rfl
              have t1 : ∀ W, (Op.stringOp .add ⟨#[32]⟩ (nb ga)).run Tryd.prog W = .ok (.string (bs [32] ++ nb ga)) W := fun W => run_string_add_sum W (bs [32]) (nb ga) (by rw [bs_size]; simp; omega)
              have t2 : ∀ W, (Op.stringOp .add (bs [32] ++ nb ga) ⟨#[32]⟩).run Tryd.prog W = .ok (.string (bs [32] ++ nb ga ++ bs [32])) W := fun W => run_string_add_sum W _ (bs [32]) (by rw [ByteArray.size_append, bs_size]; simp; omega)
              have t3 : ∀ W, (Op.stringOp .add (bs [32] ++ nb ga ++ bs [32]) (nb gb)).run Tryd.prog W = .ok (.string (bs [32] ++ nb ga ++ bs [32] ++ nb gb)) W := fun W => run_string_add_sum W _ _ (by rw [ByteArray.size_append, ByteArray.size_append, bs_size]; simp; omega)
              have t4 : ∀ W, (Op.stringOp .add (bt ++ bv) (bs [32] ++ nb ga ++ bs [32] ++ nb gb)).run Tryd.prog W = .ok (.string (bt ++ bv ++ (bs [32] ++ nb ga ++ bs [32] ++ nb gb))) W := fun W => run_string_add_sum W _ _ (by rw [ByteArray.size_append, ByteArray.size_append, ByteArray.size_append, ByteArray.size_append, bs_size]; simp; omega)
              clear hnb
              have hb1 : ((m : Int) == 1) = false := by rw [beq_eq_false_iff_ne]; omega
              have hb2 : ((m : Int) == 2) = false := by rw [beq_eq_false_iff_ne]; omega
              have hb6 : ((m : Int) == 6) = false := by rw [beq_eq_false_iff_ne]; omega
              clear h345 h1 h2 h6
              go_wp2_with fail
              go_region_held3 (fun w' => w'.cell? ⟨cb, 1, none⟩ = some (.int .i64 ga) ∧ w'.cell? ⟨cb, 2, none⟩ = some (.int .i64 gb)) (go_keep) (first | (go_at_call 28; refine (ITO.out _ _ (by first | exact .inl rfl | exact .inr rfl) TB3.out).mono ?_; rintro e w4 ⟨rfl, hb4⟩; have B4 := Lib.hid (below_trans B3.out hb4 B3.out.size); have BX4 := Lib.hid (BX3.out.below hb4); have BG4 := Lib.hid (BG3.out.below hb4); have q2 := BG4.out.cell (i := 1) rfl; have q3 := BG4.out.cell (i := 2) rfl; clear hb4) | (go_at_call 28; refine (ITO.out _ _ (by first | exact .inl rfl | exact .inr rfl) TBQ.out).mono ?_; rintro e w3 ⟨rfl, hb3⟩; have B3 := Lib.hid (below_trans BQ.out hb3 BQ.out.size); have BX3 := Lib.hid (BXQ.out.below hb3); have BG3 := Lib.hid (BGQ.out.below hb3); have TB3 := Lib.hid (tab_below TBQ.out hb3); have q0 := BG3.out.cell (i := 1) rfl; have q1 := BG3.out.cell (i := 2) rfl; clear hb3))
              all_goals
                clear hk0 hk1 hk2 q0 q1 q2 q3
                try dsimp only
                go_wp2_with fail
                go_meet
                case rel => exact ⟨congrArg Value.string HT.out, rfl, BX4.out, B4.out⟩
      case rest =>
        obtain ⟨rfl, rfl, hbx2, hb2⟩ := hcut
        have BX3 := Lib.hid hbx2
        have B3 := Lib.hid hb2
        obtain ⟨bl, hbl⟩ : ∃ bl, bl = bs (tx ++ lineT ⟨m, ga, gb, gn⟩) := ⟨_, rfl⟩
        have hbls : bl.size ≤ 1900 := by rw [hbl, bs_size, List.length_append]; have := HLL.out; have := HLT.out; omega
        rw [← hbl]
        have HT := Lib.hid (show bl ++ bs [10] = bs ((gs.take (k + 1)).flatMap gateT) by rw [hbl, bs_append, HNX.out, gateT, List.append_assoc])
        clear hbl hbx2 hb2 BX2 B2 BG TB2
        go_wp2_with fail
        go_roundw
        case rel =>
          first
            | exact ⟨k + 1, by omega, by go_num, congrArg Value.string HT.out, HLEN.out, BX3.out, B3.out⟩
            | ((repeat apply Exists.intro); exact ⟨⟨k + 1, by omega, by go_num, congrArg Value.string HT.out, HLEN.out, BX3.out, B3.out⟩, rfl⟩)
        case measure => simp [intOf] <;> omega
    · obtain rfl : k = gs.length := by omega
      have HTK := Lib.hid (show gs.take gs.length = gs from List.take_length)
      rw [HTK.out]
      obtain ⟨tg, htg⟩ : ∃ tg, tg = gs.flatMap gateT := ⟨_, rfl⟩
      have HTG := Lib.hid htg
      have HTGL := Lib.hid (show tg.length ≤ 1800 by rw [htg]; rw [HTK.out] at hlen; omega)
      rw [← htg]
      clear htg
      go_wp2_with fail
      clear hc0
      obtain ⟨wo, hwo⟩ : ∃ wo, wo = wr := ⟨_, rfl⟩
      subst hwo
      go_loopw [4, 7] (fun x i wr => ∃ q : Nat, q ≤ os.length ∧ i = .int .i64 q ∧ x = .string (bs (tg ++ (os.take q).flatMap outT)) ∧ (tg ++ (os.take q).flatMap outT).length ≤ 1800 + 30 * q ∧ Box wr w.heap.size 25 [.slice A1 gs.length c1, .slice A2 os.length c2] ∧ Below w.heap.size w wr) (fun _ i _ => os.length - (intOf i).toNat)
      case atStart => exact ⟨0, Nat.zero_le _, rfl, by simp, by simp; exact HTGL.out, BX.out, BEL.out⟩
      case round =>
        obtain ⟨q, hq, rfl, rfl, hlq, hbx, hbel⟩ := hrel
        have BX1 := Lib.hid hbx
        have BE1 := Lib.hid hbel
        have hs1 := hbel.size
        have hc1' := hbx.cell (i := 1) rfl
        clear hbx hbel BX BEL
        by_cases hltq : q < os.length
        · obtain ⟨A, c, hA, _, _, _, hu, hr⟩ := KO.out.below BE1.out
          injection hA with hA1 hA2 hA3
          subst hA1 hA3
          clear hA2
          obtain ⟨b2, o2, z, rfl, hb2, hgz, hat, hcz⟩ := ints_at hr hu hltq
          obtain ⟨hz0, hz1⟩ := OK.out.outs z (List.mem_of_getElem? hgz)
          obtain ⟨bt, hbt⟩ : ∃ bt, bt = bs (tg ++ (os.take q).flatMap outT) := ⟨_, rfl⟩
          have hbts : bt.size ≤ 2700 := by rw [hbt, bs_size]; omega
          obtain ⟨na, hna⟩ : ∃ na, na = bs (numL z) := ⟨_, rfl⟩
          have hnas : na.size ≤ 20 := by rw [hna, bs_size]; exact numL_len _ (by omega)
          have HLQ := Lib.hid (show (tg ++ (os.take (q + 1)).flatMap outT).length ≤ 1800 + 30 * (q + 1) by
            have := numL_len z (by omega)
            rw [List.length_append] at hlq
            rw [outsT_next hgz, List.length_append, List.length_append, outT, List.length_append, List.length_append]
            simp only [List.length_cons, List.length_nil]
            omega)
          have HT := Lib.hid (show bt ++ (bs [111, 117, 116, 32] ++ na ++ bs [10]) = bs (tg ++ (os.take (q + 1)).flatMap outT) by rw [hna, hbt, bs_append, bs_append, bs_append, outsT_next hgz, outT, List.append_assoc])
          rw [← hbt]
          have TB1 := Lib.hid (tab_below TB.out BE1.out)
          have CI := Lib.hid (itoa_nat z wr hz0 (by omega) TB1.out)
          rw [← hna] at CI
          clear hr hu hgz hb2 hbt hna hlq
          go_wp2_with fail
          refine CI.out.mono ?_
          rintro e w3 ⟨rfl, kk, os3, rfl⟩
          have BN := below_grow wr kk os3
          have BX3 := Lib.hid (BX1.out.below BN)
          have B3 := Lib.hid (below_trans BE1.out BN BE1.out.size)
          clear BN hcz hc1'
          try dsimp only
          go_wp2_with fail
          exact ⟨⟨q + 1, by omega, by go_num, congrArg Value.string HT.out, HLQ.out, BX3.out, B3.out⟩, by simp [intOf] <;> omega⟩
        · obtain rfl : q = os.length := by omega
          have HF := Lib.hid (show bs (tg ++ (os.take os.length).flatMap outT) = bs (circT gs os) by rw [List.take_length, HTG.out]; rfl)
          rw [HF.out]
          go_wp2_with fail
          exact HP.out _ BE1.out
end Go.Proofs.YtknjcdlknnfhaaaDoor
