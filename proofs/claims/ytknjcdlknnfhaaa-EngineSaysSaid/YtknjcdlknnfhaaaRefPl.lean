/- The document's run of a circuit among parties: what it returns. -/
import Derived.Test.YtknjcdlknnfhaaaRefU
import Derived.Test.YtknjcdlknnfhaaaRefE
import Derived.Test.YtknjcdlknnfhaaaTimesW
import Derived.Deep.CutBlock
import Derived.Deep.CutRange
namespace Go.Proofs.Ytknjcdlknnfhaaa
open Go.RowKit Croft

theorem mixed_one (a b : List F) : mixedL (ofFs a) (ofFs b) 1 1 0 = ofFs (List.zipWith (· + ·) a b) := by
  unfold mixedL ofFs
  rw [List.zipWith_map, show (fun x y => toF 1 * toF (ofF x) + toF 1 * toF (ofF y) + toF 0) = (fun x y : F => x + y) from by funext x y; rw [toF_ofF, toF_ofF, show toF 1 = (1 : F) from by decide +kernel, show toF 0 = (0 : F) from by decide +kernel]; grind]
theorem toF_pm : toF 2147483646 = (-1 : F) := by decide +kernel
theorem mixed_sub (a b : List F) : mixedL (ofFs a) (ofFs b) 1 2147483646 0 = ofFs (List.zipWith (· - ·) a b) := by
  unfold mixedL ofFs
  rw [List.zipWith_map, show (fun x y => toF 1 * toF (ofF x) + toF 2147483646 * toF (ofF y) + toF 0) = (fun x y : F => x - y) from by funext x y; rw [toF_ofF, toF_ofF, toF_pm, show toF 1 = (1 : F) from by decide +kernel, show toF 0 = (0 : F) from by decide +kernel]; grind]
theorem mixed_scale (a : List F) (m : Int) : mixedL (ofFs a) (ofFs a) m 0 0 = ofFs (a.map (· * toF m)) := by
  unfold mixedL ofFs
  rw [List.zipWith_map, show (fun x y => toF m * toF (ofF x) + toF 0 * toF (ofF y) + toF 0) = (fun x y : F => x * toF m) from by funext x y; rw [toF_ofF, toF_ofF, show toF 0 = (0 : F) from by decide +kernel]; grind, zip_self_map]
theorem Pl.wireAt {W0 w : World} {g n : Nat} {vw : Value} {vws vss : List Value} {WF : List (List F)} {seen : List (List Int)} (h : Pl W0 w g n vw vws vss (WF.map ofFs) seen) {a : Nat} (ha : a < WF.length) : ∃ x, vws[a]? = some x ∧ OwnNums w W0.heap.size x (ofFs (wr WF a)) ∧ FarAll x vss := by
  have hl := h.wires.vlen
  rw [List.length_map] at hl
  have hx : vws[a]? = some vws[a] := List.getElem?_eq_getElem (by omega)
  refine ⟨_, hx, h.wires.row a _ _ hx ?_, h.rows a _ hx⟩
  rw [List.getElem?_map, wr_get ha]
  rfl
/-- the document's run -/
def PlayedRes (w : World) (e : Ending) (w' : World) (out : List Int) (seen : List (List Int)) : Prop :=
  ∃ vo vg vss, e = .returned (.tuple #[vo, vg]) ∧ OwnNums w' w.heap.size vo out ∧ Grid w' w.heap.size vg vss seen ∧ Below w.heap.size w w'
set_option maxRecDepth 100000 in
set_option maxHeartbeats 4000000 in
theorem rPlayed_ok (v vi vd : Value) (gs : List Gt) (os ins ds : List Int) (n t : Nat) (w : World) (h : IsCirc w v gs os) (hi : IsNums w vi ins) (hd : IsNums w vd ds) (h0 : crewE gs os n t = 0) (hli : ins.length = (whoseL gs).length) (hld : ds.length = dat n t gs gs.length) :
    Calls Try.prog 10 #[v, .int .i64 n, .int .i64 t, vi, vd] w fun e w' => PlayedRes w e w' (ofFs (couts gs os (toFs ins))) (rowsN n fun j => ofFs (eo n t gs os (toFs ins) (toFs ds) os.length j)) := by
  have KC := Lib.hid h
  have KI := Lib.hid hi
  have KD := Lib.hid hd
  obtain ⟨hok, hcrew, _⟩ := crewE_zero.1 h0
  have OK := Lib.hid hok
  have hg30 := hok.g2
  have ho30 := hok.o2
  obtain ⟨hc1, hc2, hc3, hc4, hc5⟩ := hcrew
  have ht4 : t ≤ 4 := by omega
  have hn2 : 2 * t + 1 ≤ n := by omega
  have hn9 : n ≤ 9 := by omega
  have HLI := Lib.hid hli
  have HLD := Lib.hid hld
  have hdall : ds.length ≤ 36 * 30 := by rw [hld]; have := dat_small (gs := gs) hn9 ht4 gs.length; omega
  obtain ⟨vg, vo, rfl, hg, ho⟩ := h
  have KG := Lib.hid hg
  have KO := Lib.hid ho
  obtain ⟨A1, c1, rfl, hc1', hm1, hl1, hu1, hr1⟩ := hg
  obtain ⟨A2, c2, rfl, hc2', hm2, hl2, hu2, hr2⟩ := ho
  obtain ⟨A3, c3, rfl, hc3', hm3, hl3, hu3, hr3⟩ := hi
  obtain ⟨A4, c4, rfl, hc4', hm4, hl4, hu4, hr4⟩ := hd
  have hBB := ((Below.refl w.heap.size w).alloc (Nat.le_refl _) (.cells #[.slice A1 gs.length c1, .slice A2 os.length c2] 25))
  have BB := Lib.hid hBB
  have BX0 := Lib.hid (Box.new w 25 [.slice A1 gs.length c1, .slice A2 os.length c2])
  obtain ⟨I, hI⟩ : ∃ I, I = toFs ins := ⟨_, rfl⟩
  obtain ⟨D, hD⟩ : ∃ D, D = toFs ds := ⟨_, rfl⟩
  rw [← hI, ← hD]
  have HI := Lib.hid hI
  have HD := Lib.hid hD
  suffices hgoal : ∀ Post : Ending → World → Prop, (∀ e w', PlayedRes w e w' (ofFs (couts gs os I)) (rowsN n fun j => ofFs (eo n t gs os I D os.length j)) → Post e w') → Calls Try.prog 10 #[.agg #[.slice A1 gs.length c1, .slice A2 os.length c2], .int .i64 n, .int .i64 t, .slice A3 ins.length c3, .slice A4 ds.length c4] w Post from hgoal _ fun e w' h => h
  intro Post hp
  have HP := Lib.hid hp
  clear hp hu1 hr1 hm1 hu2 hr2 hm2 hu3 hr3 hm3 hu4 hr4 hm4 hok h0 hli hld hc1 hc2 hc3 hc4 hc5 hI hD hBB
  go_enter Try.func10, Try.ntmps10
  go_wp2_with (refine wpList_make_grid rfl _ _ rfl (w.heap.size + 1) _ n rfl rfl rfl (by omega) (by rw [size_alloc]; omega) ?_)
  intro W3 hgr hb3
  try rw [size_alloc] at hgr
  try rw [size_alloc]
  have hs3 := hb3.size
  rw [size_alloc] at hs3
  have B3 := Lib.hid (show Below w.heap.size w W3 from BB.out.trans (hb3.mono (by omega)))
  have BX3 := Lib.hid (BX0.out.under hb3 (by omega))
  have ST3 := Lib.hid (show Pl w W3 (w.heap.size + 1) n (.slice none 0 0) [] (List.replicate n (.slice none 0 0)) ((ew n t gs I D 0).map ofFs) (rowsN n fun q => ofFs (es n t gs I D 0 q)) from
    ⟨B3.out, Grid.nil _ _, by rw [show (fun q => ofFs (es n t gs I D 0 q)) = (fun _ => []) from rfl, rowsN_nil]; exact hgr.less_below (B := w.heap.size) (w := w) B3.out (Below.refl W3.heap.size W3) (by omega), Far.nil_ _, fun i x hx => by simp at hx⟩)
  obtain ⟨gS, hgS⟩ : ∃ gS, gS = w.heap.size + 1 := ⟨_, rfl⟩
  rw [← hgS] at ST3 ⊢
  have hgw : w.heap.size < gS := by omega
  clear hgr hb3 BB BX0 B3 hgS
  go_wp2_with fail
  go_loopw [13, 14, 15, 16] (fun vw at_ kk i wr => ∃ (k : Nat) (vw' : Value) (vws vss : List Value), vw' = vw ∧ k ≤ gs.length ∧ i = .int .i64 k ∧ at_ = .int .i64 (dat n t gs k) ∧ kk = .int .i64 (cin gs k) ∧ Pl w wr gS n vw vws vss ((ew n t gs I D k).map ofFs) (rowsN n fun q => ofFs (es n t gs I D k q)) ∧ Box wr w.heap.size 25 [.slice A1 gs.length c1, .slice A2 os.length c2]) (fun _ _ _ i _ => gs.length - (intOf i).toNat)
  case atStart => exact ⟨0, _, _, _, rfl, Nat.zero_le _, rfl, rfl, rfl, ST3.out, BX3.out⟩
  case round =>
    obtain ⟨k, vw', vws, vss, hvw', hk, rfl, rfl, rfl, hst, hbx⟩ := hrel
    subst hvw'
    clear ST3 BX3
    have ST := Lib.hid hst
    have BX := Lib.hid hbx
    have hsz := hst.bel.size
    have hbw := hbx.lt
    have hc0 := hbx.cell (i := 0) rfl
    clear hst hbx
    by_cases hlt : k < gs.length
    · obtain ⟨A, c, hA, _, _, _, hu, hr⟩ := KG.out.below ST.out.bel
      injection hA with hA1 hA2 hA3
      subst hA1 hA3
      obtain ⟨b1', o1, ⟨kd, ga, gb, gn⟩, rfl, hb1, hgk, hgo, ha1, ha2, ha3, ha4⟩ := gate_at hr hu hlt
      dsimp only at ha1 ha2 ha3 ha4
      have HGK := Lib.hid hgk
      have HGO := Lib.hid hgo
      have hright := OK.out.right k _ hgk
      have BG0 := Lib.hid (Box.new wr 78 [.int .i64 kd, .int .i64 ga, .int .i64 gb, .int .u64 gn])
      have BA := Lib.hid ((Below.refl wr.heap.size wr).alloc (Nat.le_refl _) (.cells #[.int .i64 kd, .int .i64 ga, .int .i64 gb, .int .u64 gn] 78))
      obtain ⟨s, hs⟩ : ∃ s : Nat → List Int, s = fun q => ofFs (es n t gs I D k q) := ⟨_, rfl⟩
      have HS := Lib.hid (show ∀ q, q < n → (s q).length ≤ 1000 from fun q hq => by rw [hs, ofFs_length, es_length hq]; have := slen_le (gs := gs) hn9 k; omega)
      obtain ⟨WS, hWS⟩ : ∃ WS, WS = ew n t gs I D k := ⟨_, rfl⟩
      have HWL := Lib.hid (show (WS.map ofFs).length = k by rw [List.length_map, hWS, ew_length])
      have HLENS := Lib.hid (show ∀ l ∈ WS, l.length = n by rw [hWS]; exact ew_lens OK.out.right hn2 (by omega) (Nat.le_of_lt hlt))
      have HEW := Lib.hid (show ∀ R, R = ewire n t WS (co I (cin gs k)) (D.drop (dat n t gs k)) ⟨kd, ga, gb, gn⟩ → WS.map ofFs ++ [ofFs R] = (ew n t gs I D (k + 1)).map ofFs from fun R hR => by rw [ew_succ hgk, List.map_append, hR, hWS]; rfl)
      have HES := Lib.hid (show ∀ s' : Nat → List Int, (∀ q, q < n → s' q = s q ++ ofFs (eseen n t WS (co I (cin gs k)) (D.drop (dat n t gs k)) ⟨kd, ga, gb, gn⟩ q)) → rowsN n s' = rowsN n fun q => ofFs (es n t gs I D (k + 1) q) from fun s' h => rowsN_congr fun q hq => by rw [h q hq, es_succ hgk, ofFs_append, hs, hWS])
      have ST1 := ST.out
      rw [← hs, ← hWS] at ST1
      have STA := Lib.hid (ST1.below BA.out)
      have BXA := Lib.hid (BX.out.below BA.out)
      have HCS := Lib.hid (cin_succ hgk)
      obtain ⟨hds1, hds5, hds0⟩ := dat_step (n := n) (t := t) hgk
      have HDR := Lib.hid (dat_room (n := n) (t := t) hgk)
      have hdat : dat n t gs k ≤ 36 * k := dat_small hn9 ht4 k
      have hcin : cin gs k ≤ k := by
        unfold cin
        exact Nat.le_trans (whoseL_le _) (by rw [List.length_take]; omega)
      have hnt : (n : Int) * (t : Int) = ((n * t : Nat) : Int) := by simp
      have hnt2 : n * t ≤ 36 := Nat.mul_le_mul hn9 ht4
      have hnt0 : 0 ≤ (n : Int) * (t : Int) ∧ (n : Int) * (t : Int) ≤ 36 := by rw [hnt]; omega
      have HNT := Lib.hid hnt
      have HNT2 := Lib.hid hnt2
      have HDS1 := Lib.hid hds1
      have HDS5 := Lib.hid hds5
      have HDS0 := Lib.hid hds0
      clear hu hr hgk hgo hb1 hA2 ST1 hs hWS hnt hnt2 hds1 hds5 hds0 ST
      go_upto_block 2 with fail
      obtain ⟨w2, hw2⟩ : ∃ w2, w2 = wr.alloc (.cells #[.int .i64 kd, .int .i64 ga, .int .i64 gb, .int .u64 gn] 78) := ⟨_, rfl⟩
      rw [← hw2]
      have hB2 := BA.out.size
      rw [← hw2] at hB2
      have ST2 := Lib.hid (show Pl w w2 gS n vw' vws vss (WS.map ofFs) (rowsN n s) by rw [hw2]; exact STA.out)
      have BX2 := Lib.hid (show Box w2 w.heap.size 25 _ by rw [hw2]; exact BXA.out)
      obtain ⟨cb, hcb⟩ : ∃ c, c = wr.heap.size := ⟨_, rfl⟩
      have BG2 := Lib.hid (show Box w2 cb 78 [.int .i64 kd, .int .i64 ga, .int .i64 gb, .int .u64 gn] by rw [hw2, hcb]; exact BG0.out)
      rw [← hcb]
      have hs2 := ST2.out.bel.size
      have hx2 := BX2.out.lt
      have hcw : w.heap.size < cb := by rw [hcb]; exact hbw
      clear hw2 hcb BG0 BA STA BXA ha1 ha2 ha3 ha4 hc0 BX hB2 hsz hbw
      obtain ⟨RW, hRW⟩ : ∃ RW, RW = ewire n t WS (co I (cin gs k)) (D.drop (dat n t gs k)) ⟨kd, ga, gb, gn⟩ := ⟨_, rfl⟩
      have HRW := Lib.hid hRW
      have HEWS := Lib.hid (HEW.out RW hRW)
      clear hRW HEW
      go_cut [13, 14, 15, 16, 18] from 27 to 182 (fun vw at_ kk i l wx => ∃ (vss2 : List Value) (gl cl : Nat), vw = vw' ∧ i = .int .i64 k ∧ at_ = .int .i64 (dat n t gs (k + 1)) ∧ kk = .int .i64 (cin gs (k + 1)) ∧ l = .slice (some ⟨gl, 0, none⟩) n cl ∧ Pl w wx gS n vw' vws vss2 (WS.map ofFs) (rowsN n fun q => ofFs (es n t gs I D (k + 1) q)) ∧ OwnNums wx w.heap.size (.slice (some ⟨gl, 0, none⟩) n cl) (ofFs RW) ∧ FarAll (.slice (some ⟨gl, 0, none⟩) n cl) vss2 ∧ FarAll (.slice (some ⟨gl, 0, none⟩) n cl) vws ∧ Box wx w.heap.size 25 [.slice (some ⟨b1', o1, none⟩) gs.length c1, .slice A2 os.length c2])
      case first =>
        by_cases hk1 : kd = 1
        · subst hk1
          have HZC := Lib.hid (show cin gs k < ins.length by rw [HLI.out]; exact cin_lt HGK.out rfl)
          have hcl := HZC.out
          obtain ⟨A, c, hA, _, _, _, hu, hr⟩ := KI.out.below ST2.out.bel
          injection hA with hA1 hA2 hA3
          subst hA1 hA3
          obtain ⟨b3, o3, z, rfl, hb3, hgz, hz64, hcz⟩ := nums_at hr hu (k := cin gs k) HZC.out
          have HZ := Lib.hid (co_toFs hgz)
          have HZ64 := Lib.hid hz64
          have hroom : dat n t gs k + t ≤ ds.length := by have := HDR.out; rw [HLD.out]; simpa [gdraw] using this
          have e2 : ((dat n t gs k : Nat) : Int) + (t : Int) = ((dat n t gs k + t : Nat) : Int) := by simp
          have hsl := slice_run A4 ds.length c4 (dat n t gs k) (dat n t gs k + t) _ _ rfl e2 (by omega) (by omega)
          have hcut := (KD.out.below ST2.out.bel).cut (dat n t gs k) (dat n t gs k + t) (by omega) hroom
          rw [show dat n t gs k + t - dat n t gs k = t by omega] at hsl hcut
          obtain ⟨vc, hvc⟩ : ∃ vc, vc = Value.slice (if c4 = dat n t gs k then A4 else A4.map (·.add (dat n t gs k * 1))) t (c4 - dat n t gs k) := ⟨_, rfl⟩
          rw [← hvc] at hsl hcut
          have hw := IntWalk.i64_in (((dat n t gs k : Nat) : Int) + (t : Int)) (by omega)
          have hdt0 : (0 : Int) ≤ ((dat n t gs k : Nat) : Int) := by omega
          have HCL := Lib.hid (show ((ds.drop (dat n t gs k)).take t).length = t by simp; omega)
          have BD1 := Lib.hid (below_drewN (Below.refl w2.heap.size w2) 1)
          have HCUT1 := Lib.hid (hcut.below BD1.out)
          obtain ⟨R, hR⟩ : ∃ R, R = deal n (co I (cin gs k) :: (D.drop (dat n t gs k)).take t) := ⟨_, rfl⟩
          have HRD := Lib.hid (show ofFs (deal n (toFs (z :: (ds.drop (dat n t gs k)).take t))) = ofFs R by
            rw [hR, HI.out, HZ.out, HD.out, ← toFs_drop, ← toFs_take]; rfl)
          have HWR := Lib.hid (show ewire n t WS (co I (cin gs k)) (D.drop (dat n t gs k)) ⟨1, ga, gb, gn⟩ = R by rw [hR]; rfl)
          obtain ⟨s', hs'⟩ : ∃ s', s' = fun q => s q ++ [ofF (co R q)] := ⟨_, rfl⟩
          have HSE := Lib.hid hs'
          have HESS := Lib.hid (HES.out s' (fun q hq => by rw [hs', hR]; rfl))
          have HRL := Lib.hid (show R.length = n by rw [hR, deal_length])
          have hk0 := BG2.out.cell (i := 0) rfl
          clear hu hr hgz hz64 hA2 hcut hvc hs' hR e2
          go_wp2_with fail
          go_region_held3 (fun w' => w'.cell? ⟨b3, o3 + cin gs k, none⟩ = some (.int .u64 z)) (go_keep) (first | (go_at_call 41; refine (rDealt_any _ _ _ n _ HZ64.out HCUT1.out (by rw [HCL.out]; omega) hn9).mono ?_; rintro e w6 ⟨vl, rfl, ho6, hb6⟩; have q0 := (hb6.cell (p := ⟨b3, o3 + cin gs k, none⟩) hb3).trans hcz))
          have hb7 : Below w2.heap.size w2 w6 := below_trans BD1.out hb6 BD1.out.size
          rw [HRD.out] at ho6
          have ST6 := Lib.hid (ST2.out.below hb7)
          have BX6 := Lib.hid (BX2.out.below hb7)
          have FA6 := Lib.hid (FarAll.fresh ST2.out.seen ho6.over)
          have FW5 := Lib.hid (FarAll.fresh ST2.out.wires ho6.over)
          have KL6 := Lib.hid (ho6.less (base' := w.heap.size) hs2)
          obtain ⟨gl, cl, hvl, _, _⟩ := own_slice ho6.1 (by rw [ofFs_length, HRL.out]; omega)
          rw [ofFs_length, HRL.out] at hvl
          have hds := HDS1.out (by first | rfl | trivial)
          have HDS := Lib.hid hds
          clear ho6 hb6 hb7 q0 hcz hk0 hsl BD1 HCUT1 hds hroom hcl hw hdt0
          subst hvl
          go_wp2_with fail
          go_loopw [19] (fun x wr => ∃ (j : Nat) (vss' : List Value), j ≤ n ∧ x = .int .i64 j ∧ Pl w wr gS n vw' vws vss' (WS.map ofFs) (rowsN n (mixR s' s j)) ∧ OwnNums wr w.heap.size (.slice (some ⟨gl, 0, none⟩) n cl) (ofFs R) ∧ FarAll (.slice (some ⟨gl, 0, none⟩) n cl) vss' ∧ Box wr w.heap.size 25 [.slice (some ⟨b1', o1, none⟩) gs.length c1, .slice A2 os.length c2]) (fun x _ => n - (intOf x).toNat)
          case atStart => exact ⟨0, vss, Nat.zero_le _, rfl, by rw [mixR_zero]; exact ST6.out, KL6.out, FA6.out, BX6.out⟩
          case round =>
            obtain ⟨j, vss', hj, rfl, hst, hown, hfar, hbx⟩ := hrel
            have ST3 := Lib.hid hst
            have KO := Lib.hid hown
            have FA := Lib.hid hfar
            have BX3 := Lib.hid hbx
            clear hst hown hfar hbx ST6 KL6 FA6 BX6
            by_cases hlt : j < n
            · have hdj : decide ((j : Int) < (n : Int)) = true := by simp; omega
              have hcl := KO.out.cell (ofFs_get (get_co (l := R) (j := j) (by rw [HRL.out]; exact hlt)))
              obtain ⟨y, hy⟩ : ∃ y, vss'[j]? = some y := ⟨_, List.getElem?_eq_getElem (by rw [ST3.out.seen.vlen, rowsN_length]; exact hlt)⟩
              have hcg := ST3.out.seen.cell hy
              have hrj : (rowsN n (mixR s' s j))[j]? = some (s j) := by rw [rowsN_get _ hlt, mixR_at]
              have hrow := ST3.out.seen.row j y _ hy hrj
              have HY := Lib.hid hy
              have HRJ := Lib.hid hrj
              have HROW := Lib.hid hrow
              have hsl1 := HS.out j hlt
              have hB : w.heap.size ≤ ((wr.drewN 1).alloc (.cells #[.int .u64 (ofF (co R j))] 39)).heap.size := by rw [size_alloc]; exact Nat.le_succ_of_le ST3.out.bel.size
              have hgb : gS < wr.heap.size := (ST3.out.seen.outer.lt gS rfl).2
              have HPUSH := Lib.hid (show ∀ (bb cap : Nat) (w7 : World), OwnNums w7 w.heap.size (.slice (some ⟨bb, 0, none⟩) ((s j).length + 1) cap) (s j ++ [ofF (co R j)]) → ((wr.drewN 1).alloc (.cells #[.int .u64 (ofF (co R j))] 39)).grownBy w7 y.ownBlock → ((Value.slice (some ⟨bb, 0, none⟩) ((s j).length + 1) cap).ownBlock = y.ownBlock ∨ (Value.slice (some ⟨bb, 0, none⟩) ((s j).length + 1) cap).ownBlock = some ((wr.drewN 1).alloc (.cells #[.int .u64 (ofF (co R j))] 39)).heap.size) →
                  w7.cell? ⟨gS, j, none⟩ = some y ∧ w7.frozen? ⟨gS, j, none⟩ = false ∧ Pl w (w7.setCell ⟨gS, j, none⟩ (.slice (some ⟨bb, 0, none⟩) ((s j).length + 1) cap)) gS n vw' vws (vss'.set j (.slice (some ⟨bb, 0, none⟩) ((s j).length + 1) cap)) (WS.map ofFs) (rowsN n (mixR s' s (j + 1))) ∧ Keeps gS wr (w7.setCell ⟨gS, j, none⟩ (.slice (some ⟨bb, 0, none⟩) ((s j).length + 1) cap)) vss' (vss'.set j (.slice (some ⟨bb, 0, none⟩) ((s j).length + 1) cap)) from fun bb cap w7 ho hg hat => by
                have hb1 : Below wr.heap.size wr ((wr.drewN 1).alloc (.cells #[.int .u64 (ofF (co R j))] 39)) := (below_drewN (Below.refl _ _) 1).alloc (Nat.le_refl _) _
                obtain ⟨k1, k2, k3, k4⟩ := (ST3.out.below hb1).push HY.out HRJ.out ho hg hat gS
                have hk3 : (rowsN n (mixR s' s j)).set j (s j ++ [ofF (co R j)]) = rowsN n (mixR s' s (j + 1)) := by
                  have h := mixR_set s' s hlt
                  rw [show s' j = s j ++ [ofF (co R j)] by rw [HSE.out]] at h
                  exact h
                rw [hk3] at k3
                exact ⟨k1, k2, k3, (Keeps.of_below (s := vss') hb1).trans k4⟩)
              clear hy hrj hrow
              go_wp2_with fail
              go_region_law ((refine step_push_lies rfl _ _ (by rfl) w.heap.size y (s j) (ofF (co R j)) _ 1 (by rfl) ((HROW.out.drewN 1).alloc _) (by rfl) (new_cell _ _ _) (U64.of_ofF _) (by omega) hB ?_; intro bb cap w7 ho7 hg7 hat7; obtain ⟨hk7, hf7, ST7, KP7⟩ := HPUSH.out bb cap w7 ho7 hg7 hat7))
              all_goals
                have KO8 := Lib.hid (KP7.own _ _ _ KO.out FA.out)
                have BX8 := Lib.hid (KP7.box w.heap.size _ _ (by omega) (by decide) (by decide) BX3.out)
                have ST8 := Lib.hid ST7
                clear hk7 hf7 ST7 KP7 ho7 hg7 hat7 hcl hcg
                go_wp2_with fail
                exact ⟨⟨j + 1, vss'.set j (.slice (some ⟨bb, 0, none⟩) ((s j).length + 1) cap), by omega, by go_num, ST8.out, KO8.out.1, KO8.out.2, BX8.out⟩, by simp [intOf] <;> omega⟩
            · obtain rfl : n = j := by omega
              rw [mixR_all] at ST3
              have hdj : decide ((n : Int) < (n : Int)) = false := by simp
              have ST5 := Lib.hid ST3.out
              have BX5 := Lib.hid BX3.out
              have KL5 := Lib.hid KO.out
              have FA5 := Lib.hid FA.out
              clear ST3 BX3 KO FA
              rw [HESS.out] at ST5
              go_wp2_with fail
              go_meet
              case rel => exact ⟨_, _, _, rfl, rfl, by rw [HDS.out]; rfl, by rw [HCS.out]; simp, rfl, ST5.out, by rw [HRW.out, HWR.out]; exact KL5.out, FA5.out, FW5.out, BX5.out⟩
        · by_cases hk2 : kd = 2
          · subst hk2
            clear hk1
            obtain ⟨x, hx⟩ : ∃ x, x = toF gn := ⟨_, rfl⟩
            have HX := Lib.hid hx
            have HUN := Lib.hid HGO.out.2.2.2
            obtain ⟨R, hR⟩ : ∃ R, R = List.replicate n x := ⟨_, rfl⟩
            have HR := Lib.hid hR
            have HWR := Lib.hid (show ewire n t WS (co I (cin gs k)) (D.drop (dat n t gs k)) ⟨2, ga, gb, gn⟩ = R by rw [hR, hx]; rfl)
            have HESS := Lib.hid (HES.out s (fun q hq => (List.append_nil _).symm))
            have hk0 := BG2.out.cell (i := 0) rfl
            clear hx hR
            go_wp2_with fail
            go_loopw [18, 20] (fun v i wr => ∃ j : Nat, j ≤ n ∧ i = .int .i64 j ∧ OwnNums wr w2.heap.size v (ofFs (List.replicate j x)) ∧ Below w2.heap.size w2 wr) (fun _ i _ => n - (intOf i).toNat)
            case atStart => exact ⟨0, Nat.zero_le _, rfl, OwnNums.nil _ _, Below.refl _ _⟩
            case round =>
              obtain ⟨j, hj, rfl, hown, hbel⟩ := hrel
              have KO := Lib.hid hown
              have BEL := Lib.hid hbel
              have hszw := hbel.size
              have BG3 := Lib.hid (BG2.out.below hbel)
              have hk3 := BG3.out.cell (i := 3) rfl
              clear hown hbel hk0
              by_cases hlt : j < n
              · have hdj : decide ((j : Int) < (n : Int)) = true := by simp; omega
                have HNX := Lib.hid (const_next j x)
                have HJL := Lib.hid (show (ofFs (List.replicate j x)).length = j by rw [ofFs_length, List.length_replicate])
                go_wp2_with fail
                refine (rNorm_any _ _ HUN.out).mono ?_
                rintro e w' ⟨rfl, rfl⟩
                rw [← HX.out]
                clear hk3
                try dsimp only
                go_wp2_with (at_builtin; go_loud (refine wpList_push rfl _ _ rfl w2.heap.size _ _ (ofF x) wr.heap.size 1 rfl (KO.out.alloc _) rfl (new_cell _ _ _) (U64.of_ofF _) (by rw [HJL.out]; omega) (by rw [size_alloc]; omega) ?_))
                intro v' w5 hown' hbel'
                rw [← HNX.out] at hown'
                have K5 := Lib.hid hown'
                have B5 := Lib.hid ((BEL.out.alloc hszw (.cells #[.int .u64 (ofF x)] 39)).trans hbel')
                clear hown' hbel'
                go_wp2_with fail
                exact ⟨⟨j + 1, by omega, by go_num, K5.out, B5.out⟩, by simp [intOf] <;> omega⟩
              · obtain rfl : n = j := by omega
                have hdj : decide ((n : Int) < (n : Int)) = false := by simp
                have ho6 := KO.out
                rw [← HR.out] at ho6
                have ST5 := Lib.hid (ST2.out.below BEL.out)
                have BX5 := Lib.hid (BX2.out.below BEL.out)
                have FA5 := Lib.hid (FarAll.fresh ST2.out.seen ho6.over)
                have FW5 := Lib.hid (FarAll.fresh ST2.out.wires ho6.over)
                have KL5 := Lib.hid (ho6.less (base' := w.heap.size) hs2)
                have HRL := Lib.hid (show (ofFs R).length = n by rw [HR.out, ofFs_length, List.length_replicate])
                obtain ⟨gl, cl, hvl, _, _⟩ := own_slice ho6.1 (by rw [HRL.out]; omega)
                rw [HRL.out] at hvl
                subst hvl
                clear ho6 KO
                rw [HESS.out] at ST5
                go_wp2_with fail
                go_meet
                case rel => exact ⟨_, _, _, rfl, rfl, by rw [HDS0.out (by first | decide | simp) (by first | decide | simp)], by rw [HCS.out]; simp, rfl, ST5.out, by rw [HRW.out, HWR.out]; exact KL5.out, FA5.out, FW5.out, BX5.out⟩
          · by_cases hk3 : kd = 3
            · subst hk3
              clear hk1 hk2
              obtain ⟨a, b, ha, hb, haj, hbj⟩ : ∃ a b : Nat, ga = (a : Int) ∧ gb = (b : Int) ∧ a < k ∧ b < k := by
                simp [gRight, aheadB] at hright
                exact ⟨ga.toNat, gb.toNat, by omega, by omega, by omega, by omega⟩
              subst ha hb
              obtain ⟨gw, cw', hvw, _, _⟩ := own_slice ST2.out.wires.outer (by rw [HWL.out]; omega)
              rw [HWL.out] at hvw
              subst hvw
              obtain ⟨xa, hxa, hoxa, hfxa⟩ := ST2.out.wireAt (a := a) (by have := HWL.out; rw [List.length_map] at this; omega)
              have hcxa := ST2.out.wires.cell hxa
              have KXa := Lib.hid (hoxa.is.below (below_drewN (Below.refl w2.heap.size w2) 1))
              have HXLa := Lib.hid (show (Croft.wr WS a).length = n from HLENS.out _ (List.mem_of_getElem? (Croft.wr_get (by have := HWL.out; rw [List.length_map] at this; omega))))
              have hgwa := (ST2.out.wires.outer.lt gw rfl).2
              clear hxa hoxa hfxa
              obtain ⟨xb, hxb, hoxb, hfxb⟩ := ST2.out.wireAt (a := b) (by have := HWL.out; rw [List.length_map] at this; omega)
              have hcxb := ST2.out.wires.cell hxb
              have KXb := Lib.hid (hoxb.is.below (below_drewN (Below.refl w2.heap.size w2) 1))
              have HXLb := Lib.hid (show (Croft.wr WS b).length = n from HLENS.out _ (List.mem_of_getElem? (Croft.wr_get (by have := HWL.out; rw [List.length_map] at this; omega))))
              have hgwb := (ST2.out.wires.outer.lt gw rfl).2
              clear hxb hoxb hfxb
              obtain ⟨R, hR⟩ : ∃ R, R = List.zipWith (· + ·) (Croft.wr WS a) (Croft.wr WS b) := ⟨_, rfl⟩
              have HRD := Lib.hid (show mixedL (ofFs (Croft.wr WS a)) (ofFs (Croft.wr WS b)) 1 1 0 = ofFs R by rw [hR, mixed_one])
              have HRL := Lib.hid (show R.length = n by rw [hR, List.length_zipWith, HXLa.out, HXLb.out]; exact Nat.min_self n)
              have HWR := Lib.hid (show ewire n t WS (co I (cin gs k)) (D.drop (dat n t gs k)) ⟨3, a, b, gn⟩ = R by rw [hR]; rfl)
              have HESS := Lib.hid (HES.out s (fun q hq => (List.append_nil _).symm))
              have hk0 := BG2.out.cell (i := 0) rfl
              have hk1' := BG2.out.cell (i := 1) rfl
              have hk2' := BG2.out.cell (i := 2) rfl
              have HUN := Lib.hid HGO.out.2.2.2
              have hbg2 := BG2.out.lt
              clear hR
              go_wp2_with fail
              go_region_held3 (fun w' => w'.cell? ⟨cb, 1, none⟩ = some (.int .i64 (a : Int)) ∧ w'.cell? ⟨cb, 2, none⟩ = some (.int .i64 (b : Int)) ∧ w'.cell? ⟨gw, a, none⟩ = some xa ∧ w'.cell? ⟨gw, b, none⟩ = some xb) (go_keep) (first | (go_at_call 43; refine (rMixed_any xa xb (ofFs (Croft.wr WS a)) (ofFs (Croft.wr WS b)) 1 1 0 _ KXa.out KXb.out (by rw [ofFs_length, ofFs_length, HXLa.out, HXLb.out]; exact Nat.le_refl _) ⟨by omega, by omega⟩ ⟨by omega, by omega⟩ ⟨by omega, by omega⟩).mono ?_; rintro e w6 ⟨vl, rfl, ho6, hb6⟩; have q1 := ((BG2.out.drewN 1).below hb6).cell (i := 1) rfl; have q2 := ((BG2.out.drewN 1).below hb6).cell (i := 2) rfl; have q3 := (hb6.cell (p := ⟨gw, a, none⟩) hgwa).trans hcxa; have q4 := (hb6.cell (p := ⟨gw, b, none⟩) hgwa).trans hcxb))
              have hb7 : Below w2.heap.size w2 w6 := below_trans (below_drewN (Below.refl w2.heap.size w2) 1) hb6 (by show w2.heap.size ≤ w2.heap.size; omega)
              rw [HRD.out] at ho6
              have ST5 := Lib.hid (ST2.out.below hb7)
              have BX5 := Lib.hid (BX2.out.below hb7)
              have FA5 := Lib.hid (FarAll.fresh ST2.out.seen ho6.over)
              have FW5 := Lib.hid (FarAll.fresh ST2.out.wires ho6.over)
              have KL5 := Lib.hid (ho6.less (base' := w.heap.size) hs2)
              obtain ⟨gl, cl, hvl, _, _⟩ := own_slice ho6.1 (by rw [ofFs_length, HRL.out]; omega)
              rw [ofFs_length, HRL.out] at hvl
              subst hvl
              clear ho6 hb6 hb7 q1 q2 q3 q4 hk0 hk1' hk2' hcxa hcxb
              rw [HESS.out] at ST5
              go_wp2_with fail
              go_meet
              case rel => exact ⟨_, _, _, rfl, rfl, by rw [HDS0.out (by first | decide | simp) (by first | decide | simp)], by rw [HCS.out]; simp, rfl, ST5.out, by rw [HRW.out, HWR.out]; exact KL5.out, FA5.out, FW5.out, BX5.out⟩
            · by_cases hk4 : kd = 4
              · subst hk4
                clear hk1 hk2 hk3
                obtain ⟨a, b, ha, hb, haj, hbj⟩ : ∃ a b : Nat, ga = (a : Int) ∧ gb = (b : Int) ∧ a < k ∧ b < k := by
                  simp [gRight, aheadB] at hright
                  exact ⟨ga.toNat, gb.toNat, by omega, by omega, by omega, by omega⟩
                subst ha hb
                obtain ⟨gw, cw', hvw, _, _⟩ := own_slice ST2.out.wires.outer (by rw [HWL.out]; omega)
                rw [HWL.out] at hvw
                subst hvw
                obtain ⟨xa, hxa, hoxa, hfxa⟩ := ST2.out.wireAt (a := a) (by have := HWL.out; rw [List.length_map] at this; omega)
                have hcxa := ST2.out.wires.cell hxa
                have KXa := Lib.hid (hoxa.is.below (below_drewN (Below.refl w2.heap.size w2) 1))
                have HXLa := Lib.hid (show (Croft.wr WS a).length = n from HLENS.out _ (List.mem_of_getElem? (Croft.wr_get (by have := HWL.out; rw [List.length_map] at this; omega))))
                have hgwa := (ST2.out.wires.outer.lt gw rfl).2
                clear hxa hoxa hfxa
                obtain ⟨xb, hxb, hoxb, hfxb⟩ := ST2.out.wireAt (a := b) (by have := HWL.out; rw [List.length_map] at this; omega)
                have hcxb := ST2.out.wires.cell hxb
                have KXb := Lib.hid (hoxb.is.below (below_drewN (Below.refl w2.heap.size w2) 1))
                have HXLb := Lib.hid (show (Croft.wr WS b).length = n from HLENS.out _ (List.mem_of_getElem? (Croft.wr_get (by have := HWL.out; rw [List.length_map] at this; omega))))
                have hgwb := (ST2.out.wires.outer.lt gw rfl).2
                clear hxb hoxb hfxb
                obtain ⟨R, hR⟩ : ∃ R, R = List.zipWith (· - ·) (Croft.wr WS a) (Croft.wr WS b) := ⟨_, rfl⟩
                have HRD := Lib.hid (show mixedL (ofFs (Croft.wr WS a)) (ofFs (Croft.wr WS b)) 1 2147483646 0 = ofFs R by rw [hR, mixed_sub])
                have HRL := Lib.hid (show R.length = n by rw [hR, List.length_zipWith, HXLa.out, HXLb.out]; exact Nat.min_self n)
                have HWR := Lib.hid (show ewire n t WS (co I (cin gs k)) (D.drop (dat n t gs k)) ⟨4, a, b, gn⟩ = R by rw [hR]; rfl)
                have HESS := Lib.hid (HES.out s (fun q hq => (List.append_nil _).symm))
                have hk0 := BG2.out.cell (i := 0) rfl
                have hk1' := BG2.out.cell (i := 1) rfl
                have hk2' := BG2.out.cell (i := 2) rfl
                have HUN := Lib.hid HGO.out.2.2.2
                have hbg2 := BG2.out.lt
                clear hR
                go_wp2_with fail
                go_region_held3 (fun w' => w'.cell? ⟨cb, 1, none⟩ = some (.int .i64 (a : Int)) ∧ w'.cell? ⟨cb, 2, none⟩ = some (.int .i64 (b : Int)) ∧ w'.cell? ⟨gw, a, none⟩ = some xa ∧ w'.cell? ⟨gw, b, none⟩ = some xb) (go_keep) (first | (go_at_call 43; refine (rMixed_any xa xb (ofFs (Croft.wr WS a)) (ofFs (Croft.wr WS b)) 1 2147483646 0 _ KXa.out KXb.out (by rw [ofFs_length, ofFs_length, HXLa.out, HXLb.out]; exact Nat.le_refl _) ⟨by omega, by omega⟩ ⟨by omega, by omega⟩ ⟨by omega, by omega⟩).mono ?_; rintro e w6 ⟨vl, rfl, ho6, hb6⟩; have q1 := ((BG2.out.drewN 1).below hb6).cell (i := 1) rfl; have q2 := ((BG2.out.drewN 1).below hb6).cell (i := 2) rfl; have q3 := (hb6.cell (p := ⟨gw, a, none⟩) hgwa).trans hcxa; have q4 := (hb6.cell (p := ⟨gw, b, none⟩) hgwa).trans hcxb))
                have hb7 : Below w2.heap.size w2 w6 := below_trans (below_drewN (Below.refl w2.heap.size w2) 1) hb6 (by show w2.heap.size ≤ w2.heap.size; omega)
                rw [HRD.out] at ho6
                have ST5 := Lib.hid (ST2.out.below hb7)
                have BX5 := Lib.hid (BX2.out.below hb7)
                have FA5 := Lib.hid (FarAll.fresh ST2.out.seen ho6.over)
                have FW5 := Lib.hid (FarAll.fresh ST2.out.wires ho6.over)
                have KL5 := Lib.hid (ho6.less (base' := w.heap.size) hs2)
                obtain ⟨gl, cl, hvl, _, _⟩ := own_slice ho6.1 (by rw [ofFs_length, HRL.out]; omega)
                rw [ofFs_length, HRL.out] at hvl
                subst hvl
                clear ho6 hb6 hb7 q1 q2 q3 q4 hk0 hk1' hk2' hcxa hcxb
                rw [HESS.out] at ST5
                go_wp2_with fail
                go_meet
                case rel => exact ⟨_, _, _, rfl, rfl, by rw [HDS0.out (by first | decide | simp) (by first | decide | simp)], by rw [HCS.out]; simp, rfl, ST5.out, by rw [HRW.out, HWR.out]; exact KL5.out, FA5.out, FW5.out, BX5.out⟩
              · by_cases hk6 : kd = 6
                · subst hk6
                  clear hk1 hk2 hk3 hk4
                  obtain ⟨a, ha, haj⟩ : ∃ a : Nat, ga = (a : Int) ∧ a < k := by
                    simp [gRight, aheadB] at hright
                    exact ⟨ga.toNat, by omega, by omega⟩
                  subst ha
                  obtain ⟨gw, cw', hvw, _, _⟩ := own_slice ST2.out.wires.outer (by rw [HWL.out]; omega)
                  rw [HWL.out] at hvw
                  subst hvw
                  obtain ⟨xa, hxa, hoxa, hfxa⟩ := ST2.out.wireAt (a := a) (by have := HWL.out; rw [List.length_map] at this; omega)
                  have hcxa := ST2.out.wires.cell hxa
                  have KXa := Lib.hid (hoxa.is.below (below_drewN (Below.refl w2.heap.size w2) 1))
                  have HXLa := Lib.hid (show (Croft.wr WS a).length = n from HLENS.out _ (List.mem_of_getElem? (Croft.wr_get (by have := HWL.out; rw [List.length_map] at this; omega))))
                  have hgwa := (ST2.out.wires.outer.lt gw rfl).2
                  clear hxa hoxa hfxa
                  obtain ⟨R, hR⟩ : ∃ R, R = (Croft.wr WS a).map (· * toF gn) := ⟨_, rfl⟩
                  have HRD := Lib.hid (show mixedL (ofFs (Croft.wr WS a)) (ofFs (Croft.wr WS a)) gn 0 0 = ofFs R by rw [hR, mixed_scale])
                  have HRL := Lib.hid (show R.length = n by rw [hR, List.length_map, HXLa.out])
                  have HWR := Lib.hid (show ewire n t WS (co I (cin gs k)) (D.drop (dat n t gs k)) ⟨6, a, gb, gn⟩ = R by rw [hR]; rfl)
                  have HESS := Lib.hid (HES.out s (fun q hq => (List.append_nil _).symm))
                  have hk0 := BG2.out.cell (i := 0) rfl
                  have hk1' := BG2.out.cell (i := 1) rfl
                  have hk2' := BG2.out.cell (i := 3) rfl
                  have HUN := Lib.hid HGO.out.2.2.2
                  have hbg2 := BG2.out.lt
                  clear hR
                  go_wp2_with fail
                  go_region_held3 (fun w' => w'.cell? ⟨cb, 1, none⟩ = some (.int .i64 (a : Int)) ∧ w'.cell? ⟨cb, 3, none⟩ = some (.int .u64 gn) ∧ w'.cell? ⟨gw, a, none⟩ = some xa) (go_keep) (first | (go_at_call 43; refine (rMixed_any xa xa (ofFs (Croft.wr WS a)) (ofFs (Croft.wr WS a)) gn 0 0 _ KXa.out KXa.out (by exact Nat.le_refl _) HUN.out ⟨by omega, by omega⟩ ⟨by omega, by omega⟩).mono ?_; rintro e w6 ⟨vl, rfl, ho6, hb6⟩; have q1 := ((BG2.out.drewN 1).below hb6).cell (i := 1) rfl; have q2 := ((BG2.out.drewN 1).below hb6).cell (i := 3) rfl; have q3 := (hb6.cell (p := ⟨gw, a, none⟩) hgwa).trans hcxa))
                  have hb7 : Below w2.heap.size w2 w6 := below_trans (below_drewN (Below.refl w2.heap.size w2) 1) hb6 (by show w2.heap.size ≤ w2.heap.size; omega)
                  rw [HRD.out] at ho6
                  have ST5 := Lib.hid (ST2.out.below hb7)
                  have BX5 := Lib.hid (BX2.out.below hb7)
                  have FA5 := Lib.hid (FarAll.fresh ST2.out.seen ho6.over)
                  have FW5 := Lib.hid (FarAll.fresh ST2.out.wires ho6.over)
                  have KL5 := Lib.hid (ho6.less (base' := w.heap.size) hs2)
                  obtain ⟨gl, cl, hvl, _, _⟩ := own_slice ho6.1 (by rw [ofFs_length, HRL.out]; omega)
                  rw [ofFs_length, HRL.out] at hvl
                  subst hvl
                  clear ho6 hb6 hb7 q1 q2 q3  hk0 hk1' hk2' hcxa 
                  rw [HESS.out] at ST5
                  go_wp2_with fail
                  go_meet
                  case rel => exact ⟨_, _, _, rfl, rfl, by rw [HDS0.out (by first | decide | simp) (by first | decide | simp)], by rw [HCS.out]; simp, rfl, ST5.out, by rw [HRW.out, HWR.out]; exact KL5.out, FA5.out, FW5.out, BX5.out⟩
                · by_cases hk5 : kd = 5
                  · subst hk5
                    clear hk1 hk2 hk3 hk4 hk6
                    obtain ⟨a, b, ha, hb, haj, hbj⟩ : ∃ a b : Nat, ga = (a : Int) ∧ gb = (b : Int) ∧ a < k ∧ b < k := by
                      simp [gRight, aheadB] at hright
                      exact ⟨ga.toNat, gb.toNat, by omega, by omega, by omega, by omega⟩
                    subst ha hb
                    obtain ⟨gw, cw', hvw, _, _⟩ := own_slice ST2.out.wires.outer (by rw [HWL.out]; omega)
                    rw [HWL.out] at hvw
                    subst hvw
                    obtain ⟨xa, hxa, hoxa, hfxa⟩ := ST2.out.wireAt (a := a) (by have := HWL.out; rw [List.length_map] at this; omega)
                    have hcxa := ST2.out.wires.cell hxa
                    have KXa := Lib.hid (hoxa.is.below (below_drewN (Below.refl w2.heap.size w2) 1))
                    have HXLa := Lib.hid (show (Croft.wr WS a).length = n from HLENS.out _ (List.mem_of_getElem? (Croft.wr_get (by have := HWL.out; rw [List.length_map] at this; omega))))
                    have hgwa := (ST2.out.wires.outer.lt gw rfl).2
                    clear hxa hoxa hfxa
                    obtain ⟨xb, hxb, hoxb, hfxb⟩ := ST2.out.wireAt (a := b) (by have := HWL.out; rw [List.length_map] at this; omega)
                    have hcxb := ST2.out.wires.cell hxb
                    have KXb := Lib.hid (hoxb.is.below (below_drewN (Below.refl w2.heap.size w2) 1))
                    have HXLb := Lib.hid (show (Croft.wr WS b).length = n from HLENS.out _ (List.mem_of_getElem? (Croft.wr_get (by have := HWL.out; rw [List.length_map] at this; omega))))
                    have hgwb := (ST2.out.wires.outer.lt gw rfl).2
                    clear hxb hoxb hfxb
                    obtain ⟨M, hM⟩ : ∃ M : Nat, M = n * t := ⟨_, rfl⟩
                    have hMi : (n : Int) * (t : Int) = (M : Int) := by rw [hM, ← HNT.out]
                    have hM36 : M ≤ 36 := by rw [hM]; exact HNT2.out
                    have hroom : dat n t gs k + M ≤ ds.length := by have := HDR.out; rw [HLD.out, hM]; simpa [gdraw] using this
                    have e2 : ((dat n t gs k : Nat) : Int) + (n : Int) * (t : Int) = ((dat n t gs k + M : Nat) : Int) := by rw [hMi]; simp
                    have hsl := slice_run A4 ds.length c4 (dat n t gs k) (dat n t gs k + M) _ _ rfl e2 (by omega) (by omega)
                    have hcut := (KD.out.below ST2.out.bel).cut (dat n t gs k) (dat n t gs k + M) (by omega) hroom
                    rw [show dat n t gs k + M - dat n t gs k = M by omega] at hsl hcut
                    obtain ⟨vc, hvc⟩ : ∃ vc, vc = Value.slice (if c4 = dat n t gs k then A4 else A4.map (·.add (dat n t gs k * 1))) M (c4 - dat n t gs k) := ⟨_, rfl⟩
                    rw [← hvc] at hsl hcut
                    have hw1 : IntKind.i64.wrap ((n : Int) * (t : Int)) = (n : Int) * (t : Int) := IntWalk.i64_in _ (by omega)
                    have hw2 : IntKind.i64.wrap (((dat n t gs k : Nat) : Int) + (n : Int) * (t : Int)) = ((dat n t gs k : Nat) : Int) + (n : Int) * (t : Int) := IntWalk.i64_in _ (by omega)
                    have HCL := Lib.hid (show ((ds.drop (dat n t gs k)).take M).length = n * t by rw [← hM]; simp; omega)
                    have BD1 := Lib.hid (below_drewN (Below.refl w2.heap.size w2) 1)
                    have HCUT1 := Lib.hid (hcut.below BD1.out)
                    obtain ⟨R, hR⟩ : ∃ R, R = mulOut n t (Croft.wr WS a) (Croft.wr WS b) ((D.drop (dat n t gs k)).take (n * t)) := ⟨_, rfl⟩
                    obtain ⟨G, hG⟩ : ∃ G, G = gotM n t (Croft.wr WS a) (Croft.wr WS b) ((D.drop (dat n t gs k)).take (n * t)) := ⟨_, rfl⟩
                    have HRD := Lib.hid (show ofFs (mulOut n t (toFs (ofFs (Croft.wr WS a))) (toFs (ofFs (Croft.wr WS b))) (toFs ((ds.drop (dat n t gs k)).take M))) = ofFs R by
                      rw [hR, toFs_ofFs, toFs_ofFs, HD.out, toFs_take, toFs_drop, hM])
                    have HGD := Lib.hid (show (gotM n t (toFs (ofFs (Croft.wr WS a))) (toFs (ofFs (Croft.wr WS b))) (toFs ((ds.drop (dat n t gs k)).take M))).map ofFs = G.map ofFs by
                      rw [hG, toFs_ofFs, toFs_ofFs, HD.out, toFs_take, toFs_drop, hM])
                    have HGR := Lib.hid (show ∀ q, q < n → (G.map ofFs)[q]? = some (ofFs (G.getD q [])) ∧ (G.getD q []).length = n from fun q hq => by
                      rw [hG]
                      unfold gotM
                      simp [List.getD, hq])
                    have HGLN := Lib.hid (show (G.map ofFs).length = n by rw [hG]; simp [gotM])
                    have HWR := Lib.hid (show ewire n t WS (co I (cin gs k)) (D.drop (dat n t gs k)) ⟨5, a, b, gn⟩ = R by rw [hR]; rfl)
                    obtain ⟨s', hs'⟩ : ∃ s', s' = fun q => s q ++ ofFs (G.getD q []) := ⟨_, rfl⟩
                    have HSE := Lib.hid hs'
                    have HESS := Lib.hid (HES.out s' (fun q hq => by rw [hs', hG]; rfl))
                    have HRL := Lib.hid (show R.length = n by rw [hR]; simp [mulOut, gotM])
                    have hk0 := BG2.out.cell (i := 0) rfl
                    have hk1' := BG2.out.cell (i := 1) rfl
                    have hk2' := BG2.out.cell (i := 2) rfl
                    have hbg2 := BG2.out.lt
                    have HAT := Lib.hid (show ((dat n t gs k : Nat) : Int) + (n : Int) * (t : Int) = ((dat n t gs (k + 1) : Nat) : Int) by rw [HDS5.out (by first | rfl | trivial), e2, hM])
                    have hdall2 : dat n t gs k ≤ 1080 := by omega
                    clear hcut hvc hs' hR hG hM e2 hMi
                    go_wp2_with fail
                    go_region_held3 (fun w' => w'.cell? ⟨cb, 1, none⟩ = some (.int .i64 (a : Int)) ∧ w'.cell? ⟨cb, 2, none⟩ = some (.int .i64 (b : Int)) ∧ w'.cell? ⟨gw, a, none⟩ = some xa ∧ w'.cell? ⟨gw, b, none⟩ = some xb) (go_keep) (first | (go_at_call 44; refine (rTimes_ok n t xa xb vc _ _ _ _ KXa.out KXb.out HCUT1.out (by rw [ofFs_length, HXLa.out]) (by rw [ofFs_length, HXLb.out]) HCL.out ht4 (by omega) hn9).mono ?_; rintro e w6 ⟨vl, vg, vgs, rfl, ho6, hg6, hb6⟩; have q1 := ((BG2.out.drewN 1).below hb6).cell (i := 1) rfl; have q2 := ((BG2.out.drewN 1).below hb6).cell (i := 2) rfl; have q3 := (hb6.cell (p := ⟨gw, a, none⟩) hgwa).trans hcxa; have q4 := (hb6.cell (p := ⟨gw, b, none⟩) hgwa).trans hcxb))
                    have hb7 : Below w2.heap.size w2 w6 := below_trans BD1.out hb6 BD1.out.size
                    rw [HRD.out] at ho6
                    rw [HGD.out] at hg6
                    have ST6 := Lib.hid (ST2.out.below hb7)
                    have BX6 := Lib.hid (BX2.out.below hb7)
                    have FA6 := Lib.hid (FarAll.fresh ST2.out.seen ho6.over)
                    have FW5 := Lib.hid (FarAll.fresh ST2.out.wires ho6.over)
                    have KL6 := Lib.hid (ho6.less (base' := w.heap.size) hs2)
                    obtain ⟨gl, cl, hvl, _, _⟩ := own_slice ho6.1 (by rw [ofFs_length, HRL.out]; omega)
                    rw [ofFs_length, HRL.out] at hvl
                    obtain ⟨gg, cg, hvg, hgg1, hgg2⟩ := own_slice hg6.outer (by rw [HGLN.out]; omega)
                    rw [HGLN.out] at hvg
                    have hgn : gg ≠ gS := by
                      have h1 := (ST2.out.seen.outer.lt gS rfl).2
                      have h2 : w2.heap.size ≤ gg := hgg1
                      omega
                    have hout := hg6.outer
                    rw [HGLN.out] at hout
                    subst hvg
                    have KG6 := Lib.hid (show Got w6 (.slice (some ⟨gg, 0, none⟩) n cg) n vgs (G.map ofFs) vss from
                      ⟨ownsRow_zero hout, fun i x r hx hr => ⟨(hg6.row i x r hx hr).less (Nat.zero_le _), FarAll.fresh ST2.out.seen (hg6.row i x r hx hr).over⟩⟩)
                    have HGV := Lib.hid (show vgs.length = n by rw [hg6.vlen, HGLN.out])
                    clear ho6 hb6 hb7 hg6 hout q1 q2 q3 q4 hk0 hk1' hk2' hsl BD1 HCUT1 hroom hgg1 hgg2 hcxa hcxb hw2
                    subst hvl
                    go_wp2_with fail
                    go_loopw [22] (fun x wr => ∃ (j : Nat) (vss' : List Value), j ≤ n ∧ x = .int .i64 j ∧ Pl w wr gS n (.slice (some ⟨gw, 0, none⟩) k cw') vws vss' (WS.map ofFs) (rowsN n (mixR s' s j)) ∧ OwnNums wr w.heap.size (.slice (some ⟨gl, 0, none⟩) n cl) (ofFs R) ∧ FarAll (.slice (some ⟨gl, 0, none⟩) n cl) vss' ∧ Got wr (.slice (some ⟨gg, 0, none⟩) n cg) n vgs (G.map ofFs) vss' ∧ Box wr w.heap.size 25 [.slice (some ⟨b1', o1, none⟩) gs.length c1, .slice A2 os.length c2]) (fun x _ => n - (intOf x).toNat)
                    case atStart => exact ⟨0, vss, Nat.zero_le _, rfl, by rw [mixR_zero]; exact ST6.out, KL6.out, FA6.out, KG6.out, BX6.out⟩
                    case round =>
                      obtain ⟨j, vss', hj, rfl, hst, hown, hfar, hgot, hbx⟩ := hrel
                      have ST3 := Lib.hid hst
                      have KO := Lib.hid hown
                      have FA := Lib.hid hfar
                      have KGt := Lib.hid hgot
                      have BX3 := Lib.hid hbx
                      clear hst hown hfar hgot hbx ST6 KL6 FA6 KG6 BX6
                      by_cases hlt : j < n
                      · have hdj : decide ((j : Int) < (n : Int)) = true := by simp; omega
                        obtain ⟨hGj, hGl⟩ := HGR.out j hlt
                        obtain ⟨xg, hxg⟩ : ∃ xg, vgs[j]? = some xg := ⟨_, List.getElem?_eq_getElem (by rw [HGV.out]; exact hlt)⟩
                        have hrg := (KGt.out.row j xg _ hxg hGj).1
                        obtain ⟨gx, cx2, hvx, hgx1, hgx2⟩ := own_slice hrg.1 (by rw [ofFs_length, hGl]; omega)
                        rw [ofFs_length, hGl] at hvx
                        subst hvx
                        have hcg0 := KGt.out.outer.cellAt j (by omega)
                        rw [hxg] at hcg0
                        obtain ⟨y, hy⟩ : ∃ y, vss'[j]? = some y := ⟨_, List.getElem?_eq_getElem (by rw [ST3.out.seen.vlen, rowsN_length]; exact hlt)⟩
                        have hcg := ST3.out.seen.cell hy
                        have hrj : (rowsN n (mixR s' s j))[j]? = some (s j) := by rw [rowsN_get _ hlt, mixR_at]
                        have hrow := ST3.out.seen.row j y _ hy hrj
                        have HY := Lib.hid hy
                        have HRJ := Lib.hid hrj
                        have HROW := Lib.hid hrow
                        have HRG := Lib.hid hrg
                        have hsl1 := HS.out j hlt
                        have hB : w.heap.size ≤ wr.heap.size := ST3.out.bel.size
                        have hgb : gS < wr.heap.size := (ST3.out.seen.outer.lt gS rfl).2
                        have HPUSH := Lib.hid (show ∀ (bb cap : Nat) (w7 : World), OwnNums w7 w.heap.size (.slice (some ⟨bb, 0, none⟩) ((s j).length + n) cap) (s j ++ (ofFs (G.getD j []))) → (wr.drewN 1).grownBy w7 y.ownBlock → ((Value.slice (some ⟨bb, 0, none⟩) ((s j).length + n) cap).ownBlock = y.ownBlock ∨ (Value.slice (some ⟨bb, 0, none⟩) ((s j).length + n) cap).ownBlock = some (wr.drewN 1).heap.size) →
                            w7.cell? ⟨gS, j, none⟩ = some y ∧ w7.frozen? ⟨gS, j, none⟩ = false ∧ Pl w (w7.setCell ⟨gS, j, none⟩ (.slice (some ⟨bb, 0, none⟩) ((s j).length + n) cap)) gS n (.slice (some ⟨gw, 0, none⟩) k cw') vws (vss'.set j (.slice (some ⟨bb, 0, none⟩) ((s j).length + n) cap)) (WS.map ofFs) (rowsN n (mixR s' s (j + 1))) ∧ Keeps gS wr (w7.setCell ⟨gS, j, none⟩ (.slice (some ⟨bb, 0, none⟩) ((s j).length + n) cap)) vss' (vss'.set j (.slice (some ⟨bb, 0, none⟩) ((s j).length + n) cap)) ∧ Got (w7.setCell ⟨gS, j, none⟩ (.slice (some ⟨bb, 0, none⟩) ((s j).length + n) cap)) (.slice (some ⟨gg, 0, none⟩) n cg) n vgs (G.map ofFs) (vss'.set j (.slice (some ⟨bb, 0, none⟩) ((s j).length + n) cap)) from fun bb cap w7 ho hg hat => by
                          have hb1 : Below wr.heap.size wr (wr.drewN 1) := below_drewN (Below.refl _ _) 1
                          obtain ⟨k1, k2, k3, k4⟩ := (ST3.out.below hb1).push HY.out HRJ.out ho hg hat gS
                          have hk3 : (rowsN n (mixR s' s j)).set j (s j ++ (ofFs (G.getD j []))) = rowsN n (mixR s' s (j + 1)) := by
                            have h := mixR_set s' s hlt
                            rw [show s' j = s j ++ (ofFs (G.getD j [])) by rw [HSE.out]] at h
                            exact h
                          have kp := (Keeps.of_below (b := gS) (s := vss') hb1).trans k4
                          have ko := (ST3.out.below hb1).push_outer HY.out HRJ.out hg (own_kept KGt.out.outer hb1) (j := j) (y' := (.slice (some ⟨bb, 0, none⟩) ((s j).length + n) cap)) (fun e => hgn (Option.some.inj e))
                          rw [hk3] at k3
                          exact ⟨k1, k2, k3, kp, KGt.out.step kp ko⟩)
                        clear hy hrj hrow hrg hxg hGj hGl
                        go_wp2_with fail
                        go_region_law ((refine step_push_many rfl _ _ (by rfl) w.heap.size 0 y (s j) (ofFs (G.getD j [])) gx n cx2 (by rfl) (HROW.out.drewN 1) (by rfl) (HRG.out.drewN 1) (by omega) (by omega) hB ?_; intro bb cap w7 ho7 hg7 hat7; obtain ⟨hk7, hf7, ST7, KP7, KG7⟩ := HPUSH.out bb cap w7 ho7 hg7 hat7))
                        all_goals
                          have KO8 := Lib.hid (KP7.own _ _ _ KO.out FA.out)
                          have BX8 := Lib.hid (KP7.box w.heap.size _ _ (by omega) (by decide) (by decide) BX3.out)
                          have ST8 := Lib.hid ST7
                          have KG8 := Lib.hid KG7
                          clear hk7 hf7 ST7 KP7 KG7 ho7 hg7 hat7 hcg0 hcg
                          go_wp2_with fail
                          exact ⟨⟨j + 1, vss'.set j (.slice (some ⟨bb, 0, none⟩) ((s j).length + n) cap), by omega, by go_num, ST8.out, KO8.out.1, KO8.out.2, KG8.out, BX8.out⟩, by simp [intOf] <;> omega⟩
                      · obtain rfl : n = j := by omega
                        rw [mixR_all] at ST3
                        have hdj : decide ((n : Int) < (n : Int)) = false := by simp
                        have ST5 := Lib.hid ST3.out
                        have BX5 := Lib.hid BX3.out
                        have KL5 := Lib.hid KO.out
                        have FA5 := Lib.hid FA.out
                        clear ST3 BX3 KO FA
                        rw [HESS.out] at ST5
                        go_wp2_with fail
                        go_meet
                        case rel => exact ⟨_, _, _, rfl, rfl, by rw [← HAT.out], by rw [HCS.out]; simp, rfl, ST5.out, by rw [HRW.out, HWR.out]; exact KL5.out, FA5.out, FW5.out, BX5.out⟩
                  · exact absurd hright (by simp [gRight, hk1, hk2, hk3, hk4, hk5, hk6])
      case rest =>
        obtain ⟨vss2, gl, cl, rfl, rfl, rfl, rfl, rfl, hst2, hkl2, hfa2, hfw2, hbx2⟩ := hcut
        have ST5 := Lib.hid hst2
        have KL5 := Lib.hid hkl2
        have FA5 := Lib.hid hfa2
        have FW5 := Lib.hid hfw2
        have BX5 := Lib.hid hbx2
        clear hst2 hkl2 hfa2 hfw2 hbx2 ST2 BX2 BG2
        have hfar : ∀ (q : Nat) (z : Value) (b : Nat), vws[q]? = some z → z.ownBlock = some b → (Value.slice (some ⟨gl, 0, none⟩) n cl).ownBlock ≠ some b := fun q z b hz hb hv => FW5.out q z hz b hv hb
        go_wp2_with (at_builtin; go_loud (refine wpList_push_row4 rfl _ _ rfl w.heap.size _ vws _ (Value.slice (some ⟨gl, 0, none⟩) n cl) (ofFs RW) _ 1 rfl (ST5.out.wires.alloc _) rfl (new_cell _ _ _) (KL5.out.alloc _) hfar (by rw [HWL.out]; omega) (by rw [size_alloc]; have := ST5.out.bel.size; omega) ?_))
        intro v7 w7 hg7 hb7 hgr7 hat7
        have hpl := (ST5.out.below ((Below.refl _ _).alloc (Nat.le_refl _) (.cells #[Value.slice (some ⟨gl, 0, none⟩) n cl] 26))).wire hg7 hb7 hgr7 (by rw [size_alloc]; exact hat7) FA5.out gS
        have BX7 := Lib.hid (hpl.2.box w.heap.size _ _ (by omega) (by decide) (by decide) (BX5.out.alloc _))
        have ST7 := Lib.hid hpl.1
        rw [HEWS.out] at ST7
        clear hg7 hb7 hgr7 hat7 hpl hfar
        go_wp2_with fail
        go_roundw
        case rel =>
          first
            | exact ⟨k + 1, _, _, _, rfl, by omega, by go_num, rfl, rfl, ST7.out, BX7.out⟩
            | ((repeat apply Exists.intro); exact ⟨⟨k + 1, _, _, _, rfl, by omega, by go_num, rfl, rfl, ST7.out, BX7.out⟩, rfl⟩)
        case measure => simp [intOf] <;> omega
    · obtain rfl : k = gs.length := by omega
      obtain ⟨wq, hwq⟩ : ∃ wq, wq = wr := ⟨_, rfl⟩
      subst hwq
      have hg1 := OK.out.g1
      obtain ⟨gw, cw', hvw, _, _⟩ := own_slice ST.out.wires.outer (by rw [List.length_map, ew_length]; omega)
      rw [List.length_map, ew_length] at hvw
      subst hvw
      obtain ⟨WS, hWS⟩ : ∃ WS, WS = ew n t gs I D gs.length := ⟨_, rfl⟩
      have HWS := Lib.hid hWS
      have HWL := Lib.hid (show WS.length = gs.length by rw [hWS, ew_length])
      have HLENS := Lib.hid (show ∀ l ∈ WS, l.length = n by rw [hWS]; exact ew_lens OK.out.right hn2 (by omega) (Nat.le_refl _))
      have ST0 := Lib.hid (show Pl w wq gS n (.slice (some ⟨gw, 0, none⟩) gs.length cw') vws vss (WS.map ofFs) (rowsN n fun q => ofFs (eo n t gs os I D 0 q)) by rw [hWS]; exact ST.out)
      have hc1' := BX.out.cell (i := 1) rfl
      clear hWS ST
      go_wp2_with fail
      clear hc0 hc1'
      go_loopw [23] (fun i wr => ∃ (q : Nat) (vss' : List Value), q ≤ os.length ∧ i = .int .i64 q ∧ Pl w wr gS n (.slice (some ⟨gw, 0, none⟩) gs.length cw') vws vss' (WS.map ofFs) (rowsN n fun j => ofFs (eo n t gs os I D q j)) ∧ Box wr w.heap.size 25 [.slice A1 gs.length c1, .slice A2 os.length c2]) (fun i _ => os.length - (intOf i).toNat)
      case atStart => exact ⟨0, vss, Nat.zero_le _, rfl, ST0.out, BX.out⟩
      case round =>
        obtain ⟨q, vss1, hq, rfl, hst, hbx⟩ := hrel
        have ST1 := Lib.hid hst
        have BX1 := Lib.hid hbx
        have hc0 := hbx.cell (i := 0) rfl
        have hc1' := hbx.cell (i := 1) rfl
        clear hst hbx ST0 BX
        by_cases hltq : q < os.length
        · obtain ⟨A, c, hA, _, _, _, hu, hr⟩ := KO.out.below ST1.out.bel
          injection hA with hA1 hA2 hA3
          subst hA1 hA3
          clear hA2
          obtain ⟨b2, o2, z, rfl, hb2, hgz, hat, hcz⟩ := ints_at hr hu hltq
          obtain ⟨hz0, hz1⟩ := OK.out.outs z (List.mem_of_getElem? hgz)
          obtain ⟨m, rfl⟩ : ∃ m : Nat, z = m := ⟨z.toNat, by omega⟩
          have hml : m < gs.length := by omega
          obtain ⟨s, hs⟩ : ∃ s : Nat → List Int, s = fun j => ofFs (eo n t gs os I D q j) := ⟨_, rfl⟩
          obtain ⟨R, hR⟩ : ∃ R, R = Croft.wr WS m := ⟨_, rfl⟩
          have HRM := Lib.hid (show (WS.map ofFs)[m]? = some (ofFs R) by rw [List.getElem?_map, Croft.wr_get (by rw [HWL.out]; exact hml), hR]; rfl)
          have HRL := Lib.hid (show R.length = n by rw [hR]; exact HLENS.out _ (List.mem_of_getElem? (Croft.wr_get (by rw [HWL.out]; exact hml))))
          obtain ⟨s', hs'⟩ : ∃ s' : Nat → List Int, s' = fun j => s j ++ ofFs R := ⟨_, rfl⟩
          have HSE := Lib.hid hs'
          have HESS := Lib.hid (show rowsN n s' = rowsN n fun j => ofFs (eo n t gs os I D (q + 1) j) from rowsN_congr fun j hj => by
            rw [hs', hs, hR, HWS.out, eo_succ hgz, ofFs_append, Int.toNat_natCast])
          have HS := Lib.hid (show ∀ j, j < n → (s j).length ≤ 1000 from fun j hj => by
            rw [hs, ofFs_length]
            have e : ∀ p, p ≤ 30 → (eo n t gs os I D p j).length ≤ 270 + 9 * p := fun p => by
              induction p with
              | zero => intro _; rw [eo, es_length hj]; have := slen_le (gs := gs) hn9 gs.length; omega
              | succ p ih =>
                intro hp
                have h1 := ih (by omega)
                rw [eo, List.length_append]
                cases ho : os[p]? with
                | none => simp; omega
                | some o =>
                  have ho2 := OK.out.outs o (List.mem_of_getElem? ho)
                  have h2 : (Croft.wr (ew n t gs I D gs.length) o.toNat).length = n := by
                    rw [← HWS.out]
                    exact HLENS.out _ (List.mem_of_getElem? (Croft.wr_get (by rw [HWL.out]; omega)))
                  simp only [h2]
                  omega
            have := e q (by omega)
            omega)
          have ST2 := Lib.hid (show Pl w wr gS n _ vws vss1 (WS.map ofFs) (rowsN n s) by rw [hs]; exact ST1.out)
          obtain ⟨xm, hxm, hoxm, hfxm⟩ := ST2.out.wireAt (a := m) (by rw [HWL.out]; exact hml)
          rw [← hR] at hoxm
          obtain ⟨gx, cx2, hvx, _, _⟩ := own_slice hoxm.1 (by rw [ofFs_length, HRL.out]; omega)
          rw [ofFs_length, HRL.out] at hvx
          subst hvx
          have HXM := Lib.hid hxm
          have HGZ := Lib.hid hgz
          have KX0 := Lib.hid hoxm
          have FX0 := Lib.hid hfxm
          clear hr hu hgz hat hs hs' hR ST1 hxm hoxm hfxm
          go_wp2_with fail
          obtain ⟨wp, hwp⟩ : ∃ wp, wp = wr := ⟨_, rfl⟩
          subst hwp
          clear hc0 hc1' hcz
          go_loopw [24] (fun x wr => ∃ (j : Nat) (vss' : List Value), j ≤ n ∧ x = .int .i64 j ∧ Pl w wr gS n (.slice (some ⟨gw, 0, none⟩) gs.length cw') vws vss' (WS.map ofFs) (rowsN n (mixR s' s j)) ∧ Box wr w.heap.size 25 [.slice A1 gs.length c1, .slice (some ⟨b2, o2, none⟩) os.length c2]) (fun x _ => n - (intOf x).toNat)
          case atStart => exact ⟨0, vss1, Nat.zero_le _, rfl, by rw [mixR_zero]; exact ST2.out, BX1.out⟩
          case round =>
            obtain ⟨j, vss', hj, rfl, hst, hbx⟩ := hrel
            have ST3 := Lib.hid hst
            have BX3 := Lib.hid hbx
            have hcw1 := hbx.cell (i := 1) rfl
            clear hst hbx ST2 BX1 KX0 FX0
            by_cases hlt : j < n
            · have hdj : decide ((j : Int) < (n : Int)) = true := by simp; omega
              obtain ⟨A, c, hA, _, _, _, hu, hr⟩ := KO.out.below ST3.out.bel
              injection hA with hA1 hA2 hA3
              subst hA1 hA3
              clear hA2
              obtain ⟨b3, o3, z3, he3, hb3, hgz3, _, hcz3⟩ := ints_at hr hu hltq
              injection he3 with he3
              injection he3 with he4 he5
              subst he4 he5
              rw [HGZ.out] at hgz3
              obtain rfl := Option.some.inj hgz3
              have hcm := ST3.out.wires.cell HXM.out
              have hrm := ST3.out.wires.row m _ _ HXM.out HRM.out
              have HRMR := Lib.hid hrm
              obtain ⟨y, hy⟩ : ∃ y, vss'[j]? = some y := ⟨_, List.getElem?_eq_getElem (by rw [ST3.out.seen.vlen, rowsN_length]; exact hlt)⟩
              have hcg := ST3.out.seen.cell hy
              have hrj : (rowsN n (mixR s' s j))[j]? = some (s j) := by rw [rowsN_get _ hlt, mixR_at]
              have hrow := ST3.out.seen.row j y _ hy hrj
              have HY := Lib.hid hy
              have HRJ := Lib.hid hrj
              have HROW := Lib.hid hrow
              have hsl1 := HS.out j hlt
              have hB : w.heap.size ≤ wr.heap.size := ST3.out.bel.size
              have hgb : gS < wr.heap.size := (ST3.out.seen.outer.lt gS rfl).2
              have HPUSH := Lib.hid (show ∀ (bb cap : Nat) (w7 : World), OwnNums w7 w.heap.size (.slice (some ⟨bb, 0, none⟩) ((s j).length + n) cap) (s j ++ ofFs R) → (wr.drewN 1).grownBy w7 y.ownBlock → ((Value.slice (some ⟨bb, 0, none⟩) ((s j).length + n) cap).ownBlock = y.ownBlock ∨ (Value.slice (some ⟨bb, 0, none⟩) ((s j).length + n) cap).ownBlock = some (wr.drewN 1).heap.size) →
                  w7.cell? ⟨gS, j, none⟩ = some y ∧ w7.frozen? ⟨gS, j, none⟩ = false ∧ Pl w (w7.setCell ⟨gS, j, none⟩ (.slice (some ⟨bb, 0, none⟩) ((s j).length + n) cap)) gS n (.slice (some ⟨gw, 0, none⟩) gs.length cw') vws (vss'.set j (.slice (some ⟨bb, 0, none⟩) ((s j).length + n) cap)) (WS.map ofFs) (rowsN n (mixR s' s (j + 1))) ∧ Keeps gS wr (w7.setCell ⟨gS, j, none⟩ (.slice (some ⟨bb, 0, none⟩) ((s j).length + n) cap)) vss' (vss'.set j (.slice (some ⟨bb, 0, none⟩) ((s j).length + n) cap)) from fun bb cap w7 ho hg hat => by
                have hb1 : Below wr.heap.size wr (wr.drewN 1) := below_drewN (Below.refl _ _) 1
                obtain ⟨k1, k2, k3, k4⟩ := (ST3.out.below hb1).push HY.out HRJ.out ho hg hat gS
                have hk3 : (rowsN n (mixR s' s j)).set j (s j ++ ofFs R) = rowsN n (mixR s' s (j + 1)) := by
                  have h := mixR_set s' s hlt
                  rw [show s' j = s j ++ ofFs R by rw [HSE.out]] at h
                  exact h
                rw [hk3] at k3
                exact ⟨k1, k2, k3, (Keeps.of_below (b := gS) (s := vss') hb1).trans k4⟩)
              clear hy hrj hrow hrm hr hu hgz3 hb3
              go_wp2_with fail
              go_region_law ((refine step_push_many rfl _ _ (by rfl) w.heap.size w.heap.size y (s j) (ofFs R) gx n cx2 (by rfl) (HROW.out.drewN 1) (by rfl) (HRMR.out.drewN 1) (by omega) (by omega) hB ?_; intro bb cap w7 ho7 hg7 hat7; obtain ⟨hk7, hf7, ST7, KP7⟩ := HPUSH.out bb cap w7 ho7 hg7 hat7))
              all_goals
                have BX8 := Lib.hid (KP7.box w.heap.size _ _ (by omega) (by decide) (by decide) BX3.out)
                have ST8 := Lib.hid ST7
                clear hk7 hf7 ST7 KP7 ho7 hg7 hat7 hcg hcm hcz3 hcw1
                go_wp2_with fail
                exact ⟨⟨j + 1, vss'.set j (.slice (some ⟨bb, 0, none⟩) ((s j).length + n) cap), by omega, by go_num, ST8.out, BX8.out⟩, by simp [intOf] <;> omega⟩
            · obtain rfl : n = j := by omega
              rw [mixR_all, HESS.out] at ST3
              have hdj : decide ((n : Int) < (n : Int)) = false := by simp
              go_wp2_with fail
              exact ⟨⟨q + 1, vss', by omega, by go_num, ST3.out, BX3.out⟩, by simp [intOf] <;> omega⟩
        · obtain rfl : q = os.length := by omega
          have hgsz := ST1.out.bel.size
          go_wp2_with fail
          refine (rOuts_ok _ _ gs os ins _ (KC.out.below ST1.out.bel) (KI.out.below ST1.out.bel) (circE_zero.2 OK.out) HLI.out).mono ?_
          rintro e W9 ⟨vo9, rfl, ho9, hb9⟩
          rw [← HI.out] at ho9
          have K9 := Lib.hid (ho9.less (base' := w.heap.size) hgsz)
          have G9 := Lib.hid (ST1.out.seen.below hb9)
          have B9 := Lib.hid (below_trans ST1.out.bel hb9 hgsz)
          clear ho9 hb9
          try dsimp only
          go_wp2_with fail
          exact HP.out _ _ ⟨_, _, vss1, rfl, K9.out, G9.out, B9.out⟩
end Go.Proofs.Ytknjcdlknnfhaaa
