/- The law TopTexts, walked; what the row's listed variables and the world's shape give. -/
import Derived.Test.YtljpangeodgbkaaDoorParseW
import Derived.Test.YtljpangeodgbkaaDoorPrintW
import Derived.Test.YtljpangeodgbkaaDoorTopT
import Derived.Test.YtljpangeodgbkaaDoorFill
import Derived.Deep.RegionHeld3
import Derived.Test.YtljpangeodgbkaaDoorRows
import Derived.Lib.LaidTab
import Derived.OpenShut
import Derived.SizedLaws
namespace Go.Proofs.YtljpangeodgbkaaDoor
open Go.RowKit Croft

theorem pow_of {W : World} {g : Nat} {t : TypeId} {cs : Array Value} {fuel : Nat} {p : List MemPlace} {enc : TypeId × Value → Unit} {sp : Nat → Bool} {held : Bool} {base : Nat} (hg : Tryd.prog.globalNamed "internal/strconv.uint64pow10" = some g) (ht : (Tryd.prog.globals[g]?).map (·.type) = some t) (hv : W.var? Tryd.prog "internal/strconv.uint64pow10" = some cs)
    (hd : DataW.trod enc Tryd.prog W base sp held fuel t cs.toList = some (Rows.laid_internal_strconv_uint64pow10, p)) : Lib.TabIs Tryd.prog W "internal/strconv.uint64pow10" .u64 Lib.pow10Tab := by
  obtain rfl := Option.some.inj ((show Tryd.prog.globalNamed "internal/strconv.uint64pow10" = some 2 by kernel_rfl).symm.trans hg)
  obtain rfl := Option.some.inj ((show (Tryd.prog.globals[2]?).map (·.type) = some 126 by kernel_rfl).symm.trans ht)
  unfold Lib.TabIs
  rw [hv, ← Lib.cells_of_tab Tryd.underlying126 Tryd.underlying46 (by kernel_rfl) (by kernel_rfl) (show DataW.trod enc Tryd.prog W base sp held fuel _ cs.toList = some (Lib.tabData .u64 Lib.pow10Tab, p) from hd)]
/-- internal/bytealg's variable, out of the world's shape -/
theorem max_of {W : World} (h : W.ShapedOpen Tryd.prog) : MaxIs W := sh_laysM143.s1_3 W h
/-- the row's wrap that keeps the variables' condition and the world's shape -/
theorem handed_and_shaped {H : Type} {enc : TypeId × Value → H} {a : Assume} {C : Checked} {os : Os} {f : FuncId} {fn : Func} {s : ChangeSpec} {conds : List PathCond} {apart fresh handsOn again : Bool} {X : World → Array Value → Prop}
    (hX : ∀ (w w' : World) (args : Array Value), w.heap = w'.heap → X w args → X w' args)
    (own : ownKnob C.prog.godebug = none) (started : os.Started) (noInit : C.prog.inits.idxOf? f = none) (hfn : C.prog.funcs[f]? = some fn)
    (witness : ∃ (w : World) (tape : Tape) (i : Input), w.os = os ∧ (w.forCall tape i).Shaped C.prog ∧ i.vars = [] ∧ Input.okWide C.prog (w.forCall tape i) .any w.heap.size f i ∧
      ((s.pre enc C.prog fn conds apart (w.forCall tape i).memory i.args ∧ X (w.forCall tape i).memory i.args) ∧ sizedMet enc C.prog fn (OpenSpec.ofChange s) apart (w.forCall tape i).memory i.args) ∧ a.holds C.prog (lone (Frame.enter C.prog f i.args .normal) [] (w.forCall tape i)))
    (contract : ∀ (W : World) (base : Nat) (args : Array Value) (ds gs : List (DataW H)) (before : List MemPlace),
      (∀ (j : Nat) t v, fn.params[j]? = some t → args[j]? = some v → Value.okWide C.prog W .any base t v) →
      DataW.Whole enc C.prog fn.params.toList s.vars apart W args.toList ds gs before →
      conds.all (PathCond.test C.prog ⟨fn.params.toList, ds, s.plain.varTypes C.prog, gs⟩) = true →
      (DataW.weightsEach C.prog (fn.params.toList ++ s.plain.varTypes C.prog) (ds ++ gs)).all (· ≤ reachBytes) = true → X W args → W.ShapedOpen C.prog →
      a.holds C.prog (lone (Frame.enter C.prog f args .normal) [] W) →
      Calls C.prog f args W fun e W' => ∃ v, e = .returned v ∧ s.post enc C.prog fn apart fresh handsOn again W args v W') :
    ReturnsInHanded a C os f .any (fun w args => (s.pre enc C.prog fn conds apart w args ∧ X w args) ∧ sizedMet enc C.prog fn (OpenSpec.ofChange s) apart w args) (s.post enc C.prog fn apart fresh handsOn again) := by
  refine returnsInHanded_of_calls own started noInit witness ?_
  intro w tape i _ hsh _ hok hpre hholds
  obtain ⟨_, _, _, fn', hfn', _, _, _, _, hval⟩ := hok
  obtain rfl : fn' = fn := Option.some.inj (hfn'.symm.trans hfn)
  obtain ⟨⟨⟨ds, gs, before, hw, hc⟩, hx⟩, hz⟩ := hpre
  refine (contract (w.forCall tape i) w.heap.size i.args ds gs before hval (DataW.Whole.of_heap (w' := w.forCall tape i) (by rfl) hw) hc (hz.weights hw) (hX _ _ _ (by rfl) hx) hsh hholds).mono fun e W' hh => ?_
  obtain ⟨v, rfl, hp⟩ := hh
  exact ChangeSpec.post_blind hp
end Go.Proofs.YtljpangeodgbkaaDoor
namespace Croft
theorem cone_norm (ws : List F) (x : F) (g : Gt) : cone ws x (normG g) = cone ws x g := by simp [cone, normG, toF_ofF]
theorem gdraw_norm (n t : Nat) (g : Gt) : gdraw n t (normG g) = gdraw n t g := rfl
theorem ewire_norm (n t : Nat) (ws : List (List F)) (x : F) (ds : List F) (g : Gt) : ewire n t ws x ds (normG g) = ewire n t ws x ds g := by simp [ewire, normG, toF_ofF]
theorem eseen_norm (n t : Nat) (ws : List (List F)) (x : F) (ds : List F) (g : Gt) (j : Nat) : eseen n t ws x ds (normG g) j = eseen n t ws x ds g j := rfl
theorem whoseL_norm (gs : List Gt) : whoseL (gs.map normG) = whoseL gs := by
  unfold whoseL
  rw [List.filter_map, List.map_map]
  rfl
theorem cin_norm (gs : List Gt) (k : Nat) : cin (gs.map normG) k = cin gs k := by
  unfold cin
  rw [← List.map_take, whoseL_norm]
theorem cw_norm (gs : List Gt) (I : List F) (k : Nat) : cw (gs.map normG) I k = cw gs I k := by
  induction k with
  | zero => rfl
  | succ k ih =>
    rw [cw, cw, ih, cin_norm, List.getElem?_map]
    cases gs[k]? with
    | none => rfl
    | some g => simp only [Option.map_some, cone_norm]
theorem couts_norm (gs : List Gt) (os : List Int) (I : List F) : couts (gs.map normG) os I = couts gs os I := by
  unfold couts
  rw [List.length_map, cw_norm]
theorem dat_norm (n t : Nat) (gs : List Gt) (k : Nat) : dat n t (gs.map normG) k = dat n t gs k := by
  induction k with
  | zero => rfl
  | succ k ih =>
    rw [dat, dat, ih, List.getElem?_map]
    cases gs[k]? with
    | none => rfl
    | some g => rfl
theorem ew_norm (n t : Nat) (gs : List Gt) (I D : List F) (k : Nat) : ew n t (gs.map normG) I D k = ew n t gs I D k := by
  induction k with
  | zero => rfl
  | succ k ih =>
    rw [ew, ew, ih, cin_norm, dat_norm, List.getElem?_map]
    cases gs[k]? with
    | none => rfl
    | some g => simp only [Option.map_some, ewire_norm]
theorem es_norm (n t : Nat) (gs : List Gt) (I D : List F) (k j : Nat) : es n t (gs.map normG) I D k j = es n t gs I D k j := by
  induction k with
  | zero => rfl
  | succ k ih =>
    rw [es, es, ih, cin_norm, dat_norm, ew_norm, List.getElem?_map]
    cases gs[k]? with
    | none => rfl
    | some g => simp only [Option.map_some, eseen_norm]
theorem eo_norm (n t : Nat) (gs : List Gt) (os : List Int) (I D : List F) (q j : Nat) : eo n t (gs.map normG) os I D q j = eo n t gs os I D q j := by
  induction q with
  | zero => rw [eo, eo, List.length_map, es_norm]
  | succ q ih => rw [eo, eo, ih, List.length_map, ew_norm]
theorem parse_nil : parseT [] = ⟨[], [], 0, 1⟩ := by
  unfold parseT
  simp [pieces, parseR, parsedOf, circE]
end Croft
namespace Go.Proofs.YtljpangeodgbkaaDoor
open Go.RowKit Go.Sort Croft

theorem eqTop_any (va vb : Value) (l : List (List Int)) (w : World) (h1 : IsNumss w va l) (h2 : IsNumss w vb l) :
    Calls Tryd.prog 17 #[va, vb, .func (.func 18) #[] #[]] w fun e w' => e = .returned (.bool true) ∧ ∃ n, w' = w.drewN n := by
  have hcf : ∀ (x y : Value) (W : World), (callFunc 18 #[x, y]).run Tryd.prog W = .ok (.enter 18 #[x, y]) W := fun x y W => by kernel_rfl
  obtain ⟨A1, c1, vs1, rfl, hc1, hm1, hl1, hr1, ha1⟩ := h1
  obtain ⟨A2, c2, vs2, rfl, hc2, hm2, hl2, hr2, ha2⟩ := h2
  have HR1 := Lib.hid hr1
  have HA1 := Lib.hid ha1
  have HR2 := Lib.hid hr2
  have HA2 := Lib.hid ha2
  clear hr1 ha1 hr2 ha2 hm1 hm2
  go_enter Tryd.func17, Tryd.ntmps17
  go_wp2_with fail
  go_loopw [17] (fun i wr => ∃ k n : Nat, k ≤ l.length ∧ i = .int .i64 k ∧ wr = w.drewN n) (fun i _ => l.length - (intOf i).toNat)
  case atStart => exact ⟨0, 0, Nat.zero_le _, rfl, rfl⟩
  case round =>
    obtain ⟨k, n, hk, rfl, rfl⟩ := hrel
    by_cases hlt : k < l.length
    · obtain ⟨b1, o1, x1, r1, rfl, hb1, hx1, hg1, hn1, hc1'⟩ := numss_at HR1.out HA1.out hlt
      obtain ⟨b2, o2, x2, r2, rfl, hb2, hx2, hg2, hn2, hc2'⟩ := numss_at HR2.out HA2.out hlt
      obtain rfl := Option.some.inj (hg1.symm.trans hg2)
      have K1 := Lib.hid (hn1.drewN n)
      have K2 := Lib.hid (hn2.drewN n)
      clear hn1 hn2 hg1 hg2 hx1 hx2 hb1 hb2
      have HC := Lib.hid (show Calls Tryd.prog 18 #[x1, x2] (w.drewN n) fun e w' => e = .returned (.bool true) ∧ ∃ m, w' = (w.drewN n).drewN m from by
        go_enter Tryd.func18, Tryd.ntmps18
        go_wp2_with fail
        refine (equal_any _ _ _ _ _ K1.out K2.out).mono ?_
        rintro e w' ⟨rfl, nd, rfl⟩
        rw [decide_eq_true rfl]
        try dsimp only
        go_wp2_with fail
        go_ret
        exact ⟨rfl, nd, rfl⟩)
      go_wp2_with fail
      refine HC.out.mono ?_
      rintro e w' ⟨rfl, nd, rfl⟩
      try dsimp only
      go_wp2_with fail
      exact ⟨⟨k + 1, n + nd, by omega, by go_num, by first | rfl | rw [World.drewN_drewN]⟩, by simp [intOf] <;> omega⟩
    · go_wp2_with fail
      go_ret
      exact ⟨rfl, n, rfl⟩
theorem circ_form {w : World} {v : Value} {gs : List Gt} {os : List Int} (h : IsCirc w v gs os) : ∃ A1 c1 A2 c2, v = .agg #[.slice A1 gs.length c1, .slice A2 os.length c2] := by
  obtain ⟨vg, vo, rfl, hg, ho⟩ := h
  obtain ⟨A1, c1, rfl, _⟩ := hg
  obtain ⟨A2, c2, rfl, _⟩ := ho
  exact ⟨A1, c1, A2, c2, rfl⟩
set_option maxRecDepth 100000 in
set_option maxHeartbeats 4000000 in
theorem topTexts_any (v vi vd : Value) (gs : List Gt) (os ins ds : List Int) (n t : Int) (w : World) (h : IsCirc w v gs os) (hi : IsNums w vi ins) (hd : IsNums w vd ds) (hm : MaxIs w) (htab : Lib.TabIs Tryd.prog w "internal/strconv.uint64pow10" .u64 Lib.pow10Tab) :
    Calls Tryd.prog 5 #[v, .int .i64 n, .int .i64 t, vi, vd] w fun e w' => e = .returned (.bool true) ∧ Below w.heap.size w w' := by
  have KC := Lib.hid h
  have KI := Lib.hid hi
  have KD := Lib.hid hd
  have HM := Lib.hid hm
  have HT := Lib.hid htab
  obtain ⟨A1, c1, A2, c2, rfl⟩ := circ_form h
  obtain ⟨Ai, ci, rfl, _, _, _, _, _⟩ := hi
  obtain ⟨Ad, cd, rfl, _, _, _, _, _⟩ := hd
  have BB := Lib.hid ((Below.refl w.heap.size w).alloc (Nat.le_refl _) (.cells #[.slice A1 gs.length c1, .slice A2 os.length c2] 25))
  have BX0 := Lib.hid (Box.new w 25 [.slice A1 gs.length c1, .slice A2 os.length c2])
  suffices hgoal : ∀ Post : Ending → World → Prop, (∀ w', Below w.heap.size w w' → Post (.returned (.bool true)) w') → Calls Tryd.prog 5 #[.agg #[.slice A1 gs.length c1, .slice A2 os.length c2], .int .i64 n, .int .i64 t, .slice Ai ins.length ci, .slice Ad ds.length cd] w Post from hgoal _ fun w' h => ⟨rfl, h⟩
  intro Post hpo
  have HP := Lib.hid hpo
  clear h hm htab hpo
  go_enter Tryd.func5, Tryd.ntmps5
  go_wp2_with fail
  refine (tSaid_any _).mono ?_
  rintro e W1 ⟨rfl, hb⟩
  have B1 := Lib.hid (below_trans BB.out hb BB.out.size)
  have BX1 := Lib.hid (BX0.out.below hb)
  have k0 := BX1.out.cell (i := 0) rfl
  have k1 := BX1.out.cell (i := 1) rfl
  clear hb
  try dsimp only
  by_cases h0 : circE gs os = 0
  · have HOC := Lib.hid (circE_zero.1 h0)
    have HC0 := Lib.hid h0
    have CP1 := Lib.hid (cPrint_ok _ gs os W1 (KC.out.below B1.out) h0 (tab_below HT.out B1.out))
    have CP2 := Lib.hid (fun W (hW : MaxIs W) => cParse_any (circT gs os) W hW)
    rw [parse_circT HOC.out] at CP2
    obtain ⟨gn, hgn⟩ : ∃ gn, gn = gs.map normG := ⟨_, rfl⟩
    have HGN := Lib.hid hgn
    rw [← hgn] at CP2
    obtain ⟨tx, htx⟩ : ∃ tx, tx = bs (circT gs os) := ⟨_, rfl⟩
    rw [← htx] at CP1 CP2
    clear htx h0 hgn
    go_wp2_with fail
    refine CP1.out.mono ?_
    rintro e W2 ⟨rfl, hb⟩
    have B2 := Lib.hid (below_trans B1.out hb B1.out.size)
    have BX2 := Lib.hid (BX1.out.below hb)
    have HM2 := Lib.hid (HM.out.below B2.out)
    clear hb k0 k1
    try dsimp only
    go_wp2_with fail
    refine (CP2.out _ HM2.out).mono ?_
    rintro e W3 ⟨vn, rfl, hc, hb⟩
    have B3 := Lib.hid (below_trans B2.out hb B2.out.size)
    obtain ⟨A3, c3, A4, c4, rfl⟩ := circ_form hc
    have KN := Lib.hid hc
    have BX3 := Lib.hid (BX2.out.below hb)
    have BA1 := Lib.hid ((Below.refl W3.heap.size W3).alloc (Nat.le_refl _) (.cells #[.slice A3 gn.length c3, .slice A4 os.length c4] 25))
    have BN4 := Lib.hid (Box.new W3 25 [.slice A3 gn.length c3, .slice A4 os.length c4])
    obtain ⟨xb, hxb⟩ : ∃ xb, xb = W3.heap.size := ⟨_, rfl⟩
    obtain ⟨W4, hW4⟩ : ∃ W4, W4 = W3.alloc (.cells #[.slice A3 gn.length c3, .slice A4 os.length c4] 25) := ⟨_, rfl⟩
    rw [← hW4] at BA1 BN4
    rw [← hxb] at BN4
    have BX4 := Lib.hid (BX3.out.below BA1.out)
    have KN4 := Lib.hid (KN.out.below BA1.out)
    have B4 := Lib.hid (below_trans B3.out BA1.out B3.out.size)
    have CN := Lib.hid (eNeed_any _ gs os n t W4 (KC.out.below B4.out))
    have k0 : (W3.alloc (.cells #[.slice A3 gn.length c3, .slice A4 os.length c4] 25)).cell? ⟨w.heap.size, 0, none⟩ = some (.slice A1 gs.length c1) := by rw [← hW4]; exact BX4.out.cell (i := 0) rfl
    have k1 : (W3.alloc (.cells #[.slice A3 gn.length c3, .slice A4 os.length c4] 25)).cell? ⟨w.heap.size, 1, none⟩ = some (.slice A2 os.length c2) := by rw [← hW4]; exact BX4.out.cell (i := 1) rfl
    have HX := Lib.hid hxb
    clear hc hb
    try dsimp only
    go_wp2_with fail
    rw [← hW4, ← hxb]
    clear hW4 hxb k0 k1
    refine CN.out.mono ?_
    rintro e W5 ⟨rfl, hb⟩
    have B5 := Lib.hid (below_trans B4.out hb B4.out.size)
    have BX5 := Lib.hid (BX4.out.below hb)
    have BN5 := Lib.hid (BN4.out.below hb)
    have KN5 := Lib.hid (KN4.out.below hb)
    clear hb
    by_cases hcr : crewE gs os n t = 0
    · obtain ⟨hok, hcrew, hov⟩ := crewE_zero.1 hcr
      obtain ⟨m, hm⟩ : ∃ m : Nat, n = (m : Int) := ⟨n.toNat, by unfold crewP at hcrew; omega⟩
      obtain ⟨T, hT⟩ : ∃ T : Nat, t = (T : Int) := ⟨t.toNat, by unfold crewP at hcrew; omega⟩
      subst hm hT
      have HN : eNeedN gs os m T = (dat m T gs gs.length : Int) := by unfold eNeedN; rw [if_pos hcr, Int.toNat_natCast, Int.toNat_natCast]
      rw [hcr, HN]
      have H0 := Lib.hid hcr
      have HCN := Lib.hid (show crewE gn os m T = 0 from crewE_zero.2 ⟨by rw [HGN.out]; exact hok.norm, hcrew, by rw [HGN.out, whoseL_norm]; exact hov⟩)
      have hdl : dat m T gs gs.length ≤ 4000 := by
        have := dat_small (n := m) (t := T) (gs := gs) (by unfold crewP at hcrew; omega) (by unfold crewP at hcrew; omega) gs.length
        have := hok.g2
        omega
      have hwl : (whoseL gs).length ≤ 30 := by
        have h2 := hok.g2
        have : (whoseL gs).length ≤ gs.length := by unfold whoseL; rw [List.length_map]; exact List.length_filter_le _ _
        omega
      have HI := Lib.hid (show inputsL gs os = whoseL gs from if_pos HC0.out)
      obtain ⟨K, hK⟩ : ∃ K, K = dat m T gs gs.length := ⟨_, rfl⟩
      rw [← hK] at hdl ⊢
      have HK := Lib.hid hK
      obtain ⟨L, hL⟩ : ∃ L, L = (whoseL gs).length := ⟨_, rfl⟩
      have HL := Lib.hid hL
      rw [← hL] at hwl
      have HKN := Lib.hid (show dat m T gn gn.length = K by rw [HGN.out, List.length_map, dat_norm, HK.out])
      have HLN := Lib.hid (show (whoseL gn).length = L by rw [HGN.out, whoseL_norm, HL.out])
      obtain ⟨OL, hOL⟩ : ∃ OL, OL = ofFs (couts gs os (toFs (fillL ins L))) := ⟨_, rfl⟩
      obtain ⟨SL, hSL⟩ : ∃ SL, SL = rowsN m fun j => ofFs (eo m T gs os (toFs (fillL ins L)) (toFs (fillL ds K)) os.length j) := ⟨_, rfl⟩
      have HOL := Lib.hid (show ofFs (couts gn os (toFs (fillL ins L))) = OL by rw [hOL, HGN.out, couts_norm])
      have HSL := Lib.hid (show (rowsN m fun j => ofFs (eo m T gn os (toFs (fillL ins L)) (toFs (fillL ds K)) os.length j)) = SL by rw [hSL, HGN.out]; congr 1; funext j; rw [eo_norm])
      have HR1 := Lib.hid (show ∀ vi' vd' W, IsNums W vi' (fillL ins L) → IsNums W vd' (fillL ds K) → Below w.heap.size w W → Calls Tryd.prog 14 #[.agg #[.slice A1 gs.length c1, .slice A2 os.length c2], .int .i64 m, .int .i64 T, vi', vd'] W fun e w' => RunRes W e w' m OL SL from fun vi' vd' W h1 h2 hb => by
        rw [hOL, hSL]
        exact eRun_ok _ vi' vd' gs os _ _ m T W (KC.out.below hb) h1 h2 H0.out (by rw [fillL_length, HL.out]) (by rw [fillL_length, HK.out]))
      have HR2 := Lib.hid (show ∀ vi' vd' W, IsNums W vi' (fillL ins L) → IsNums W vd' (fillL ds K) → Below W5.heap.size W5 W → Calls Tryd.prog 14 #[.agg #[.slice A3 gn.length c3, .slice A4 os.length c4], .int .i64 m, .int .i64 T, vi', vd'] W fun e w' => RunRes W e w' m OL SL from fun vi' vd' W h1 h2 hb => by
        rw [← HOL.out, ← HSL.out]
        exact eRun_ok _ vi' vd' gn os _ _ m T W (KN5.out.below hb) h1 h2 HCN.out (by rw [fillL_length, HLN.out]) (by rw [fillL_length, HKN.out]))
      have CI := Lib.hid (cInputs_any _ gs os W5 (KC.out.below B5.out))
      rw [HI.out] at CI
      rw [HC0.out] at CI
      have k0 := BX5.out.cell (i := 0) rfl
      have k1 := BX5.out.cell (i := 1) rfl
      clear hok hcrew hov hcr hK HN hOL hSL
      try dsimp only
      go_wp2_with fail
      refine CI.out.mono ?_
      rintro e W6 ⟨vw, rfl, how, hb⟩
      obtain ⟨Aw, cw', rfl, _, _⟩ := own_form how.1
      rw [← hL]
      have B6 := Lib.hid (below_trans B5.out hb B5.out.size)
      have D6 := Lib.hid hb
      have BX6 := Lib.hid (BX5.out.below hb)
      have BN6 := Lib.hid (BN5.out.below hb)
      have F1 := Lib.hid (tFilled_any _ ins L _ ((KI.out.below B6.out).drewN 1) (by omega))
      clear hb how hL k0 k1
      have k0 := BX6.out.cell (i := 0) rfl
      have k1 := BX6.out.cell (i := 1) rfl
      have hltx := BX6.out.lt
      try dsimp only
      go_wp2_with fail
      go_region_held3 (fun w' => w'.cell? ⟨w.heap.size, 0, none⟩ = some (.slice A1 gs.length c1) ∧ w'.cell? ⟨w.heap.size, 1, none⟩ = some (.slice A2 os.length c2)) (go_keep) (first | (go_at_call 15; refine F1.out.mono ?_; rintro e W7 ⟨vi', rfl, ho7, hb7⟩; have D7 := Lib.hid ((below_drewN (Below.refl W6.heap.size W6) 1).trans hb7); have BX7 := Lib.hid ((BX6.out.drewN 1).below hb7); have KI7 := Lib.hid ho7.is; have F2 := Lib.hid (tFilled_any _ ds K W7 ((KD.out.below B6.out).below D7.out) hdl); have q0 := BX7.out.cell (i := 0) rfl; have q1 := BX7.out.cell (i := 1) rfl; clear ho7 hb7 F1) | (go_at_call 15; refine F2.out.mono ?_; rintro e W8 ⟨vd', rfl, ho8, hb8⟩; have D8 := Lib.hid (below_trans D7.out hb8 D7.out.size); have BX8 := Lib.hid (BX7.out.below hb8); have C8 := Lib.hid (HR1.out vi' vd' W8 (KI7.out.below hb8) ho8.is (below_trans B6.out D8.out B6.out.size)); have q2 := BX8.out.cell (i := 0) rfl; have q3 := BX8.out.cell (i := 1) rfl; clear ho8 hb8 F2) | (go_at_call 14; refine C8.out.mono ?_; rintro e W9 ⟨vo, g, vss, rfl, ho9, hg9, _, hb9⟩; have D9 := Lib.hid (below_trans D8.out hb9 D8.out.size); have BX9 := Lib.hid (BX8.out.below hb9); have KO9 := Lib.hid ho9.is; have KG9 := Lib.hid hg9.is; have q4 := BX9.out.cell (i := 0) rfl; have q5 := BX9.out.cell (i := 1) rfl; clear ho9 hg9 hb9))
      clear k0 k1 q0 q1 q2 q3 q4 q5
      have B9 := Lib.hid (below_trans B6.out D9.out B6.out.size)
      have BN9 := Lib.hid (BN6.out.below D9.out)
      have E9 := Lib.hid (below_trans D6.out D9.out D6.out.size)
      have F3 := Lib.hid (tFilled_any _ ins L _ ((KI.out.below B9.out).drewN 1) (by omega))
      have k0 := BN9.out.cell (i := 0) rfl
      have k1 := BN9.out.cell (i := 1) rfl
      have hltn := BN9.out.lt
      go_wp2_with fail
      go_region_held3 (fun w' => w'.cell? ⟨xb, 0, none⟩ = some (.slice A3 gn.length c3) ∧ w'.cell? ⟨xb, 1, none⟩ = some (.slice A4 os.length c4)) (go_keep) (first | (go_at_call 15; refine F3.out.mono ?_; rintro e Wa ⟨vi2, rfl, ho7, hb7⟩; have D10 := Lib.hid ((below_drewN (Below.refl W9.heap.size W9) 1).trans hb7); have BX10 := Lib.hid ((BN9.out.drewN 1).below hb7); have KI10 := Lib.hid ho7.is; have F4 := Lib.hid (tFilled_any _ ds K Wa ((KD.out.below B9.out).below D10.out) hdl); have q0 := BX10.out.cell (i := 0) rfl; have q1 := BX10.out.cell (i := 1) rfl; clear ho7 hb7 F3) | (go_at_call 15; refine F4.out.mono ?_; rintro e Wb ⟨vd2, rfl, ho8, hb8⟩; have D11 := Lib.hid (below_trans D10.out hb8 D10.out.size); have BX11 := Lib.hid (BX10.out.below hb8); have C11 := Lib.hid (HR2.out vi2 vd2 Wb (KI10.out.below hb8) ho8.is (below_trans E9.out D11.out E9.out.size)); have q2 := BX11.out.cell (i := 0) rfl; have q3 := BX11.out.cell (i := 1) rfl; clear ho8 hb8 F4) | (go_at_call 14; refine C11.out.mono ?_; rintro e Wc ⟨vo2, g2, vss2, rfl, ho9, hg9, _, hb9⟩; have D12 := Lib.hid (below_trans D11.out hb9 D11.out.size); have BX12 := Lib.hid (BX11.out.below hb9); have KO12 := Lib.hid ho9.is; have KG12 := Lib.hid hg9.is; have q4 := BX12.out.cell (i := 0) rfl; have q5 := BX12.out.cell (i := 1) rfl; clear ho9 hg9 hb9))
      have B12 := Lib.hid (below_trans B9.out D12.out B9.out.size)
      have EQ1 := Lib.hid (equal_any _ _ _ _ _ (KO9.out.below D12.out) KO12.out)
      rw [decide_eq_true rfl] at EQ1
      have KGa := Lib.hid (KG9.out.below D12.out)
      clear k0 k1 q0 q1 q2 q3 q4 q5
      go_wp2_with fail
      refine EQ1.out.mono ?_
      rintro e w' ⟨rfl, nd, rfl⟩
      have EQ2 := Lib.hid (eqTop_any _ _ SL _ (KGa.out.drewN nd) (KG12.out.drewN nd))
      try dsimp only
      go_wp2_with fail
      refine EQ2.out.mono ?_
      rintro e w' ⟨rfl, nd2, rfl⟩
      try dsimp only
      go_wp2_with fail
      exact HP.out _ (below_drewN B12.out (nd + nd2))
    · have hcb : (crewE gs os n t != 0) = true := by rw [bne_iff_ne]; exact hcr
      obtain ⟨E, hE⟩ : ∃ E, E = crewE gs os n t := ⟨_, rfl⟩
      rw [← hE] at hcb ⊢
      clear hE hcr
      try dsimp only
      go_wp2_with fail
      exact HP.out _ B5.out
  · have CP1 := Lib.hid (cPrint_bad _ gs os W1 (KC.out.below B1.out) h0)
    have CP2 := Lib.hid (fun W (hW : MaxIs W) => cParse_any [] W hW)
    rw [parse_nil] at CP2
    obtain ⟨tx, htx⟩ : ∃ tx, tx = bs [] := ⟨_, rfl⟩
    obtain ⟨E, hE⟩ : ∃ E, E = circE gs os := ⟨_, rfl⟩
    rw [← htx, ← hE] at CP1
    rw [← htx] at CP2
    have hbE : (E != 0) = true := by rw [hE, bne_iff_ne]; exact h0
    clear htx h0 hE
    go_wp2_with fail
    refine CP1.out.mono ?_
    rintro e W2 ⟨rfl, hb⟩
    have B2 := Lib.hid (below_trans B1.out hb B1.out.size)
    have HM2 := Lib.hid (HM.out.below B2.out)
    clear hb k0 k1
    try dsimp only
    go_wp2_with fail
    refine (CP2.out _ HM2.out).mono ?_
    rintro e W3 ⟨vn, rfl, hc, hb⟩
    have B3 := Lib.hid (below_trans B2.out hb B2.out.size)
    obtain ⟨A3, c3, A4, c4, rfl⟩ := circ_form hc
    have B4 := Lib.hid (below_trans B3.out ((Below.refl W3.heap.size W3).alloc (Nat.le_refl _) (.cells #[.slice A3 ([] : List Gt).length c3, .slice A4 ([] : List Int).length c4] 25)) B3.out.size)
    clear hc hb
    try dsimp only
    go_wp2_with fail
    exact HP.out _ B4.out
end Go.Proofs.YtljpangeodgbkaaDoor
