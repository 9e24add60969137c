/- The document's product of shares: what it returns. -/
import Derived.Test.YtknjcdlknnfhaaaTimesR
import Derived.Test.YtknjcdlknnfhaaaTailM
import Derived.Deep.RegionHeld3
import Derived.Deep.RegionLaw
namespace Go.Proofs.Ytknjcdlknnfhaaa
open Go.RowKit Croft

/-- a list of numbers, and a list of lists -/
def TimesRes (w : World) (e : Ending) (w' : World) (l : List Int) (g : List (List Int)) : Prop :=
  ∃ v vg vs, e = .returned (.tuple #[v, vg]) ∧ OwnNums w' w.heap.size v l ∧ Grid w' w.heap.size vg vs g ∧ Below w.heap.size w w'
set_option maxRecDepth 100000 in
set_option maxHeartbeats 4000000 in
theorem rTimes_ok (n T : Nat) (va vb vd : Value) (xs ys ds : List Int) (w : World) (h1 : IsNums w va xs) (h2 : IsNums w vb ys) (h3 : IsNums w vd ds) (hx : xs.length = n) (hy : ys.length = n) (hd : ds.length = n * T) (hT : T ≤ 4) (hn1 : 1 ≤ n) (hn2 : n ≤ 9) :
    Calls Try.prog 44 #[.int .i64 T, va, vb, vd] w fun e w' => TimesRes w e w' (ofFs (mulOut n T (toFs xs) (toFs ys) (toFs ds))) ((gotM n T (toFs xs) (toFs ys) (toFs ds)).map ofFs) := by
  have KX := Lib.hid h1
  have KY := Lib.hid h2
  have KD := Lib.hid h3
  have HXL := Lib.hid hx
  have HYL := Lib.hid hy
  have HDL := Lib.hid hd
  obtain ⟨A1, c1, rfl, hc1, hm1, hl1, hu1, hr1⟩ := h1
  obtain ⟨A2, c2, rfl, hc2, hm2, hl2, hu2, hr2⟩ := h2
  obtain ⟨A3, c3, rfl, hc3, hm3, hl3, hu3, hr3⟩ := h3
  clear hu1 hr1 hm1 hu2 hr2 hm2 hu3 hr3
  unfold maxLen at hm3
  rw [hx] at KX hc1 hl1 ⊢
  rw [hy] at KY hc2 hl2 ⊢
  rw [hd] at KD hc3 hl3 ⊢
  clear hx hy hd
  have hnT : n * T ≤ 36 := Nat.mul_le_mul hn2 hT
  obtain ⟨f, hf⟩ : ∃ f, f = fMulAt T (toFs xs) (toFs ys) (toFs ds) := ⟨_, rfl⟩
  have HF := Lib.hid hf
  have HFU := Lib.hid (show ∀ i q, U64 (f i q) from fun i q => by rw [hf]; exact U64.of_ofF _)
  clear hf
  suffices hgoal : ∀ Post : Ending → World → Prop, (∀ e w', TimesRes w e w' (ofFs (mulOut n T (toFs xs) (toFs ys) (toFs ds))) ((gotM n T (toFs xs) (toFs ys) (toFs ds)).map ofFs) → Post e w') → Calls Try.prog 44 #[.int .i64 T, .slice A1 n c1, .slice A2 n c2, .slice A3 (n * T) c3] w Post from hgoal _ fun e w' h => h
  intro Post hp
  have HP := Lib.hid hp
  clear hp
  go_enter Try.func44, Try.ntmps44
  go_wp2_with (refine wpList_make_grid rfl _ _ rfl w.heap.size _ n rfl rfl rfl (by omega) (Nat.le_refl _) ?_)
  intro W1 hgr hb
  have KG := Lib.hid (show Grid W1 w.heap.size (.slice (some ⟨w.heap.size, 0, none⟩) n n) (List.replicate n (.slice none 0 0)) (gRows n f 0 0) from by
    rw [gRows_start]; exact hgr)
  have BEL := Lib.hid hb
  clear hgr hb
  go_wp2_with fail
  go_loopw [12, 13] (fun v i wr => ∃ (k : Nat) (vs : List Value), k ≤ n ∧ i = .int .i64 k ∧ OwnInts wr w.heap.size v (atsN k) ∧ Grid wr w.heap.size (.slice (some ⟨w.heap.size, 0, none⟩) n n) vs (gRows n f k 0) ∧ Below w.heap.size w wr) (fun _ i _ => n - (intOf i).toNat)
  case atStart => exact ⟨0, _, Nat.zero_le _, rfl, OwnInts.nil _ _, KG.out, BEL.out⟩
  case round =>
    obtain ⟨k, vs, hk, rfl, hown, hgr, hbel⟩ := hrel
    have KA := Lib.hid hown
    have hsz := hbel.size
    have hgsz := (hgr.outer.lt w.heap.size rfl).2
    clear KG BEL
    have KG := Lib.hid hgr
    have BEL := Lib.hid hbel
    clear hown hgr hbel
    by_cases hlt : k < n
    · have hdk : decide ((k : Int) < (n : Int)) = true := by simp; omega
      go_wp2_with (at_builtin; go_loud (refine wpList_push_int_at rfl _ _ rfl w.heap.size _ (atsN k) ((k : Int) + 1) wr.heap.size 1 rfl (KA.out.alloc _) rfl (new_cell _ _ _) (by unfold I64; omega) (by rw [atsN_length]; omega) (by rw [size_alloc]; omega) ?_))
      intro v13 w5 ho5 hb5 hg5
      rw [← atsN_next] at ho5
      have KG5 := Lib.hid ((KG.out.alloc (.cells #[.int .i64 ((k : Int) + 1)] 3)).apart_kept (KA.out.alloc (.cells #[.int .i64 ((k : Int) + 1)] 3)).1 (by decide) (by decide) hg5)
      have KA5 := Lib.hid ho5
      have B5 := Lib.hid ((BEL.out.alloc hsz (.cells #[.int .i64 ((k : Int) + 1)] 3)).trans hb5)
      have hsz5 := B5.out.size
      have hgsz5 := (KG5.out.outer.lt w.heap.size rfl).2
      clear ho5 hb5 hg5 KA KG BEL
      have KX5 := Lib.hid (KX.out.below B5.out)
      have KY5 := Lib.hid (KY.out.below B5.out)
      have KD5 := Lib.hid (KD.out.below B5.out)
      obtain ⟨A, c, hA, _, _, _, hux, hrx⟩ := KX5.out
      injection hA with hA1 hA2 hA3
      subst hA1 hA3
      clear hA2
      obtain ⟨bx, ox, x, rfl, hbx, hgx, hx64, hcx⟩ := nums_at hrx hux (k := k) (by rw [HXL.out]; exact hlt)
      obtain ⟨A, c, hA, _, _, _, huy, hry⟩ := KY5.out
      injection hA with hA1 hA2 hA3
      subst hA1 hA3
      clear hA2
      obtain ⟨by_, oy, y, rfl, hby, hgy, hy64, hcy⟩ := nums_at hry huy (k := k) (by rw [HYL.out]; exact hlt)
      have hbx' := hbx
      have hby' := hby
      have HGX := Lib.hid (co_toFs hgx)
      have HGY := Lib.hid (co_toFs hgy)
      clear hux hrx huy hry hgx hgy hbx hby
      have hk1 : (k + 1) * T ≤ n * T := Nat.mul_le_mul hlt (Nat.le_refl _)
      have hk2 : (k + 1) * T = k * T + T := Nat.succ_mul k T
      have e1 : (k : Int) * (T : Int) = ((k * T : Nat) : Int) := by simp
      have e2 : (k : Int) * (T : Int) + (T : Int) = ((k * T + T : Nat) : Int) := by simp
      have hw2 : IntKind.i64.wrap ((k : Int) * (T : Int)) = (k : Int) * (T : Int) := IntWalk.i64_in _ (by rw [e1]; omega)
      have hw3 : IntKind.i64.wrap ((k : Int) * (T : Int) + (T : Int)) = (k : Int) * (T : Int) + (T : Int) := IntWalk.i64_in _ (by rw [e2]; omega)
      have hsl := slice_run A3 (n * T) c3 (k * T) (k * T + T) _ _ e1 e2 (by omega) (by omega)
      have hcut := KD5.out.cut (k * T) (k * T + T) (by omega) (by rw [HDL.out]; omega)
      rw [show k * T + T - k * T = T by omega] at hsl hcut
      obtain ⟨vc, hvc⟩ : ∃ vc, vc = Value.slice (if c3 = k * T then A3 else A3.map (·.add (k * T * 1))) T (c3 - k * T) := ⟨_, rfl⟩
      rw [← hvc] at hsl hcut
      have HCL := Lib.hid (show ((ds.drop (k * T)).take T).length = T by simp; rw [HDL.out]; omega)
      have HCUT := Lib.hid hcut
      have BD1 := Lib.hid (below_drewN (Below.refl w5.heap.size w5) 1)
      have HCUT1 := Lib.hid (HCUT.out.below BD1.out)
      clear hcut hvc e1 e2 hk1 hk2
      go_wp2_with fail
      go_region_held3 (fun w' => w'.cell? ⟨bx, ox + k, none⟩ = some (.int .u64 x) ∧ w'.cell? ⟨by_, oy + k, none⟩ = some (.int .u64 y)) (go_keep) (first | (go_at_call 74; refine (rMul_any _ _ _ hx64 hy64).mono ?_; rintro e w' ⟨rfl, rfl⟩) | (go_at_call 41; refine (rDealt_any _ _ _ n _ (U64.of_ofF _) HCUT1.out (by rw [HCL.out]; omega) hn2).mono ?_; rintro e w6 ⟨vl, rfl, ho6, hb6⟩; have q0 := (hb6.cell (p := ⟨bx, ox + k, none⟩) hbx').trans hcx; have q1 := (hb6.cell (p := ⟨by_, oy + k, none⟩) hby').trans hcy))
      have hb6' := below_trans BD1.out hb6 BD1.out.size
      obtain ⟨dl, hdl⟩ : ∃ dl, dl = ofFs (deal n (toFs (ofF (toF x * toF y) :: (ds.drop (k * T)).take T))) := ⟨_, rfl⟩
      rw [← hdl] at ho6
      have HDLn := Lib.hid (show dl.length = n by rw [hdl, ofFs_length, deal_length])
      have HDG := Lib.hid (show ∀ q, q < n → dl[q]? = some (f k q) from fun q hq => by
        rw [hdl]
        unfold ofFs
        rw [List.getElem?_map, get_co (by rw [deal_length]; exact hq), deal_co _ hq, HF.out]
        show some (ofF _) = some (fMulAt T (toFs xs) (toFs ys) (toFs ds) k q)
        unfold fMulAt
        rw [HGX.out, HGY.out, ← chunk_toFs]
        simp [toFs, toF_ofF])
      have KG6 := Lib.hid (KG5.out.below hb6')
      have KA6 := Lib.hid (KA5.out.below hb6')
      have B6 := Lib.hid (below_trans B5.out hb6' hsz5)
      have KDL := Lib.hid ho6
      obtain ⟨gd, cd, hv, hgd1, hgd2⟩ := own_slice ho6.1 (by rw [HDLn.out]; omega)
      rw [HDLn.out] at hv
      subst hv
      have H0 := Lib.hid (show ∀ (q : Nat) (u : Value) (b : Nat), vs[q]? = some u → u.ownBlock = some b → b < gd from fun q u b hu hub => by
        have hq := (List.getElem?_eq_some_iff.1 hu).1
        rw [KG5.out.vlen] at hq
        have := ((KG5.out.row q u _ hu (List.getElem?_eq_getElem hq)).1.lt b hub).2
        exact Nat.lt_of_lt_of_le this hgd1)
      have hgg : w.heap.size < gd := Nat.lt_of_lt_of_le hgsz5 hgd1
      clear ho6 hb6 hb6' hdl q0 q1 hsl hw2 hw3 hcx hcy KG5 KA5 B5 KX5 KY5 KD5 HCUT HCUT1 BD1 hgd1 hgd2 hbx' hby'
      go_wp2_with fail
      obtain ⟨w6', hw6'⟩ : ∃ w6', w6' = w6 := ⟨_, rfl⟩
      subst hw6'
      go_loopw [15] (fun i wr => ∃ (j : Nat) (us : List Value), j ≤ n ∧ i = .int .i64 j ∧ Grid wr w.heap.size (.slice (some ⟨w.heap.size, 0, none⟩) n n) us (gRows n f k j) ∧ (∀ q, j ≤ q → us[q]? = vs[q]?) ∧ OwnNums wr 0 (.slice (some ⟨gd, 0, none⟩) n cd) dl ∧ OwnInts wr w.heap.size v13 (atsN (k + 1)) ∧ Below w.heap.size w wr) (fun i _ => n - (intOf i).toNat)
      case atStart => exact ⟨0, vs, Nat.zero_le _, rfl, KG6.out, fun _ _ => rfl, KDL.out.less (Nat.zero_le _), KA6.out, B6.out⟩
      case round =>
        obtain ⟨j, us, hj, rfl, hgr, hus, hdl, hats, hbel⟩ := hrel
        clear KG6 KDL KA6 B6
        have KG := Lib.hid hgr
        have HUS := Lib.hid hus
        have KDL := Lib.hid hdl
        have KA := Lib.hid hats
        have BEL := Lib.hid hbel
        have hsz := hbel.size
        have hgsz := (hgr.outer.lt w.heap.size rfl).2
        clear hgr hus hdl hats hbel
        by_cases hlt2 : j < n
        · have hdj : decide ((j : Int) < (n : Int)) = true := by simp; omega
          have hcd := KDL.out.cell (HDG.out j hlt2)
          obtain ⟨vj, hvj⟩ : ∃ vj, us[j]? = some vj := ⟨_, List.getElem?_eq_getElem (by rw [KG.out.vlen, gRows_length]; exact hlt2)⟩
          have hcg := KG.out.cell hvj
          have HVJ := Lib.hid hvj
          have HFR := Lib.hid (gRows_at (k := k) f hlt2)
          clear hvj
          go_wp2_with fail
          have hne1 : (Value.slice (some ⟨gd, 0, none⟩) n cd).ownBlock ≠ vj.ownBlock := fun e => by
            have := H0.out j vj gd ((HUS.out j (Nat.le_refl _)).symm.trans HVJ.out) e.symm
            omega
          go_region_law ((refine step_push_grid rfl _ _ (by rfl) w.heap.size w.heap.size n n j vj us (gRows n f k j) (rowK f k j) (f k j) _ 1 (by rfl) (KG.out.drewN 1 |>.alloc _) HVJ.out HFR.out (by rfl) (new_cell _ _ _) (HFU.out k j) (by rw [rowK_length]; omega) (by simp; omega) ?_; intro bb cap w7 hc7 hf7 hg7 hb7 hgr7))
          all_goals
            rw [gRows_set f hlt2, rowK_length] at hg7
            try rw [rowK_length]
            obtain ⟨A, hA⟩ : ∃ A : Option Addr, A = some ⟨bb, 0, none⟩ := ⟨_, rfl⟩
            rw [← hA] at hg7 ⊢
            clear hA
            have K7 := Lib.hid ((((KDL.out.drewN 1).alloc (.cells #[.int .u64 (f k j)] 39)).kept hgr7 (.inr hne1)).kept (set_grown w7 w.heap.size j (.slice A (k + 1) cap)) (.inr (by intro e; simp [Value.ownBlock] at e; omega)))
            have KAa := (KA.out.drewN 1).alloc (.cells #[.int .u64 (f k j)] 39)
            have KGa := (KG.out.drewN 1).alloc (.cells #[.int .u64 (f k j)] 39)
            have hrow := (KGa.row j vj _ HVJ.out HFR.out).1
            have hA7 : OwnInts w7 w.heap.size v13 (atsN (k + 1)) := ⟨own_apart KAa.1 hrow (by decide) hgr7, KAa.2⟩
            have hout7 := KGa.outer.kept hgr7 (.inr (fun e => kinds_apart hrow KGa.outer (by decide) e.symm rfl))
            have A7 := Lib.hid (show OwnInts (w7.setCell ⟨w.heap.size, j, none⟩ (.slice A (k + 1) cap)) w.heap.size v13 (atsN (k + 1)) from ⟨own_apart hA7.1 hout7 (by decide) (set_grown w7 w.heap.size j (.slice A (k + 1) cap)), hA7.2⟩)
            have B7 := Lib.hid ((((below_drewN BEL.out 1).alloc hsz (.cells #[.int .u64 (f k j)] 39)).trans hb7).setCell (p := ⟨w.heap.size, j, none⟩) (Nat.le_refl _) (.slice A (k + 1) cap))
            have G7 := Lib.hid hg7
            clear hg7 hb7 hgr7 hne1 KAa KGa hrow hA7 hout7 hcd hcg
            go_wp2_with fail
            refine ⟨⟨j + 1, us.set j (.slice A (k + 1) cap), by omega, by go_num, G7.out, fun q hq => ?_, K7.out, A7.out, B7.out⟩, by simp [intOf] <;> omega⟩
            rw [List.getElem?_set_ne (by omega)]
            exact HUS.out q (by omega)
        · obtain rfl : n = j := by omega
          have KG2 := Lib.hid (show Grid wr w.heap.size (.slice (some ⟨w.heap.size, 0, none⟩) n n) us (gRows n f (k + 1) 0) by rw [← gRows_end]; exact KG.out)
          clear KG
          go_wp2_with fail
          exact ⟨⟨k + 1, us, by omega, by go_num, KA.out, KG2.out, BEL.out⟩, by simp [intOf] <;> omega⟩
    · obtain rfl : n = k := by omega
      go_wp2_with fail
      refine (rWeights_any _ _ _ KA.out.is (atsN_party hn2) (by rw [atsN_length]; omega)).mono ?_
      rintro e W8 ⟨vw, rfl, hw, hb8⟩
      rw [atsN_length, atsN_wt] at hw
      have BEL8 := below_trans BEL.out hb8 hsz
      have KG8 := KG.out.below hb8
      rw [HF.out, gRows_got] at KG8
      obtain ⟨G, hG⟩ : ∃ G, G = gotM n T (toFs xs) (toFs ys) (toFs ds) := ⟨_, rfl⟩
      have HMO := Lib.hid (show mulOut n T (toFs xs) (toFs ys) (toFs ds) = G.map (weigh n) by rw [hG]; rfl)
      have HGL := Lib.hid (show G.length = n by rw [hG]; simp [gotM])
      have HGR := Lib.hid (show ∀ r ∈ G, r.length = n from fun r hr => by
        rw [hG] at hr
        unfold gotM at hr
        obtain ⟨j, _, rfl⟩ := List.mem_map.1 hr
        simp)
      rw [← hG] at KG8
      replace HP := Lib.hid (show ∀ e w', TimesRes w e w' (ofFs (G.map (weigh n))) (G.map ofFs) → Post e w' from fun e w' h => HP.out e w' (by rw [HMO.out, ← hG]; exact h))
      replace KG := Lib.hid KG8
      replace BEL := Lib.hid BEL8
      have KW := Lib.hid (hw.less (Nat.zero_le _))
      obtain ⟨gw, cw, hv, hgw1, hgw2⟩ := own_slice hw.1 (by rw [ofFs_length]; simp [wts]; omega)
      rw [ofFs_length, show (wts n).length = n by simp [wts]] at hv
      subst hv
      clear hw hb8 BEL8 KG8 hG KA HMO HF hgw1 hgw2 hsz hgsz
      try dsimp only
      go_wp2_with fail
      obtain ⟨w8', hw8'⟩ : ∃ w8', w8' = W8 := ⟨_, rfl⟩
      subst hw8'
      go_loopw [17, 18] (fun v i wr => ∃ q : Nat, q ≤ n ∧ i = .int .i64 q ∧ OwnNums wr w8'.heap.size v (ofFs ((G.map (weigh n)).take q)) ∧ Below w8'.heap.size w8' wr) (fun _ i _ => n - (intOf i).toNat)
      case atStart => exact ⟨0, Nat.zero_le _, rfl, OwnNums.nil _ _, Below.refl _ _⟩
      case round =>
        obtain ⟨q, hq, rfl, hown, hbel⟩ := hrel
        have KO := Lib.hid hown
        have B9 := Lib.hid hbel
        have hsz9 := hbel.size
        clear hown hbel
        by_cases hlt3 : q < n
        · have KGr := KG.out.below B9.out
          have KWr := Lib.hid (KW.out.below B9.out)
          obtain ⟨row, hrow⟩ : ∃ row, G[q]? = some row := ⟨_, List.getElem?_eq_getElem (by rw [HGL.out]; exact hlt3)⟩
          have hrl := HGR.out row (List.mem_of_getElem? hrow)
          obtain ⟨br, cr, hvr, hor, _, _, _, _⟩ := KGr.at_ (i := q) (r := ofFs row) (by rw [List.getElem?_map, hrow]; rfl) (by rw [ofFs_length, hrl]; omega)
          rw [ofFs_length, hrl] at hvr hor
          have HVR := Lib.hid hvr
          have HKG := Lib.hid KGr
          have KR := Lib.hid hor
          have HT := Lib.hid (show ofFs ((G.map (weigh n)).take (q + 1)) = ofFs ((G.map (weigh n)).take q) ++ [ofF (weigh n row)] by rw [List.take_add_one, List.getElem?_map, hrow]; simp [ofFs])
          have HTL := Lib.hid (show (ofFs ((G.map (weigh n)).take q)).length ≤ 9 by rw [ofFs_length, List.length_take]; omega)
          have HRL := Lib.hid hrl
          have hdq : decide ((q : Int) < (n : Int)) = true := by simp; omega
          clear KGr hvr hor hrow hrl
          go_wp2_with fail
          obtain ⟨wo, hwo⟩ : ∃ wo, wo = wr := ⟨_, rfl⟩
          subst hwo
          go_loopw [19, 20] (fun s i wq => ∃ p m : Nat, p ≤ n ∧ i = .int .i64 p ∧ s = .int .u64 (ofF (fsum p fun i => co (wts n) i * co row i)) ∧ wq = wo.drewN m) (fun _ i _ => n - (intOf i).toNat)
          case atStart => exact ⟨0, 0, Nat.zero_le _, rfl, rfl, rfl⟩
          case round =>
            obtain ⟨p, m, hp, rfl, rfl, hwm⟩ := hrel
            have HWM := Lib.hid hwm
            clear hwm
            by_cases hlt4 : p < n
            · have KWq : OwnNums wr 0 _ _ := HWM.out ▸ KWr.out.drewN m
              have KRq : OwnNums wr w.heap.size _ _ := HWM.out ▸ KR.out.drewN m
              have KGq : Grid wr w.heap.size _ _ _ := HWM.out ▸ HKG.out.drewN m
              have hc0 := KGq.cell HVR.out
              have hc1 := KWq.cell (j := p) (z := ofF (co (wts n) p)) (ofFs_get (get_co (by simp [wts]; exact hlt4)))
              have hc2 := KRq.cell (j := p) (z := ofF (co row p)) (ofFs_get (get_co (by rw [HRL.out]; exact hlt4)))
              have hdp : decide ((p : Int) < (n : Int)) = true := by simp; omega
              clear KWq KRq KGq
              go_wp2_with fail
              go_quiet ((first | exact quietL (rMul_any _ _ _ (U64.of_ofF _) (U64.of_ofF _)) | exact quietL (rAdd_any _ _ _ (U64.of_ofF _) (U64.of_ofF _))))
              go_wp2_with fail
              refine ⟨⟨p + 1, _, by omega, by go_num, ?_, drewn_more HWM.out _⟩, by simp [intOf] <;> omega⟩
              simp only [toF_ofF]
              rfl
            · obtain rfl : n = p := by omega
              have KOq := Lib.hid (show OwnNums wr w8'.heap.size _ _ from HWM.out ▸ KO.out.drewN m)
              have B9q := Lib.hid (show Below w8'.heap.size w8' wr from HWM.out ▸ below_drewN B9.out m)
              have hszq := B9q.out.size
              go_wp2_with (at_builtin; go_loud (refine wpList_push rfl _ _ rfl w8'.heap.size _ _ (ofF (fsum n fun i => co (wts n) i * co row i)) wr.heap.size 1 rfl (KOq.out.alloc _) rfl (new_cell _ _ _) (U64.of_ofF _) (by have := HTL.out; omega) (by rw [size_alloc]; omega) ?_))
              intro v' w10 hown' hbel'
              have K10 := Lib.hid (show OwnNums w10 w8'.heap.size v' (ofFs ((G.map (weigh n)).take (q + 1))) by rw [HT.out]; exact hown')
              have B10 := Lib.hid ((B9q.out.alloc hszq (.cells #[.int .u64 (ofF (fsum n fun i => co (wts n) i * co row i))] 39)).trans hbel')
              clear hown' hbel'
              go_wp2_with fail
              exact ⟨⟨q + 1, by omega, by go_num, K10.out, B10.out⟩, by simp [intOf] <;> omega⟩
        · obtain rfl : n = q := by omega
          have HTE := Lib.hid (show (G.map (weigh n)).take n = G.map (weigh n) from List.take_of_length_le (by rw [List.length_map, HGL.out]; exact Nat.le_refl _))
          rw [HTE.out] at KO
          go_wp2_with fail
          exact HP.out _ _ ⟨_, _, vs, rfl, KO.out.less BEL.out.size, KG.out.less_below BEL.out B9.out, below_trans BEL.out B9.out BEL.out.size⟩
end Go.Proofs.Ytknjcdlknnfhaaa
