/- Parties that run a circuit: a product. -/
import Derived.Test.YtegmeepogjijiaaEngS
import Derived.Test.YtegmeepogjijiaaMulW
import Derived.Test.YtegmeepogjijiaaTail
import Derived.Test.YtegmeepogjijiaaGates
import Derived.Test.YtegmeepogjijiaaCircX
namespace Go.Proofs.Ytegmeepogjijiaa
open Go.RowKit Croft

/-- rows that a call has made, apart from what parties see -/
structure Got (w : World) (vg : Value) (n : Nat) (vgs : List Value) (rows : List (List Int)) (vss : List Value) : Prop where
  outer : w.ownsRow 0 22 1 vg n vgs
  row : ∀ (i : Nat) (x : Value) (r : List Int), vgs[i]? = some x → rows[i]? = some r → OwnNums w 0 x r ∧ FarAll x vss
theorem Got.step {w w' : World} {b n : Nat} {vg : Value} {vgs vss vss' : List Value} {rows : List (List Int)} (h : Got w vg n vgs rows vss) (k : Keeps b w w' vss vss') (ho : w'.ownsRow 0 22 1 vg n vgs) : Got w' vg n vgs rows vss' :=
  ⟨ho, fun i x r hx hr => k.own _ _ _ (h.row i x r hx hr).1 (h.row i x r hx hr).2⟩
theorem ownsRow_zero {w : World} {base : Nat} {e : TypeId} {size n : Nat} {v : Value} {xs : List Value} (h : w.ownsRow base e size v n xs) : w.ownsRow 0 e size v n xs := by
  refine ⟨h.1, ?_⟩
  rcases h.2 with h1 | ⟨g, cap, cur, hv, hg, r⟩
  · exact .inl h1
  · exact .inr ⟨g, cap, cur, hv, Nat.zero_le _, r⟩
/-- append of many numbers, as a step of a region that draws -/
theorem step_push_many {ops : Array Oper} {o : Oper} {a : Act} {K : Act → World → Prop} {Q : Exit → Act → World → Prop} {E : Prop} {w : World} (hgd : o.guard = none) (s x : Operand)
    (ho : o.op = .call { callee := .builtin .append, args := #[s, x], argTypes := #[22, 22] })
    (base base2 : Nat) (v : Value) (r zs : List Int) (gg n cc : Nat) (hs : a.eval s = v) (hown : OwnNums w base v r) (hx : a.eval x = .slice (some ⟨gg, 0, none⟩) n cc)
    (hc : OwnNums w base2 (.slice (some ⟨gg, 0, none⟩) n cc) zs) (hp : 0 < n) (hl : r.length + n ≤ 17592186043904) (hb : base ≤ w.heap.size)
    (h : ∀ b cap w', OwnNums w' base (.slice (some ⟨b, 0, none⟩) (r.length + n) cap) (r ++ zs) → w.grownBy w' v.ownBlock → ((Value.slice (some ⟨b, 0, none⟩) (r.length + n) cap).ownBlock = v.ownBlock ∨ (Value.slice (some ⟨b, 0, none⟩) (r.length + n) cap).ownBlock = some w.heap.size) → K (a.put o.dst (.slice (some ⟨b, 0, none⟩) (r.length + n) cap)) w') : if Region.wanted o (yielded ops a.tmps) = true then Oper.wp Try.prog o a w K Q else E := by
  obtain ⟨i0, hi, hz0, hz1, hz2⟩ := info_parts uinfo
  have hn : n = zs.length := hc.len
  refine step_append_lies w hgd s x 22 ho base 23 i0 (.int .u64 0) 1 8 Try.underlying22 hi hz0 hz1 hz2 rfl (by decide) v r.length (u64s r) hs hown.1 ⟨gg, 0, none⟩ n cc (u64s zs) hx (by rw [u64s_length]; omega) ?_ (u64s_one zs) (by omega) ?_ ?_ hb _ rfl ?_
  · intro j u hu
    rw [u64s_get] at hu
    obtain ⟨z, hz, hzu⟩ := Option.map_eq_some_iff.1 hu
    rw [add_addr, ← hzu]
    simp only [Nat.zero_add]
    exact hc.cell hz
  · unfold maxLen; omega
  · omega
  · intro b cap w' h1 h2 h4 _
    refine h b cap w' ⟨?_, by simpa [hn] using hl, fun y hy => ?_⟩ h2 ?_
    · have e : (r ++ zs).length = r.length + n := by simp [hn]
      have e2 : u64s (r ++ zs) = u64s r ++ u64s zs := by simp [u64s]
      rw [e, e2]; exact h1
    · rcases List.mem_append.1 hy with h5 | h5
      · exact hown.2.2 y h5
      · exact hc.2.2 y h5
    · rcases h4 with h4 | h4
      · left; rw [h4]; rfl
      · right; rw [h4]; rfl
set_option maxRecDepth 100000 in
set_option maxHeartbeats 1000000 in
theorem eMul_ok (W0 w : World) (b g n t : Nat) (vi vd vw vx vy : Value) (vws vss : List Value) (xs ys ins ds : List Int) (ws : List (List Int)) (s : Nat → List Int)
    (h : St W0 w b g n t vi vd vw vws vss ins ds ws (rowsN n s)) (hx : OwnNums w W0.heap.size vx xs) (hy : OwnNums w W0.heap.size vy ys) (hfx : FarAll vx vss) (hfy : FarAll vy vss) (hxl : xs.length = n) (hyl : ys.length = n) (ht : t ≤ 4) (hn : 2 * t + 1 ≤ n) (hn9 : n ≤ 9) (hd : n * t ≤ ds.length) (hs : ∀ q, q < n → (s q).length ≤ 1000) :
    Calls Try.prog 127 #[.pointer (some ⟨b, 0, none⟩), vx, vy] w fun e w' => StRes W0 w b g n t vw vws vss ws e w' ins (ds.drop (n * t)) (ofFs (mulOut n t (toFs xs) (toFs ys) (toFs (ds.take (n * t))))) (rowsN n fun q => s q ++ ofFs ((gotM n t (toFs xs) (toFs ys) (toFs (ds.take (n * t)))).getD q [])) := by
  have H := Lib.hid h
  have HS := Lib.hid hs
  have HX := Lib.hid hx
  have HY := Lib.hid hy
  have HXL := Lib.hid hxl
  have HYL := Lib.hid hyl
  obtain ⟨M, hM⟩ : ∃ M, M = mulOut n t (toFs xs) (toFs ys) (toFs (ds.take (n * t))) := ⟨_, rfl⟩
  obtain ⟨G, hG⟩ : ∃ G, G = gotM n t (toFs xs) (toFs ys) (toFs (ds.take (n * t))) := ⟨_, rfl⟩
  have HGR := Lib.hid (show ∀ q, q < n → (G.map ofFs)[q]? = some (ofFs (G.getD q [])) ∧ (G.getD q []).length = n from fun q hq => by
    rw [hG]
    unfold gotM
    simp [List.getD, hq])
  rw [← hM, ← hG]
  have HML := Lib.hid (show M.length = n by rw [hM]; simp [mulOut, gotM])
  have HM := Lib.hid hM
  have HG := Lib.hid hG
  obtain ⟨s', hs'⟩ : ∃ s', s' = fun q => s q ++ ofFs (G.getD q []) := ⟨_, rfl⟩
  rw [← hs']
  have HSE := Lib.hid hs'
  suffices hgoal : ∀ Post : Ending → World → Prop, (∀ e w', StRes W0 w b g n t vw vws vss ws e w' ins (ds.drop (n * t)) (ofFs M) (rowsN n s') → Post e w') → Calls Try.prog 127 #[.pointer (some ⟨b, 0, none⟩), vx, vy] w Post from hgoal _ fun e w' h => h
  intro Post hpo
  have HPO := Lib.hid hpo
  have hnT : n * t ≤ 36 := Nat.mul_le_mul hn9 ht
  obtain ⟨K, hK⟩ : ∃ K, K = n * t := ⟨_, rfl⟩
  have hmul : ((n : Nat) : Int) * (t : Int) = ((K : Nat) : Int) := by rw [hK]; simp
  have HMUL := Lib.hid hmul
  have HK := Lib.hid hK
  rw [← hK] at hnT hd hpo
  obtain ⟨Ax, cx, hvx, _, _⟩ := own_form hx.1
  obtain ⟨Ay, cy, hvy, _, _⟩ := own_form hy.1
  obtain ⟨Ad, cd, hvd, hcd, _, _, _, _⟩ := h.ds
  subst hvd hvx hvy
  have hc0 := h.box.cell (i := 0) rfl
  have hc1 := h.box.cell (i := 1) rfl
  have BX1 := Lib.hid (h.box.drewN 1)
  have HDL := Lib.hid hd
  have KTAKE := Lib.hid (h.ds.first K hd)
  have KLAST := Lib.hid (h.ds.last K hd)
  have KTL := Lib.hid (show (ds.take K).length = n * t by rw [← hK]; simp; omega)
  have hB0 : W0.heap.size ≤ w.heap.size := h.pl.bel.size
  have HALL := Lib.hid (show ∀ W1, (w.drewN 1).setCell ⟨b, 3, none⟩ (.slice (if cd = K then Ad else Ad.map (·.add (K * 1))) (ds.length - K) (cd - K)) = W1 → St W0 W1 b g n t vi (.slice (if cd = K then Ad else Ad.map (·.add (K * 1))) (ds.length - K) (cd - K)) vw vws vss ins (ds.drop K) ws (rowsN n s) ∧ Keeps b w W1 vss vss ∧ IsNums W1 (.slice Ax xs.length cx) xs ∧ IsNums W1 (.slice Ay ys.length cy) ys from fun W1 hw => by
    subst hw
    have kp : Keeps b w ((w.drewN 1).setCell ⟨b, 3, none⟩ (.slice (if cd = K then Ad else Ad.map (·.add (K * 1))) (ds.length - K) (cd - K))) vss vss := (Keeps.of_below (below_drewN (Below.refl _ _) 1)).trans (Keeps.of_box BX1.out (by decide) _ _)
    exact ⟨⟨(h.pl.drewN 1).box BX1.out (by decide) (by decide) h.le _ _, BX1.out.set 3 _, h.le, h.ins, KLAST.out⟩, kp, (kp.own _ _ _ hx hfx).1.is, (kp.own _ _ _ hy hfy).1.is⟩)
  clear hK
  have hw1 : IntKind.i64.wrap ((n : Int) * (t : Int)) = (n : Int) * (t : Int) := IntWalk.i64_in _ (by rw [hmul]; omega)
  have hnT0 : 0 ≤ (n : Int) * (t : Int) ∧ (n : Int) * (t : Int) ≤ 36 := by rw [hmul]; omega
  clear h hmul hpo hfx hfy hs hs' hM hG hxl hyl
  go_enter Try.func127, Try.ntmps127
  go_wp2_with fail
  go_region_held3 (fun w' => w'.cell? ⟨b, 0, none⟩ = some (.int .i64 n) ∧ w'.cell? ⟨b, 1, none⟩ = some (.int .i64 t)) (go_keep) (first | (go_at_call 143; refine (eDrawn_any _ b ds.length cd K _ HMUL.out Ad _ _ _ _ _ BX1.out HDL.out hcd).mono ?_; rintro e W1 ⟨rfl, hw⟩; obtain ⟨ST1, KP1, KX1, KY1⟩ := HALL.out W1 hw; have q0 := ST1.box.cell (i := 0) rfl; have q1 := ST1.box.cell (i := 1) rfl; have BL := ST1.pl.bel) | (go_at_call 34; refine (gMul_ok n t _ _ _ xs ys (ds.take K) _ KX1 KY1 (KTAKE.out.below BL) HXL.out HYL.out KTL.out ht hn hn9).mono ?_; rintro e W2 ⟨vl, vg, vgs, rfl, ho, hgr, hap, hb2⟩; have q4 := (ST1.below hb2).box.cell (i := 0) rfl; have q5 := (ST1.below hb2).box.cell (i := 1) rfl; have HO := Lib.hid ho; have HGRD := Lib.hid hgr; have HB2 := Lib.hid hb2; clear ho hgr hap hb2))
  have ho := HO.out
  have hgr := HGRD.out
  have hb2 := HB2.out
  have ST2 := ST1.below hb2
  have KP2 := KP1.trans (Keeps.of_below (s := vss) hb2)
  have hszl : w.heap.size ≤ W1.heap.size := KP1.size
  rw [HK.out, ← HM.out] at ho
  rw [HK.out, ← HG.out] at hgr
  have hgl : (G.map ofFs).length = n := by rw [HG.out]; simp [gotM]
  obtain ⟨gl, cl, hvl, hgl1, hgl2⟩ := own_slice ho.1 (by rw [ofFs_length, HML.out]; omega)
  rw [ofFs_length, HML.out] at hvl
  obtain ⟨gg, cg, hvg, hgg1, hgg2⟩ := own_slice hgr.outer (by rw [hgl]; omega)
  rw [hgl] at hvg
  subst hvl hvg
  have hgn : gg ≠ g := by have := (ST1.pl.seen.outer.lt g rfl).2; omega
  have ST3 := Lib.hid ST2
  have KP3 := Lib.hid KP2
  have KL3 := Lib.hid (show OwnNums W2 W1.heap.size (.slice (some ⟨gl, 0, none⟩) n cl) (ofFs M) ∧ FarAll (.slice (some ⟨gl, 0, none⟩) n cl) vss from ⟨ho, FarAll.fresh ST1.pl.seen ho.over⟩)
  have hout := hgr.outer
  rw [hgl] at hout
  have KG3 := Lib.hid (show Got W2 (.slice (some ⟨gg, 0, none⟩) n cg) n vgs (G.map ofFs) vss from
    ⟨ownsRow_zero hout, fun i x r hx hr => ⟨(hgr.row i x r hx hr).less (Nat.zero_le _), FarAll.fresh ST1.pl.seen (hgr.row i x r hx hr).over⟩⟩)
  have HGV := Lib.hid (show vgs.length = n by rw [hgr.vlen, hgl])
  have hglw : w.heap.size ≤ gl := by omega
  clear ST1 ST2 KP1 KP2 KX1 KY1 ho hgr hb2 hout q0 q1 q4 q5 BL hc0 hc1 BX1 KTAKE KLAST KTL HALL H HO HGRD HB2 hgl1 hgl2 hgg1 hgg2 hgl
  go_wp2_with fail
  go_loopw [36] (fun x wr => ∃ (j : Nat) (vss' : List Value), j ≤ n ∧ x = .int .i64 j ∧ St W0 wr b g n t vi (.slice (if cd = K then Ad else Ad.map (·.add (K * 1))) (ds.length - K) (cd - K)) vw vws vss' ins (ds.drop K) ws (rowsN n (mixR s' s j)) ∧ OwnNums wr W1.heap.size (.slice (some ⟨gl, 0, none⟩) n cl) (ofFs M) ∧ FarAll (.slice (some ⟨gl, 0, none⟩) n cl) vss' ∧ Got wr (.slice (some ⟨gg, 0, none⟩) n cg) n vgs (G.map ofFs) vss' ∧ Keeps b w wr vss vss') (fun x _ => n - (intOf x).toNat)
  case atStart => exact ⟨0, vss, Nat.zero_le _, rfl, by rw [mixR_zero]; exact ST3.out, KL3.out.1, KL3.out.2, KG3.out, KP3.out⟩
  case round =>
    obtain ⟨j, vss', hj, rfl, hst, hown, hfar, hgot, hkp⟩ := hrel
    clear ST3 KL3 KP3 KG3
    have ST3 := Lib.hid hst
    have KO := Lib.hid hown
    have FA := Lib.hid hfar
    have KP := Lib.hid hkp
    have KG := Lib.hid hgot
    clear hst hown hfar hkp hgot
    by_cases hlt : j < n
    · have hdj : decide ((j : Int) < (n : Int)) = true := by simp; omega
      obtain ⟨hGj, hGl⟩ := HGR.out j hlt
      obtain ⟨xg, hxg⟩ : ∃ xg, vgs[j]? = some xg := ⟨_, List.getElem?_eq_getElem (by rw [HGV.out]; exact hlt)⟩
      have hrg := (KG.out.row j xg _ hxg hGj).1
      obtain ⟨gx, cx2, hvx, hgx1, hgx2⟩ := own_slice hrg.1 (by rw [ofFs_length, hGl]; omega)
      rw [ofFs_length, hGl] at hvx
      subst hvx
      have hcg0 := KG.out.outer.cellAt j (by omega)
      rw [hxg] at hcg0
      have hc5 := ST3.out.box.cell (i := 5) rfl
      obtain ⟨y, hy⟩ : ∃ y, vss'[j]? = some y := ⟨_, List.getElem?_eq_getElem (by rw [ST3.out.pl.seen.vlen, rowsN_length]; exact hlt)⟩
      have hcg := ST3.out.pl.seen.cell hy
      have hrj : (rowsN n (mixR s' s j))[j]? = some (s j) := by rw [rowsN_get _ hlt, mixR_at]
      have hrow := ST3.out.pl.seen.row j y _ hy hrj
      have HY := Lib.hid hy
      have HRJ := Lib.hid hrj
      have HROW := Lib.hid hrow
      have HRG := Lib.hid hrg
      have HXG := Lib.hid hxg
      have HGJ := Lib.hid hGj
      have hsl1 := HS.out j hlt
      have hB : W0.heap.size ≤ wr.heap.size := ST3.out.pl.bel.size
      have hgb : g < wr.heap.size := (ST3.out.pl.seen.outer.lt g rfl).2
      have hbb2 : b < wr.heap.size := ST3.out.box.lt
      have HPUSH := Lib.hid (show ∀ (bb cap : Nat) (w7 : World), OwnNums w7 W0.heap.size (.slice (some ⟨bb, 0, none⟩) ((s j).length + n) cap) (s j ++ (ofFs (G.getD j []))) → (wr.drewN 1).grownBy w7 y.ownBlock → ((Value.slice (some ⟨bb, 0, none⟩) ((s j).length + n) cap).ownBlock = y.ownBlock ∨ (Value.slice (some ⟨bb, 0, none⟩) ((s j).length + n) cap).ownBlock = some (wr.drewN 1).heap.size) →
          w7.cell? ⟨b, 5, none⟩ = some (.slice (some ⟨g, 0, none⟩) n n) ∧ w7.cell? ⟨g, j, none⟩ = some y ∧ w7.frozen? ⟨g, j, none⟩ = false ∧ St W0 (w7.setCell ⟨g, j, none⟩ (.slice (some ⟨bb, 0, none⟩) ((s j).length + n) cap)) b g n t vi (.slice (if cd = K then Ad else Ad.map (·.add (K * 1))) (ds.length - K) (cd - K)) vw vws (vss'.set j (.slice (some ⟨bb, 0, none⟩) ((s j).length + n) cap)) ins (ds.drop K) ws (rowsN n (mixR s' s (j + 1))) ∧ Keeps b wr (w7.setCell ⟨g, j, none⟩ (.slice (some ⟨bb, 0, none⟩) ((s j).length + n) cap)) vss' (vss'.set j (.slice (some ⟨bb, 0, none⟩) ((s j).length + n) cap)) ∧ Got (w7.setCell ⟨g, j, none⟩ (.slice (some ⟨bb, 0, none⟩) ((s j).length + n) cap)) (.slice (some ⟨gg, 0, none⟩) n cg) n vgs (G.map ofFs) (vss'.set j (.slice (some ⟨bb, 0, none⟩) ((s j).length + n) cap)) from fun bb cap w7 ho hg hat => by
        have hb1 : Below wr.heap.size wr (wr.drewN 1) := below_drewN (Below.refl _ _) 1
        have STb := ST3.out.below hb1
        obtain ⟨k1, k2, k3, k4⟩ := STb.push HY.out HRJ.out ho hg hat
        have hbx := (STb.box.grown hg (fun e => box_row_ne STb.box (STb.pl.seen.row j y _ HY.out HRJ.out).1 (by decide) e)).cell (i := 5) rfl
        have hk3 : (rowsN n (mixR s' s j)).set j (s j ++ (ofFs (G.getD j []))) = rowsN n (mixR s' s (j + 1)) := by
          have h := mixR_set s' s hlt
          rw [show s' j = s j ++ (ofFs (G.getD j [])) by rw [HSE.out]] at h
          exact h
        have kp := (Keeps.of_below (b := b) (s := vss') hb1).trans (k4.weaken (by have := hg.size; omega))
        have ko := STb.pl.push_outer HY.out HRJ.out hg (own_kept KG.out.outer hb1) (j := j) (y' := (.slice (some ⟨bb, 0, none⟩) ((s j).length + n) cap)) (fun e => hgn (Option.some.inj e))
        rw [hk3] at k3
        exact ⟨hbx, k1, k2, k3, kp, KG.out.step kp ko⟩)
      clear hy hrj hrow hrg hxg hGj hGl
      go_wp2_with fail
      go_region_law ((refine step_push_many rfl _ _ (by rfl) W0.heap.size 0 y (s j) (ofFs (G.getD j [])) gx n cx2 (by rfl) (HROW.out.drewN 1) (by rfl) (HRG.out.drewN 1) (by omega) (by omega) hB ?_; intro bb cap w7 ho7 hg7 hat7; obtain ⟨hc7, hk7, hf7, ST7, KP7, KG7⟩ := HPUSH.out bb cap w7 ho7 hg7 hat7))
      all_goals
        have KO8 := Lib.hid (KP7.own _ _ _ KO.out FA.out)
        have ST8 := Lib.hid ST7
        have KP8 := Lib.hid (KP.out.trans KP7)
        have KG8 := Lib.hid KG7
        clear hc7 hk7 hf7 ST7 KP7 ho7 hg7 hat7 hcg0 hc5 hcg KG7
        go_wp2_with fail
        exact ⟨⟨j + 1, vss'.set j (.slice (some ⟨bb, 0, none⟩) ((s j).length + n) cap), by omega, by go_num, ST8.out, KO8.out.1, KO8.out.2, KG8.out, KP8.out⟩, by simp [intOf] <;> omega⟩
    · obtain rfl : n = j := by omega
      rw [mixR_all] at ST3
      have hdj : decide ((n : Int) < (n : Int)) = false := by simp
      go_wp2_with fail
      refine HPO.out _ _ ⟨_, vi, (.slice (if cd = K then Ad else Ad.map (·.add (K * 1))) (ds.length - K) (cd - K)), vss', rfl, KO.out.less (by omega), (fun c hc => by injection hc with hc; subst hc; exact hglw), FA.out, ?_, KP.out⟩
      rw [← HK.out]
      exact ST3.out
end Go.Proofs.Ytegmeepogjijiaa
namespace Go.Proofs.Ytegmeepogjijiaa
open Go.RowKit Croft

section
variable {W0 w w1 w' : World} {b g n t : Nat} {vi vd vw v : Value} {vws vss : List Value} {ins ds ins' ds' l : List Int} {ws seen seen' : List (List Int)} {e : Ending}
theorem St.made (h : St W0 w b g n t vi vd vw vws vss ins ds ws seen) {B : Nat} (hb : Below w.heap.size w w') (ho : OwnNums w' B v l) (hB : w.heap.size ≤ B) : StRes W0 w b g n t vw vws vss ws (.returned v) w' ins ds l seen :=
  ⟨v, vi, vd, vss, rfl, ho.less (Nat.le_trans h.pl.bel.size hB), fun c hc => Nat.le_trans hB (ho.over c hc), FarAll.fresh h.pl.seen (fun c hc => Nat.le_trans hB (ho.over c hc)), h.below hb, Keeps.of_below hb⟩
theorem StRes.after (hb : Below w.heap.size w w1) (h : StRes W0 w1 b g n t vw vws vss ws e w' ins ds l seen) : StRes W0 w b g n t vw vws vss ws e w' ins ds l seen := by
  obtain ⟨v, vi, vd, vss', he, ho, hv, hf, hs, hk⟩ := h
  exact ⟨v, vi, vd, vss', he, ho, fun c hc => Nat.le_trans hb.size (hv c hc), hf, hs, (Keeps.of_below hb).trans hk⟩
theorem St.wireAt {WF : List (List F)} (h : St W0 w b g n t vi vd vw vws vss ins ds (WF.map ofFs) seen) {a : Nat} (ha : a < WF.length) : ∃ x, vws[a]? = some x ∧ OwnNums w W0.heap.size x (ofFs (wr WF a)) ∧ FarAll x vss := by
  have hl := h.pl.wires.vlen
  rw [List.length_map] at hl
  obtain ⟨x, hx⟩ : ∃ x, vws[a]? = some x := ⟨_, List.getElem?_eq_getElem (by omega)⟩
  exact ⟨x, hx, h.pl.wires.row a x _ hx (by rw [List.getElem?_map, wr_get ha]; rfl), h.pl.rows a x hx⟩
end
theorem zipS_ofFs (op : F → F → F) (a b : List F) : zipS op (ofFs a) (ofFs b) = ofFs (List.zipWith op a b) := by
  have e : ∀ l : List F, (ofFs l).map toF = l := fun l => toFs_ofFs l
  unfold zipS
  rw [e, e]; rfl
theorem eachL_ofFs (op : F → F → F) {a b : List F} {n : Nat} (ha : a.length = n) (hb : b.length = n) (h1 : 1 ≤ n) (h9 : n ≤ 9) : eachL op (ofFs a) (ofFs b) = ofFs (List.zipWith op a b) := by
  unfold eachL
  rw [if_pos (wire2E_ok (by rw [ofFs_length]; omega) (by rw [ofFs_length]; omega) (by rw [ofFs_length, ofFs_length]; omega)), zipS_ofFs]
theorem oneL_ofFs {a : List F} {n : Nat} (x : Int) (ha : a.length = n) (h1 : 1 ≤ n) (h9 : n ≤ 9) : oneL (· * ·) (ofFs a) x = ofFs (a.map (· * toF x)) := by
  unfold oneL
  rw [if_pos (by unfold wireE wireB; rw [if_pos (by simp [ofFs_length]; omega)])]
  simp [ofFs, toF_ofF, Function.comp_def]
def gcell (k a b n : Int) : Obj := .cells #[.int .i64 k, .int .i64 a, .int .i64 b, .int .u64 n] 122

set_option maxRecDepth 100000 in
set_option maxHeartbeats 1000000 in
theorem eWire_3 (W0 w : World) (b g n t : Nat) (vi vd vw : Value) (vws vss : List Value) (ins ds : List Int) (WF : List (List F)) (s : Nat → List Int) (a c : Nat) (m : Int)
    (h : St W0 w b g n t vi vd vw vws vss ins ds (WF.map ofFs) (rowsN n s)) (ha : a < WF.length) (hc : c < WF.length) (hl : ∀ l ∈ WF, l.length = n) (hn : 1 ≤ n) (hn9 : n ≤ 9) (_hm : U64 m) :
    Calls Try.prog 84 #[.pointer (some ⟨b, 0, none⟩), .agg #[.int .i64 3, .int .i64 a, .int .i64 c, .int .u64 m]] w fun e w' => StRes W0 w b g n t vw vws vss (WF.map ofFs) e w' ins ds (ofFs (List.zipWith (· + ·) (wr WF a) (wr WF c))) (rowsN n s) := by
  have H := Lib.hid h
  have BB := Lib.hid ((Below.refl w.heap.size w).alloc (Nat.le_refl _) (.cells #[.int .i64 3, .int .i64 a, .int .i64 c, .int .u64 m] 122))
  obtain ⟨gw, cw, hvw, hgw1, hgw2⟩ := own_slice h.pl.wires.outer (by rw [List.length_map]; omega)
  rw [List.length_map] at hvw
  subst hvw
  have hwl : WF.length ≤ 17592186043904 := by have := h.pl.wires.len; rw [List.length_map] at this; omega
  obtain ⟨xa, hxa, hoa, _⟩ := h.wireAt ha
  have hca := h.pl.wires.cell hxa
  have KA := Lib.hid (hoa.is.below BB.out)
  have hla := hl _ (List.mem_of_getElem? (wr_get ha))
  obtain ⟨xc, hxc, hoc, _⟩ := h.wireAt hc
  have hcc := h.pl.wires.cell hxc
  have KC := Lib.hid (hoc.is.below BB.out)
  have hlc := hl _ (List.mem_of_getElem? (wr_get hc))
  have hc4 := h.box.cell (i := 4) rfl
  have hbl := h.box.lt
  have HRES := Lib.hid (show ∀ W1 W2 v, W1 = w.alloc (.cells #[.int .i64 3, .int .i64 a, .int .i64 c, .int .u64 m] 122) → Below (W1.drewN 1).heap.size (W1.drewN 1) W2 → OwnNums W2 (W1.drewN 1).heap.size v (eachL (· + ·) (ofFs (wr WF a)) (ofFs (wr WF c))) → StRes W0 w b g n t (.slice (some ⟨gw, 0, none⟩) WF.length cw) vws vss (WF.map ofFs) (.returned v) W2 ins ds (ofFs (List.zipWith (· + ·) (wr WF a) (wr WF c))) (rowsN n s) from fun W1 W2 v hW hb ho => by
    subst hW
    rw [eachL_ofFs _ hla hlc hn hn9] at ho
    have hb1 : Below w.heap.size w ((w.alloc (.cells #[.int .i64 3, .int .i64 a, .int .i64 c, .int .u64 m] 122)).drewN 1) := below_drewN BB.out 1
    exact h.made (below_trans hb1 hb hb1.size) ho hb1.size)
  suffices hgoal : ∀ Post : Ending → World → Prop, (∀ e w', StRes W0 w b g n t (.slice (some ⟨gw, 0, none⟩) WF.length cw) vws vss (WF.map ofFs) e w' ins ds (ofFs (List.zipWith (· + ·) (wr WF a) (wr WF c))) (rowsN n s) → Post e w') → Calls Try.prog 84 #[.pointer (some ⟨b, 0, none⟩), .agg #[.int .i64 3, .int .i64 a, .int .i64 c, .int .u64 m]] w Post from hgoal _ fun e w' h => h
  intro Post hp
  have HP := Lib.hid hp
  clear hp h hl hoa hxa hla hoc hxc hlc
  go_enter Try.func84, Try.ntmps84
  go_wp2_with fail
  obtain ⟨W1, hW1⟩ : ∃ W1, W1 = w.alloc (.cells #[.int .i64 3, .int .i64 a, .int .i64 c, .int .u64 m] 122) := ⟨_, rfl⟩
  rw [← hW1] at KA KC BB
  have HW1 := Lib.hid hW1
  have p0 : W1.cell? ⟨b, 4, none⟩ = some (.slice (some ⟨gw, 0, none⟩) WF.length cw) := (BB.out.cell (p := ⟨b, 4, none⟩) hbl).trans hc4
  have p1 : W1.cell? ⟨w.heap.size, 1, none⟩ = some (.int .i64 a) := by rw [hW1]; exact (Box.new w 122 [.int .i64 3, .int .i64 a, .int .i64 c, .int .u64 m]).cell (i := 1) rfl
  have p2 : W1.cell? ⟨w.heap.size, 2, none⟩ = some (.int .i64 c) := by rw [hW1]; exact (Box.new w 122 [.int .i64 3, .int .i64 a, .int .i64 c, .int .u64 m]).cell (i := 2) rfl
  have p3 : W1.cell? ⟨gw, a, none⟩ = some xa := (BB.out.cell (p := ⟨gw, a, none⟩) hgw2).trans hca
  have p4 : W1.cell? ⟨gw, c, none⟩ = some xc := (BB.out.cell (p := ⟨gw, c, none⟩) hgw2).trans hcc
  have hs1 : w.heap.size + 1 = W1.heap.size := by rw [hW1, size_alloc]
  clear hc4 hca hcc
  rw [← hW1]
  clear hW1
  go_region_held3 (fun w' => w'.cell? ⟨b, 4, none⟩ = some (.slice (some ⟨gw, 0, none⟩) WF.length cw) ∧ w'.cell? ⟨w.heap.size, 1, none⟩ = some (.int .i64 a) ∧ w'.cell? ⟨w.heap.size, 2, none⟩ = some (.int .i64 c) ∧ w'.cell? ⟨gw, a, none⟩ = some xa ∧ w'.cell? ⟨gw, c, none⟩ = some xc) (go_keep) (first | (go_at_call 36; refine (gAdd_any _ _ (ofFs (wr WF a)) (ofFs (wr WF c)) _ (KA.out.drewN 1) (KC.out.drewN 1)).mono ?_; rintro e W2 ⟨v, rfl, ho, hb2⟩; have q0 := (hb2.cell (p := ⟨b, 4, none⟩) (show b < W1.heap.size by omega)).trans p0; have q1 := (hb2.cell (p := ⟨w.heap.size, 1, none⟩) (show w.heap.size < W1.heap.size by omega)).trans p1; have q2 := (hb2.cell (p := ⟨w.heap.size, 2, none⟩) (show w.heap.size < W1.heap.size by omega)).trans p2; have q3 := (hb2.cell (p := ⟨gw, a, none⟩) (show gw < W1.heap.size by omega)).trans p3; have q4 := (hb2.cell (p := ⟨gw, c, none⟩) (show gw < W1.heap.size by omega)).trans p4; have HO := Lib.hid (HRES.out W1 W2 v HW1.out hb2 ho); clear ho hb2))
  go_wp2_with fail
  exact HP.out _ _ HO.out
set_option maxRecDepth 100000 in
set_option maxHeartbeats 1000000 in
theorem eWire_4 (W0 w : World) (b g n t : Nat) (vi vd vw : Value) (vws vss : List Value) (ins ds : List Int) (WF : List (List F)) (s : Nat → List Int) (a c : Nat) (m : Int)
    (h : St W0 w b g n t vi vd vw vws vss ins ds (WF.map ofFs) (rowsN n s)) (ha : a < WF.length) (hc : c < WF.length) (hl : ∀ l ∈ WF, l.length = n) (hn : 1 ≤ n) (hn9 : n ≤ 9) (_hm : U64 m) :
    Calls Try.prog 84 #[.pointer (some ⟨b, 0, none⟩), .agg #[.int .i64 4, .int .i64 a, .int .i64 c, .int .u64 m]] w fun e w' => StRes W0 w b g n t vw vws vss (WF.map ofFs) e w' ins ds (ofFs (List.zipWith (· - ·) (wr WF a) (wr WF c))) (rowsN n s) := by
  have H := Lib.hid h
  have BB := Lib.hid ((Below.refl w.heap.size w).alloc (Nat.le_refl _) (.cells #[.int .i64 4, .int .i64 a, .int .i64 c, .int .u64 m] 122))
  obtain ⟨gw, cw, hvw, hgw1, hgw2⟩ := own_slice h.pl.wires.outer (by rw [List.length_map]; omega)
  rw [List.length_map] at hvw
  subst hvw
  have hwl : WF.length ≤ 17592186043904 := by have := h.pl.wires.len; rw [List.length_map] at this; omega
  obtain ⟨xa, hxa, hoa, _⟩ := h.wireAt ha
  have hca := h.pl.wires.cell hxa
  have KA := Lib.hid (hoa.is.below BB.out)
  have hla := hl _ (List.mem_of_getElem? (wr_get ha))
  obtain ⟨xc, hxc, hoc, _⟩ := h.wireAt hc
  have hcc := h.pl.wires.cell hxc
  have KC := Lib.hid (hoc.is.below BB.out)
  have hlc := hl _ (List.mem_of_getElem? (wr_get hc))
  have hc4 := h.box.cell (i := 4) rfl
  have hbl := h.box.lt
  have HRES := Lib.hid (show ∀ W1 W2 v, W1 = w.alloc (.cells #[.int .i64 4, .int .i64 a, .int .i64 c, .int .u64 m] 122) → Below (W1.drewN 1).heap.size (W1.drewN 1) W2 → OwnNums W2 (W1.drewN 1).heap.size v (eachL (· - ·) (ofFs (wr WF a)) (ofFs (wr WF c))) → StRes W0 w b g n t (.slice (some ⟨gw, 0, none⟩) WF.length cw) vws vss (WF.map ofFs) (.returned v) W2 ins ds (ofFs (List.zipWith (· - ·) (wr WF a) (wr WF c))) (rowsN n s) from fun W1 W2 v hW hb ho => by
    subst hW
    rw [eachL_ofFs _ hla hlc hn hn9] at ho
    have hb1 : Below w.heap.size w ((w.alloc (.cells #[.int .i64 4, .int .i64 a, .int .i64 c, .int .u64 m] 122)).drewN 1) := below_drewN BB.out 1
    exact h.made (below_trans hb1 hb hb1.size) ho hb1.size)
  suffices hgoal : ∀ Post : Ending → World → Prop, (∀ e w', StRes W0 w b g n t (.slice (some ⟨gw, 0, none⟩) WF.length cw) vws vss (WF.map ofFs) e w' ins ds (ofFs (List.zipWith (· - ·) (wr WF a) (wr WF c))) (rowsN n s) → Post e w') → Calls Try.prog 84 #[.pointer (some ⟨b, 0, none⟩), .agg #[.int .i64 4, .int .i64 a, .int .i64 c, .int .u64 m]] w Post from hgoal _ fun e w' h => h
  intro Post hp
  have HP := Lib.hid hp
  clear hp h hl hoa hxa hla hoc hxc hlc
  go_enter Try.func84, Try.ntmps84
  go_wp2_with fail
  obtain ⟨W1, hW1⟩ : ∃ W1, W1 = w.alloc (.cells #[.int .i64 4, .int .i64 a, .int .i64 c, .int .u64 m] 122) := ⟨_, rfl⟩
  rw [← hW1] at KA KC BB
  have HW1 := Lib.hid hW1
  have p0 : W1.cell? ⟨b, 4, none⟩ = some (.slice (some ⟨gw, 0, none⟩) WF.length cw) := (BB.out.cell (p := ⟨b, 4, none⟩) hbl).trans hc4
  have p1 : W1.cell? ⟨w.heap.size, 1, none⟩ = some (.int .i64 a) := by rw [hW1]; exact (Box.new w 122 [.int .i64 4, .int .i64 a, .int .i64 c, .int .u64 m]).cell (i := 1) rfl
  have p2 : W1.cell? ⟨w.heap.size, 2, none⟩ = some (.int .i64 c) := by rw [hW1]; exact (Box.new w 122 [.int .i64 4, .int .i64 a, .int .i64 c, .int .u64 m]).cell (i := 2) rfl
  have p3 : W1.cell? ⟨gw, a, none⟩ = some xa := (BB.out.cell (p := ⟨gw, a, none⟩) hgw2).trans hca
  have p4 : W1.cell? ⟨gw, c, none⟩ = some xc := (BB.out.cell (p := ⟨gw, c, none⟩) hgw2).trans hcc
  have hs1 : w.heap.size + 1 = W1.heap.size := by rw [hW1, size_alloc]
  clear hc4 hca hcc
  rw [← hW1]
  clear hW1
  go_region_held3 (fun w' => w'.cell? ⟨b, 4, none⟩ = some (.slice (some ⟨gw, 0, none⟩) WF.length cw) ∧ w'.cell? ⟨w.heap.size, 1, none⟩ = some (.int .i64 a) ∧ w'.cell? ⟨w.heap.size, 2, none⟩ = some (.int .i64 c) ∧ w'.cell? ⟨gw, a, none⟩ = some xa ∧ w'.cell? ⟨gw, c, none⟩ = some xc) (go_keep) (first | (go_at_call 126; refine (gSub_any _ _ (ofFs (wr WF a)) (ofFs (wr WF c)) _ (KA.out.drewN 1) (KC.out.drewN 1)).mono ?_; rintro e W2 ⟨v, rfl, ho, hb2⟩; have q0 := (hb2.cell (p := ⟨b, 4, none⟩) (show b < W1.heap.size by omega)).trans p0; have q1 := (hb2.cell (p := ⟨w.heap.size, 1, none⟩) (show w.heap.size < W1.heap.size by omega)).trans p1; have q2 := (hb2.cell (p := ⟨w.heap.size, 2, none⟩) (show w.heap.size < W1.heap.size by omega)).trans p2; have q3 := (hb2.cell (p := ⟨gw, a, none⟩) (show gw < W1.heap.size by omega)).trans p3; have q4 := (hb2.cell (p := ⟨gw, c, none⟩) (show gw < W1.heap.size by omega)).trans p4; have HO := Lib.hid (HRES.out W1 W2 v HW1.out hb2 ho); clear ho hb2))
  go_wp2_with fail
  exact HP.out _ _ HO.out
set_option maxRecDepth 100000 in
set_option maxHeartbeats 1000000 in
theorem eWire_6 (W0 w : World) (b g n t : Nat) (vi vd vw : Value) (vws vss : List Value) (ins ds : List Int) (WF : List (List F)) (s : Nat → List Int) (a : Nat) (c m : Int)
    (h : St W0 w b g n t vi vd vw vws vss ins ds (WF.map ofFs) (rowsN n s)) (ha : a < WF.length) (hl : ∀ l ∈ WF, l.length = n) (hn : 1 ≤ n) (hn9 : n ≤ 9) (hm : U64 m) :
    Calls Try.prog 84 #[.pointer (some ⟨b, 0, none⟩), .agg #[.int .i64 6, .int .i64 a, .int .i64 c, .int .u64 m]] w fun e w' => StRes W0 w b g n t vw vws vss (WF.map ofFs) e w' ins ds (ofFs ((wr WF a).map (· * toF m))) (rowsN n s) := by
  have H := Lib.hid h
  have BB := Lib.hid ((Below.refl w.heap.size w).alloc (Nat.le_refl _) (.cells #[.int .i64 6, .int .i64 a, .int .i64 c, .int .u64 m] 122))
  obtain ⟨gw, cw, hvw, hgw1, hgw2⟩ := own_slice h.pl.wires.outer (by rw [List.length_map]; omega)
  rw [List.length_map] at hvw
  subst hvw
  have hwl : WF.length ≤ 17592186043904 := by have := h.pl.wires.len; rw [List.length_map] at this; omega
  obtain ⟨xa, hxa, hoa, _⟩ := h.wireAt ha
  have hca := h.pl.wires.cell hxa
  have KA := Lib.hid (hoa.is.below BB.out)
  have hla := hl _ (List.mem_of_getElem? (wr_get ha))
  have hc4 := h.box.cell (i := 4) rfl
  have hbl := h.box.lt
  have HRES := Lib.hid (show ∀ W1 W2 v, W1 = w.alloc (.cells #[.int .i64 6, .int .i64 a, .int .i64 c, .int .u64 m] 122) → Below (W1.drewN 1).heap.size (W1.drewN 1) W2 → OwnNums W2 (W1.drewN 1).heap.size v (oneL (· * ·) (ofFs (wr WF a)) m) → StRes W0 w b g n t (.slice (some ⟨gw, 0, none⟩) WF.length cw) vws vss (WF.map ofFs) (.returned v) W2 ins ds (ofFs ((wr WF a).map (· * toF m))) (rowsN n s) from fun W1 W2 v hW hb ho => by
    subst hW
    rw [oneL_ofFs m hla hn hn9] at ho
    have hb1 : Below w.heap.size w ((w.alloc (.cells #[.int .i64 6, .int .i64 a, .int .i64 c, .int .u64 m] 122)).drewN 1) := below_drewN BB.out 1
    exact h.made (below_trans hb1 hb hb1.size) ho hb1.size)
  suffices hgoal : ∀ Post : Ending → World → Prop, (∀ e w', StRes W0 w b g n t (.slice (some ⟨gw, 0, none⟩) WF.length cw) vws vss (WF.map ofFs) e w' ins ds (ofFs ((wr WF a).map (· * toF m))) (rowsN n s) → Post e w') → Calls Try.prog 84 #[.pointer (some ⟨b, 0, none⟩), .agg #[.int .i64 6, .int .i64 a, .int .i64 c, .int .u64 m]] w Post from hgoal _ fun e w' h => h
  intro Post hp
  have HP := Lib.hid hp
  clear hp h hl hoa hxa hla 
  go_enter Try.func84, Try.ntmps84
  go_wp2_with fail
  obtain ⟨W1, hW1⟩ : ∃ W1, W1 = w.alloc (.cells #[.int .i64 6, .int .i64 a, .int .i64 c, .int .u64 m] 122) := ⟨_, rfl⟩
  rw [← hW1] at KA BB
  have HW1 := Lib.hid hW1
  have p0 : W1.cell? ⟨b, 4, none⟩ = some (.slice (some ⟨gw, 0, none⟩) WF.length cw) := (BB.out.cell (p := ⟨b, 4, none⟩) hbl).trans hc4
  have p1 : W1.cell? ⟨w.heap.size, 1, none⟩ = some (.int .i64 a) := by rw [hW1]; exact (Box.new w 122 [.int .i64 6, .int .i64 a, .int .i64 c, .int .u64 m]).cell (i := 1) rfl
  have p2 : W1.cell? ⟨w.heap.size, 3, none⟩ = some (.int .u64 m) := by rw [hW1]; exact (Box.new w 122 [.int .i64 6, .int .i64 a, .int .i64 c, .int .u64 m]).cell (i := 3) rfl
  have p3 : W1.cell? ⟨gw, a, none⟩ = some xa := (BB.out.cell (p := ⟨gw, a, none⟩) hgw2).trans hca
  have hm0 := hm.1
  have hs1 : w.heap.size + 1 = W1.heap.size := by rw [hW1, size_alloc]
  clear hc4 hca 
  rw [← hW1]
  clear hW1
  go_region_held3 (fun w' => w'.cell? ⟨b, 4, none⟩ = some (.slice (some ⟨gw, 0, none⟩) WF.length cw) ∧ w'.cell? ⟨w.heap.size, 1, none⟩ = some (.int .i64 a) ∧ w'.cell? ⟨w.heap.size, 3, none⟩ = some (.int .u64 m) ∧ w'.cell? ⟨gw, a, none⟩ = some xa) (go_keep) (first | (go_at_call 73; refine (gScale_any _ (ofFs (wr WF a)) m _ (KA.out.drewN 1) hm).mono ?_; rintro e W2 ⟨v, rfl, ho, hb2⟩; have q0 := (hb2.cell (p := ⟨b, 4, none⟩) (show b < W1.heap.size by omega)).trans p0; have q1 := (hb2.cell (p := ⟨w.heap.size, 1, none⟩) (show w.heap.size < W1.heap.size by omega)).trans p1; have q2 := (hb2.cell (p := ⟨w.heap.size, 3, none⟩) (show w.heap.size < W1.heap.size by omega)).trans p2; have q3 := (hb2.cell (p := ⟨gw, a, none⟩) (show gw < W1.heap.size by omega)).trans p3; have HO := Lib.hid (HRES.out W1 W2 v HW1.out hb2 ho); clear ho hb2))
  go_wp2_with fail
  exact HP.out _ _ HO.out
set_option maxRecDepth 100000 in
set_option maxHeartbeats 1000000 in
theorem eWire_5 (W0 w : World) (b g n t : Nat) (vi vd vw : Value) (vws vss : List Value) (ins ds : List Int) (WF : List (List F)) (s : Nat → List Int) (a c : Nat) (m : Int)
    (h : St W0 w b g n t vi vd vw vws vss ins ds (WF.map ofFs) (rowsN n s)) (ha : a < WF.length) (hc : c < WF.length) (hl : ∀ l ∈ WF, l.length = n) (ht : t ≤ 4) (hn : 2 * t + 1 ≤ n) (hn9 : n ≤ 9) (hd : n * t ≤ ds.length) (hs : ∀ q, q < n → (s q).length ≤ 1000) :
    Calls Try.prog 84 #[.pointer (some ⟨b, 0, none⟩), .agg #[.int .i64 5, .int .i64 a, .int .i64 c, .int .u64 m]] w fun e w' => StRes W0 w b g n t vw vws vss (WF.map ofFs) e w' ins (ds.drop (n * t)) (ofFs (mulOut n t (wr WF a) (wr WF c) (toFs (ds.take (n * t))))) (rowsN n fun q => s q ++ ofFs ((gotM n t (wr WF a) (wr WF c) (toFs (ds.take (n * t)))).getD q [])) := by
  have BB := Lib.hid ((Below.refl w.heap.size w).alloc (Nat.le_refl _) (.cells #[.int .i64 5, .int .i64 a, .int .i64 c, .int .u64 m] 122))
  obtain ⟨gw, cw, hvw, hgw1, hgw2⟩ := own_slice h.pl.wires.outer (by rw [List.length_map]; omega)
  rw [List.length_map] at hvw
  subst hvw
  have hwl : WF.length ≤ 17592186043904 := by have := h.pl.wires.len; rw [List.length_map] at this; omega
  obtain ⟨xa, hxa, hoa, hfa⟩ := h.wireAt ha
  have hca := h.pl.wires.cell hxa
  have hla := hl _ (List.mem_of_getElem? (wr_get ha))
  obtain ⟨xc, hxc, hoc, hfc⟩ := h.wireAt hc
  have hcc := h.pl.wires.cell hxc
  have hlc := hl _ (List.mem_of_getElem? (wr_get hc))
  have hc4 := h.box.cell (i := 4) rfl
  have hbl := h.box.lt
  obtain ⟨R, hR⟩ : ∃ R, R = ofFs (mulOut n t (wr WF a) (wr WF c) (toFs (ds.take (n * t)))) := ⟨_, rfl⟩
  obtain ⟨s', hs'⟩ : ∃ s' : Nat → List Int, s' = fun q => s q ++ ofFs ((gotM n t (wr WF a) (wr WF c) (toFs (ds.take (n * t)))).getD q []) := ⟨_, rfl⟩
  rw [← hR, ← hs']
  have hb1 : Below w.heap.size w ((w.alloc (.cells #[.int .i64 5, .int .i64 a, .int .i64 c, .int .u64 m] 122)).drewN 1) := below_drewN BB.out 1
  have C := Lib.hid (eMul_ok W0 _ b g n t vi vd (.slice (some ⟨gw, 0, none⟩) WF.length cw) xa xc vws vss _ _ ins ds _ s (h.below hb1) (hoa.below hb1) (hoc.below hb1) hfa hfc (by rw [ofFs_length]; exact hla) (by rw [ofFs_length]; exact hlc) ht hn hn9 hd hs)
  rw [toFs_ofFs, toFs_ofFs, ← hR, ← hs'] at C
  have HRES := Lib.hid (show ∀ W1 W2 e, W1 = w.alloc (.cells #[.int .i64 5, .int .i64 a, .int .i64 c, .int .u64 m] 122) → StRes W0 (W1.drewN 1) b g n t (.slice (some ⟨gw, 0, none⟩) WF.length cw) vws vss (WF.map ofFs) e W2 ins (ds.drop (n * t)) R (rowsN n s') →
      (∃ v, e = .returned v ∧ StRes W0 w b g n t (.slice (some ⟨gw, 0, none⟩) WF.length cw) vws vss (WF.map ofFs) (.returned v) W2 ins (ds.drop (n * t)) R (rowsN n s')) ∧ W2.cell? ⟨b, 4, none⟩ = some (.slice (some ⟨gw, 0, none⟩) WF.length cw) ∧ W2.cell? ⟨w.heap.size, 1, none⟩ = some (.int .i64 a) ∧ W2.cell? ⟨w.heap.size, 2, none⟩ = some (.int .i64 c) ∧ W2.cell? ⟨gw, a, none⟩ = some xa ∧ W2.cell? ⟨gw, c, none⟩ = some xc from fun W1 W2 e hW hr => by
    subst hW
    have hr' := StRes.after hb1 hr
    obtain ⟨v, vi', vd', vss', rfl, _, _, _, hst, hk⟩ := hr
    have hq := hk.box w.heap.size 122 _ (fun e => by omega) (by decide) (by decide) ((Box.new w 122 [.int .i64 5, .int .i64 a, .int .i64 c, .int .u64 m]).drewN 1)
    exact ⟨⟨v, rfl, hr'⟩, hst.box.cell (i := 4) rfl, hq.cell (i := 1) rfl, hq.cell (i := 2) rfl, hst.pl.wires.cell hxa, hst.pl.wires.cell hxc⟩)
  suffices hgoal : ∀ Post : Ending → World → Prop, (∀ e w', StRes W0 w b g n t (.slice (some ⟨gw, 0, none⟩) WF.length cw) vws vss (WF.map ofFs) e w' ins (ds.drop (n * t)) R (rowsN n s') → Post e w') → Calls Try.prog 84 #[.pointer (some ⟨b, 0, none⟩), .agg #[.int .i64 5, .int .i64 a, .int .i64 c, .int .u64 m]] w Post from hgoal _ fun e w' h => h
  intro Post hp
  have HP := Lib.hid hp
  clear hp h hl hoa hxa hla hoc hxc hlc hR hs' hfa hfc hd hs hb1
  go_enter Try.func84, Try.ntmps84
  go_wp2_with fail
  obtain ⟨W1, hW1⟩ : ∃ W1, W1 = w.alloc (.cells #[.int .i64 5, .int .i64 a, .int .i64 c, .int .u64 m] 122) := ⟨_, rfl⟩
  rw [← hW1] at C BB
  have HW1 := Lib.hid hW1
  have p0 : W1.cell? ⟨b, 4, none⟩ = some (.slice (some ⟨gw, 0, none⟩) WF.length cw) := (BB.out.cell (p := ⟨b, 4, none⟩) hbl).trans hc4
  have p1 : W1.cell? ⟨w.heap.size, 1, none⟩ = some (.int .i64 a) := by rw [hW1]; exact (Box.new w 122 [.int .i64 5, .int .i64 a, .int .i64 c, .int .u64 m]).cell (i := 1) rfl
  have p2 : W1.cell? ⟨w.heap.size, 2, none⟩ = some (.int .i64 c) := by rw [hW1]; exact (Box.new w 122 [.int .i64 5, .int .i64 a, .int .i64 c, .int .u64 m]).cell (i := 2) rfl
  have p3 : W1.cell? ⟨gw, a, none⟩ = some xa := (BB.out.cell (p := ⟨gw, a, none⟩) hgw2).trans hca
  have p4 : W1.cell? ⟨gw, c, none⟩ = some xc := (BB.out.cell (p := ⟨gw, c, none⟩) hgw2).trans hcc
  have hs1 : w.heap.size + 1 = W1.heap.size := by rw [hW1, size_alloc]
  clear hc4 hca hcc
  rw [← hW1]
  clear hW1
  go_region_held3 (fun w' => w'.cell? ⟨b, 4, none⟩ = some (.slice (some ⟨gw, 0, none⟩) WF.length cw) ∧ w'.cell? ⟨w.heap.size, 1, none⟩ = some (.int .i64 a) ∧ w'.cell? ⟨w.heap.size, 2, none⟩ = some (.int .i64 c) ∧ w'.cell? ⟨gw, a, none⟩ = some xa ∧ w'.cell? ⟨gw, c, none⟩ = some xc) (go_keep) (first | (go_at_call 127; refine C.out.mono ?_; intro e W2 hr; obtain ⟨⟨v, he, hr2⟩, q0, q1, q2, q3, q4⟩ := HRES.out W1 W2 e HW1.out hr; subst he; have HO := Lib.hid hr2; clear hr hr2))
  go_wp2_with fail
  exact HP.out _ _ HO.out
set_option maxRecDepth 100000 in
set_option maxHeartbeats 1000000 in
theorem eWire_1 (W0 w : World) (b g n t : Nat) (vi vd vw : Value) (vws vss : List Value) (x : Int) (ins ds : List Int) (ws : List (List Int)) (s : Nat → List Int) (a c m : Int)
    (h : St W0 w b g n t vi vd vw vws vss (x :: ins) ds ws (rowsN n s)) (ht : t ≤ 4) (hn : t + 1 ≤ n) (hn9 : n ≤ 9) (hd : t ≤ ds.length) (hs : ∀ q, q < n → (s q).length ≤ 1000) :
    Calls Try.prog 84 #[.pointer (some ⟨b, 0, none⟩), .agg #[.int .i64 1, .int .i64 a, .int .i64 c, .int .u64 m]] w fun e w' => StRes W0 w b g n t vw vws vss ws e w' ins (ds.drop t) (ofFs (deal n (toFs (x :: ds.take t)))) (rowsN n fun q => s q ++ [ofF (co (deal n (toFs (x :: ds.take t))) q)]) := by
  have hb1 := (Below.refl w.heap.size w).alloc (Nat.le_refl _) (.cells #[.int .i64 1, .int .i64 a, .int .i64 c, .int .u64 m] 122)
  have C := Lib.hid (eInput_ok W0 _ b g n t vi vd vw vws vss x ins ds ws s (h.below hb1) ht hn hn9 hd hs)
  have HRES := Lib.hid (show ∀ e W2, StRes W0 (w.alloc (.cells #[.int .i64 1, .int .i64 a, .int .i64 c, .int .u64 m] 122)) b g n t vw vws vss ws e W2 ins (ds.drop t) (ofFs (deal n (toFs (x :: ds.take t)))) (rowsN n fun q => s q ++ [ofF (co (deal n (toFs (x :: ds.take t))) q)]) → StRes W0 w b g n t vw vws vss ws e W2 ins (ds.drop t) (ofFs (deal n (toFs (x :: ds.take t)))) (rowsN n fun q => s q ++ [ofF (co (deal n (toFs (x :: ds.take t))) q)]) from fun e W2 hr => hr.after hb1)
  suffices hgoal : ∀ Post : Ending → World → Prop, (∀ e w', StRes W0 w b g n t vw vws vss ws e w' ins (ds.drop t) (ofFs (deal n (toFs (x :: ds.take t)))) (rowsN n fun q => s q ++ [ofF (co (deal n (toFs (x :: ds.take t))) q)]) → Post e w') → Calls Try.prog 84 #[.pointer (some ⟨b, 0, none⟩), .agg #[.int .i64 1, .int .i64 a, .int .i64 c, .int .u64 m]] w Post from hgoal _ fun e w' h => h
  intro Post hp
  have HP := Lib.hid hp
  clear hp h hd hs hb1
  go_enter Try.func84, Try.ntmps84
  go_wp2_with (go_at_call 125; refine C.out.mono ?_; intro e W2 hr; obtain ⟨v, vi', vd', vss', he, hr3⟩ := HRES.out e W2 hr; subst he; have HO := Lib.hid hr3; clear hr hr3; try dsimp only)
  exact HP.out _ _ ⟨v, vi', vd', vss', rfl, HO.out⟩
theorem const_next (k : Nat) (x : F) : ofFs (List.replicate (k + 1) x) = ofFs (List.replicate k x) ++ [ofF x] := by simp [ofFs, List.replicate_succ']
set_option maxRecDepth 100000 in
set_option maxHeartbeats 1000000 in
theorem eWire_2 (W0 w : World) (b g n t : Nat) (vi vd vw : Value) (vws vss : List Value) (ins ds : List Int) (ws : List (List Int)) (s : Nat → List Int) (a c m : Int)
    (h : St W0 w b g n t vi vd vw vws vss ins ds ws (rowsN n s)) (hn9 : n ≤ 9) (hm : U64 m) :
    Calls Try.prog 84 #[.pointer (some ⟨b, 0, none⟩), .agg #[.int .i64 2, .int .i64 a, .int .i64 c, .int .u64 m]] w fun e w' => StRes W0 w b g n t vw vws vss ws e w' ins ds (ofFs (List.replicate n (toF m))) (rowsN n s) := by
  have BB := Lib.hid ((Below.refl w.heap.size w).alloc (Nat.le_refl _) (.cells #[.int .i64 2, .int .i64 a, .int .i64 c, .int .u64 m] 122))
  have BX := Lib.hid (Box.new w 122 [.int .i64 2, .int .i64 a, .int .i64 c, .int .u64 m])
  have hc0 := h.box.cell (i := 0) rfl
  have hbl := h.box.lt
  have hm0 := hm.1
  have HRES := Lib.hid (fun W2 v hb ho => h.made (w' := W2) (v := v) (l := ofFs (List.replicate n (toF m))) (B := w.heap.size + 1) hb ho (Nat.le_succ _))
  suffices hgoal : ∀ Post : Ending → World → Prop, (∀ e w', StRes W0 w b g n t vw vws vss ws e w' ins ds (ofFs (List.replicate n (toF m))) (rowsN n s) → Post e w') → Calls Try.prog 84 #[.pointer (some ⟨b, 0, none⟩), .agg #[.int .i64 2, .int .i64 a, .int .i64 c, .int .u64 m]] w Post from hgoal _ fun e w' h => h
  intro Post hp
  have HP := Lib.hid hp
  clear hp h
  go_enter Try.func84, Try.ntmps84
  go_wp2_with fail
  have B0 := Lib.hid BB.out
  go_loopw [5, 18] (fun v x wr => ∃ k : Nat, k ≤ n ∧ x = .int .i64 k ∧ OwnNums wr (w.heap.size + 1) v (ofFs (List.replicate k (toF m))) ∧ Below w.heap.size w wr ∧ Box wr w.heap.size 122 [.int .i64 2, .int .i64 a, .int .i64 c, .int .u64 m]) (fun _ x _ => n - (intOf x).toNat)
  case atStart => exact ⟨0, Nat.zero_le _, rfl, OwnNums.nil _ _, BB.out, BX.out⟩
  case round =>
    obtain ⟨k, hk, rfl, hown, hbel, hbox⟩ := hrel
    have KO := Lib.hid hown
    have BE := Lib.hid hbel
    have BX2 := Lib.hid hbox
    have hsz := hbel.size
    clear hown hbel BB BX B0
    by_cases hlt : k < n
    · have hdj : decide ((k : Int) < (n : Int)) = true := by simp; omega
      have hc3 := hbox.cell (i := 3) rfl
      have hbx := hbox.lt
      clear hbox
      go_wp2_with (first | (go_at_call 59; refine (fNorm_any _ _ hm0).mono ?_; rintro e W2 ⟨rfl, rfl⟩; try dsimp only) | (at_builtin; go_loud (refine wpList_push rfl _ _ (by rfl) (w.heap.size + 1) _ _ (ofF (toF m)) wr.heap.size 1 (by rfl) (KO.out.alloc _) (by rfl) (new_cell _ _ _) (U64.of_ofF _) (by rw [ofFs_length]; simp; omega) (by rw [size_alloc]; omega) ?_)))
      intro v5 w5 ho5 hb5
      rw [← const_next] at ho5
      have HO5 := Lib.hid ho5
      have hb6 : Below (w.heap.size + 1) wr w5 := ((Below.refl _ wr).alloc (by omega) _).trans hb5
      have BX5 := Lib.hid (BX2.out.under hb6 (by omega))
      have BE5 := Lib.hid (BE.out.trans (hb6.mono (by omega)))
      clear ho5 hb5 hb6 hc3
      go_wp2_with fail
      exact ⟨⟨k + 1, by omega, by go_num, HO5.out, BE5.out, BX5.out⟩, by simp [intOf] <;> omega⟩
    · obtain rfl : n = k := by omega
      have hdj : decide ((n : Int) < (n : Int)) = false := by simp
      go_wp2_with fail
      exact HP.out _ _ (HRES.out _ _ BE.out KO.out)

end Go.Proofs.Ytegmeepogjijiaa
