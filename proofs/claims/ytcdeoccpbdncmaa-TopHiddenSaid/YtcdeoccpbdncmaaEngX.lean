/- Parties that run a circuit: any gate's wire; an output. -/
import Derived.Test.YtcdeoccpbdncmaaEngM
import Derived.Test.YtcdeoccpbdncmaaShamQ
import Derived.Test.YtcdeoccpbdncmaaCircX
namespace Go.Proofs.Ytcdeoccpbdncmaa
open Go.RowKit Croft

theorem toFs_take (l : List Int) (k : Nat) : toFs (l.take k) = (toFs l).take k := by simp [toFs, List.map_take]
theorem rowsN_congr {n : Nat} {s s' : Nat → List Int} (h : ∀ q, q < n → s q = s' q) : rowsN n s = rowsN n s' := List.map_congr_left fun q hq => h q (List.mem_range.1 hq)
/-- what a gate asks of the world -/
structure WireAsk (n t : Nat) (G : Gt) (WF : List (List F)) (ins ds : List Int) (s : Nat → List Int) : Prop where
  right : gRight G WF.length = true
  ok : GateOk G
  len : ∀ l ∈ WF, l.length = n
  ht : t ≤ 4
  hn : 2 * t + 1 ≤ n
  hn9 : n ≤ 9
  hk : G.kind = 1 → ins ≠ []
  hd : gdraw n t G ≤ ds.length
  hs : ∀ q, q < n → (s q).length ≤ 1000
theorem eWire_any (W0 w : World) (b g n t : Nat) (vi vd vw : Value) (vws vss : List Value) (ins ds : List Int) (WF : List (List F)) (s : Nat → List Int) (G : Gt)
    (h : St W0 w b g n t vi vd vw vws vss ins ds (WF.map ofFs) (rowsN n s)) (A : WireAsk n t G WF ins ds s) :
    Calls Try.prog 79 #[.pointer (some ⟨b, 0, none⟩), gV G] w fun e w' => StRes W0 w b g n t vw vws vss (WF.map ofFs) e w' (if G.kind = 1 then ins.drop 1 else ins) (ds.drop (gdraw n t G)) (ofFs (ewire n t WF (co (toFs ins) 0) (toFs ds) G)) (rowsN n fun q => s q ++ ofFs (eseen n t WF (co (toFs ins) 0) (toFs ds) G q)) := by
  obtain ⟨k, a, c, m⟩ := G
  have hr := A.right
  have hm := A.ok.2.2.2
  have hd := A.hd
  unfold gV ewire eseen
  unfold gdraw at hd ⊢
  unfold gRight at hr
  dsimp only at *
  have hn1 : 1 ≤ n := by have := A.hn; omega
  have hid : rowsN n (fun q => s q ++ ofFs []) = rowsN n s := rowsN_congr fun q _ => by simp [ofFs]
  have ahead : ∀ {z : Int}, aheadB z WF.length = true → ∃ y : Nat, z = (y : Int) ∧ z.toNat = y ∧ y < WF.length := fun {z} h => by
    simp [aheadB] at h
    exact ⟨z.toNat, by omega, rfl, by omega⟩
  by_cases h1 : k = 1
  · subst h1
    simp only [reduceIte]
    rw [if_pos rfl] at hd
    match ins, h, A.hk rfl with
    | x :: ins, h, _ =>
      have e : co (toFs (x :: ins)) 0 = toF x := co_cons_zero _ _
      have e2 : toFs (x :: ds.take t) = toF x :: (toFs ds).take t := by rw [← toFs_take]; rfl
      have C := eWire_1 W0 w b g n t vi vd vw vws vss x ins ds _ s a c m h A.ht (by have := A.hn; omega) A.hn9 hd A.hs
      rw [e2] at C
      rw [e]
      exact C
  simp only [if_neg h1] at hr hd ⊢
  by_cases h2 : k = 2
  · subst h2
    have C := eWire_2 W0 w b g n t vi vd vw vws vss ins ds _ s a c m h A.hn9 hm
    simp +decide only [reduceIte]
    rw [hid]
    exact C
  simp only [if_neg h2] at hr ⊢
  by_cases h3 : k = 3
  · subst h3
    rw [if_pos (.inl rfl)] at hr
    simp only [Bool.and_eq_true] at hr
    obtain ⟨a', ha, ha2, ha3⟩ := ahead hr.1.1
    obtain ⟨c', hc, hc2, hc3⟩ := ahead hr.1.2
    have C := eWire_3 W0 w b g n t vi vd vw vws vss ins ds WF s a' c' m h ha3 hc3 A.len hn1 A.hn9 hm
    simp +decide only [reduceIte]
    rw [ha2, hc2, ha, hc, hid]
    exact C
  by_cases h4 : k = 4
  · subst h4
    rw [if_pos (.inr (.inl rfl))] at hr
    simp only [Bool.and_eq_true] at hr
    obtain ⟨a', ha, ha2, ha3⟩ := ahead hr.1.1
    obtain ⟨c', hc, hc2, hc3⟩ := ahead hr.1.2
    have C := eWire_4 W0 w b g n t vi vd vw vws vss ins ds WF s a' c' m h ha3 hc3 A.len hn1 A.hn9 hm
    simp +decide only [reduceIte]
    rw [ha2, hc2, ha, hc, hid]
    exact C
  by_cases h5 : k = 5
  · subst h5
    rw [if_pos (.inr (.inr rfl))] at hr
    simp only [Bool.and_eq_true] at hr
    obtain ⟨a', ha, ha2, ha3⟩ := ahead hr.1.1
    obtain ⟨c', hc, hc2, hc3⟩ := ahead hr.1.2
    rw [if_pos rfl] at hd
    have C := eWire_5 W0 w b g n t vi vd vw vws vss ins ds WF s a' c' m h ha3 hc3 A.len A.ht A.hn A.hn9 hd A.hs
    rw [toFs_take] at C
    rw [ha2, hc2, ha, hc]
    exact C
  rw [if_neg (by omega)] at hr
  by_cases h6 : k = 6
  · subst h6
    rw [if_pos rfl] at hr
    simp only [Bool.and_eq_true] at hr
    obtain ⟨a', ha, ha2, ha3⟩ := ahead hr.1
    have C := eWire_6 W0 w b g n t vi vd vw vws vss ins ds WF s a' c m h ha3 A.len hn1 A.hn9 hm
    rw [ha2, ha]
    simp only [if_neg h3, if_neg h4, if_neg h5]
    rw [hid]
    exact C
  · rw [if_neg h6] at hr; cases hr
end Go.Proofs.Ytcdeoccpbdncmaa
namespace Go.Proofs.Ytcdeoccpbdncmaa
open Go.RowKit Croft

theorem Keeps.row {b : Nat} {w w' : World} {s s' : List Value} (hk : Keeps b w w' s s') {base : Nat} {e : TypeId} {size n : Nat} {v : Value} {xs : List Value} (h : w.ownsRow base e size v n xs) (h1 : e ≠ 40) (h2 : e ≠ 26) (hb : b < base) : w'.ownsRow base e size v n xs := by
  refine ⟨h.1, ?_⟩
  rcases h.2 with hn | ⟨g, cap, cur, rfl, hbg, hgg, rest⟩
  · exact .inl hn
  · have hx : Box w' g e cur.toList := hk.box g e cur.toList (by omega) h1 h2 (by unfold Box; simpa using hgg)
    refine .inr ⟨g, cap, cur, rfl, hbg, ?_, rest⟩
    unfold Box at hx
    simpa using hx
theorem shL_open {n t : Nat} {L : List F} {x : F} (h : Shared n t L x) (ht : t ≤ 4) (hn : t + 1 ≤ n) (hn9 : n ≤ 9) : ∃ Q, Interp (ptsF (shL (ofFs L))) Q ∧ checkE t (shL (ofFs L)) = 0 ∧ openX t Q = ofF x ∧ openE t Q = 0 := by
  obtain ⟨Q, h1, h2, h3⟩ := open_shared h hn
  refine ⟨Q, ?_, shL_ok ht (by rw [ofFs_length, h.len]; exact hn) (by rw [ofFs_length, h.len]; exact hn9), ?_, ?_⟩
  · rw [shL_pts, ofFs_length, h.len, toFs_ofFs]; exact h1
  · unfold openX; rw [if_neg (by omega), h3]
  · unfold openE; rw [if_neg (by omega)]
def OutRes (W0 w : World) (b g n t : Nat) (vi vd vw : Value) (vws vss : List Value) (ws : List (List Int)) (e : Ending) (w' : World) (ins ds : List Int) (z : Int) (seen : List (List Int)) : Prop :=
  ∃ vss', e = .returned (.int .u64 z) ∧ St W0 w' b g n t vi vd vw vws vss' ins ds ws seen ∧ Keeps b w w' vss vss'
set_option maxRecDepth 100000 in
set_option maxHeartbeats 1000000 in
theorem eOut_ok (W0 w : World) (b g n t : Nat) (vi vd vw vx : Value) (vws vss : List Value) (ins ds : List Int) (ws : List (List Int)) (s : Nat → List Int) (L : List F) (x : F)
    (h : St W0 w b g n t vi vd vw vws vss ins ds ws (rowsN n s)) (hx : OwnNums w W0.heap.size vx (ofFs L)) (hfx : FarAll vx vss) (hS : Shared n t L x) (ht : t ≤ 4) (hn : t + 1 ≤ n) (hn9 : n ≤ 9) (hs : ∀ q, q < n → (s q).length ≤ 1000) :
    Calls Try.prog 80 #[.pointer (some ⟨b, 0, none⟩), vx] w fun e w' => OutRes W0 w b g n t vi vd vw vws vss ws e w' ins ds (ofF x) (rowsN n fun q => s q ++ ofFs L) := by
  have H := Lib.hid h
  have HS := Lib.hid hs
  have HSH := Lib.hid hS
  have HLL := Lib.hid (show L.length = n from hS.len)
  have HLEN := Lib.hid (show (ofFs L).length = n by rw [ofFs_length, hS.len])
  obtain ⟨s', hs'⟩ : ∃ s' : Nat → List Int, s' = fun q => s q ++ ofFs L := ⟨_, rfl⟩
  rw [← hs']
  have HSE := Lib.hid hs'
  suffices hgoal : ∀ Post : Ending → World → Prop, (∀ e w', OutRes W0 w b g n t vi vd vw vws vss ws e w' ins ds (ofF x) (rowsN n s') → Post e w') → Calls Try.prog 80 #[.pointer (some ⟨b, 0, none⟩), vx] w Post from hgoal _ fun e w' h => h
  intro Post hpo
  have HPO := Lib.hid hpo
  obtain ⟨gl, cl, hvl, hgl1, hgl2⟩ := own_slice hx.1 (by rw [HLEN.out]; omega)
  rw [HLEN.out] at hvl
  subst hvl
  have KX := Lib.hid hx
  have FX := Lib.hid hfx
  have hB0 : W0.heap.size ≤ w.heap.size := h.pl.bel.size
  have hbw : b < w.heap.size := h.box.lt
  clear h hs hS hs' hpo hx hfx
  go_enter Try.func80, Try.ntmps80
  go_wp2_with fail
  go_loopw [5, 13] (fun v i wr => ∃ k : Nat, k ≤ n ∧ i = .int .i64 k ∧ OwnShares wr w.heap.size v (shL ((ofFs L).take k)) ∧ Below w.heap.size w wr) (fun _ i _ => n - (intOf i).toNat)
  case atStart => exact ⟨0, Nat.zero_le _, rfl, OwnShares.nil _ _, Below.refl _ _⟩
  case round =>
    obtain ⟨k, hk, rfl, hown, hbel⟩ := hrel
    have KO := Lib.hid hown
    have BEL := Lib.hid hbel
    have hsz := hbel.size
    clear hown hbel
    by_cases hlt : k < n
    · have hdk : decide ((k : Int) < (n : Int)) = true := by simp; omega
      obtain ⟨z, hz⟩ : ∃ z, (ofFs L)[k]? = some z := ⟨_, List.getElem?_eq_getElem (by rw [HLEN.out]; exact hlt)⟩
      have hcz := (KX.out.below BEL.out).cell hz
      have huz : U64 z := KX.out.2.2 z (List.mem_of_getElem? hz)
      have HT := Lib.hid (shL_next hz)
      have HSL := Lib.hid (show (shL ((ofFs L).take k)).length = k by rw [shL_length, List.length_take, HLEN.out]; omega)
      clear hz
      go_wp2_with (at_builtin; go_loud (refine wpList_push_share rfl _ _ rfl w.heap.size _ _ ((k : Int) + 1) z wr.heap.size 1 rfl (KO.out.alloc _) rfl (pair_cell0 _ _ _ _) (pair_cell1 _ _ _ _) (by unfold I64; omega) huz (by rw [HSL.out]; omega) (by rw [size_alloc]; omega) ?_))
      intro v' w5 hown' hbel'
      rw [← HT.out] at hown'
      have K5 := Lib.hid hown'
      have B5 := Lib.hid ((BEL.out.alloc hsz (.cells #[.int .i64 ((k : Int) + 1), .int .u64 z] 114)).trans hbel')
      clear hown' hbel'
      go_wp2_with fail
      exact ⟨⟨k + 1, by omega, by go_num, K5.out, B5.out⟩, by simp [intOf] <;> omega⟩
    · obtain rfl : n = k := by omega
      have hdk : decide ((n : Int) < (n : Int)) = false := by simp
      have HT := Lib.hid (show (ofFs L).take n = ofFs L from List.take_of_length_le (by rw [HLEN.out]; exact Nat.le_refl _))
      rw [HT.out] at KO
      have ST2 := Lib.hid (H.out.below BEL.out)
      have KP2 := Lib.hid (Keeps.of_below (b := b) (s := vss) BEL.out)
      have KX2 := Lib.hid (KX.out.below BEL.out)
      have hc5 := ST2.out.box.cell (i := 5) rfl
      clear hdk HT H BEL KX
      go_wp2_with fail
      clear hc5
      have KSH := Lib.hid KO.out
      have FX2 := Lib.hid FX.out
      clear KO hsz
      go_loopw [31] (fun x wr => ∃ (j : Nat) (vss' : List Value), j ≤ n ∧ x = .int .i64 j ∧ St W0 wr b g n t vi vd vw vws vss' ins ds ws (rowsN n (mixR s' s j)) ∧ OwnNums wr W0.heap.size (.slice (some ⟨gl, 0, none⟩) n cl) (ofFs L) ∧ FarAll (.slice (some ⟨gl, 0, none⟩) n cl) vss' ∧ OwnShares wr w.heap.size u5 (shL (ofFs L)) ∧ Keeps b w wr vss vss') (fun x _ => n - (intOf x).toNat)
      case atStart => exact ⟨0, vss, Nat.zero_le _, rfl, by rw [mixR_zero]; exact ST2.out, KX2.out, FX2.out, KSH.out, KP2.out⟩
      case round =>
        obtain ⟨j, vss', hj, rfl, hst, hown, hfar, hsh, hkp⟩ := hrel
        clear ST2 KX2 FX2 KSH KP2
        have ST3 := Lib.hid hst
        have KO := Lib.hid hown
        have FA := Lib.hid hfar
        have KP := Lib.hid hkp
        have KG := Lib.hid hsh
        clear hst hown hfar hkp hsh
        by_cases hlt : j < n
        · have hdj : decide ((j : Int) < (n : Int)) = true := by simp; omega
          have hc5 := ST3.out.box.cell (i := 5) rfl
          obtain ⟨y, hy⟩ : ∃ y, vss'[j]? = some y := ⟨_, List.getElem?_eq_getElem (by rw [ST3.out.pl.seen.vlen, rowsN_length]; exact hlt)⟩
          have hcg := ST3.out.pl.seen.cell hy
          have hrj : (rowsN n (mixR s' s j))[j]? = some (s j) := by rw [rowsN_get _ hlt, mixR_at]
          have hrow := ST3.out.pl.seen.row j y _ hy hrj
          have HY := Lib.hid hy
          have HRJ := Lib.hid hrj
          have HROW := Lib.hid hrow
          have hsl1 := HS.out j hlt
          have hB : W0.heap.size ≤ wr.heap.size := ST3.out.pl.bel.size
          have hgb : g < wr.heap.size := (ST3.out.pl.seen.outer.lt g rfl).2
          have hbb2 : b < wr.heap.size := ST3.out.box.lt
          have HPUSH := Lib.hid (show ∀ (bb cap : Nat) (w7 : World), OwnNums w7 W0.heap.size (.slice (some ⟨bb, 0, none⟩) ((s j).length + n) cap) (s j ++ (ofFs L)) → (wr.drewN 1).grownBy w7 y.ownBlock → ((Value.slice (some ⟨bb, 0, none⟩) ((s j).length + n) cap).ownBlock = y.ownBlock ∨ (Value.slice (some ⟨bb, 0, none⟩) ((s j).length + n) cap).ownBlock = some (wr.drewN 1).heap.size) →
              w7.cell? ⟨b, 5, none⟩ = some (.slice (some ⟨g, 0, none⟩) n n) ∧ w7.cell? ⟨g, j, none⟩ = some y ∧ w7.frozen? ⟨g, j, none⟩ = false ∧ St W0 (w7.setCell ⟨g, j, none⟩ (.slice (some ⟨bb, 0, none⟩) ((s j).length + n) cap)) b g n t vi vd vw vws (vss'.set j (.slice (some ⟨bb, 0, none⟩) ((s j).length + n) cap)) ins ds ws (rowsN n (mixR s' s (j + 1))) ∧ Keeps b wr (w7.setCell ⟨g, j, none⟩ (.slice (some ⟨bb, 0, none⟩) ((s j).length + n) cap)) vss' (vss'.set j (.slice (some ⟨bb, 0, none⟩) ((s j).length + n) cap)) from fun bb cap w7 ho hg hat => by
            have hb1 : Below wr.heap.size wr (wr.drewN 1) := below_drewN (Below.refl _ _) 1
            have STb := ST3.out.below hb1
            obtain ⟨k1, k2, k3, k4⟩ := STb.push HY.out HRJ.out ho hg hat
            have hbx := (STb.box.grown hg (fun e => box_row_ne STb.box (STb.pl.seen.row j y _ HY.out HRJ.out).1 (by decide) e)).cell (i := 5) rfl
            have hk3 : (rowsN n (mixR s' s j)).set j (s j ++ (ofFs L)) = rowsN n (mixR s' s (j + 1)) := by
              have h := mixR_set s' s hlt
              rw [show s' j = s j ++ (ofFs L) by rw [HSE.out]] at h
              exact h
            have kp := (Keeps.of_below (b := b) (s := vss') hb1).trans (k4.weaken (by have := hg.size; omega))
            rw [hk3] at k3
            exact ⟨hbx, k1, k2, k3, kp⟩)
          clear hy hrj hrow
          go_wp2_with fail
          go_region_law ((refine step_push_many rfl _ _ (by rfl) W0.heap.size W0.heap.size y (s j) (ofFs L) gl n cl (by rfl) (HROW.out.drewN 1) (by rfl) (KO.out.drewN 1) (by omega) (by omega) hB ?_; intro bb cap w7 ho7 hg7 hat7; obtain ⟨hc7, hk7, hf7, ST7, KP7⟩ := HPUSH.out bb cap w7 ho7 hg7 hat7))
          all_goals
            have KO8 := Lib.hid (KP7.own _ _ _ KO.out FA.out)
            have ST8 := Lib.hid ST7
            have KP8 := Lib.hid (KP.out.trans KP7)
            have KG8 := Lib.hid (show OwnShares _ w.heap.size u5 (shL (ofFs L)) from ⟨KP7.row KG.out.1 (by decide) (by decide) hbw, KG.out.2⟩)
            clear hc7 hk7 hf7 ST7 KP7 ho7 hg7 hat7 hc5 hcg
            go_wp2_with fail
            exact ⟨⟨j + 1, vss'.set j (.slice (some ⟨bb, 0, none⟩) ((s j).length + n) cap), by omega, by go_num, ST8.out, KO8.out.1, KO8.out.2, KG8.out, KP8.out⟩, by simp [intOf] <;> omega⟩
        · obtain rfl : n = j := by omega
          rw [mixR_all] at ST3
          have hdj : decide ((n : Int) < (n : Int)) = false := by simp
          have hc1 := ST3.out.box.cell (i := 1) rfl
          obtain ⟨Q, hQ, hQE, hX, hE⟩ := shL_open HSH.out ht hn hn9
          have HQ := Lib.hid hQ
          have HQE := Lib.hid hQE
          have HX := Lib.hid hX
          have HE := Lib.hid hE
          clear hQ hQE hX hE
          go_wp2_with (go_at_call 61; refine (sOpen_ok _ _ _ Q _ KG.out.is HQE.out HQ.out).mono ?_; rintro e W9 ⟨rfl, hb9⟩; rw [HX.out, HE.out]; have ST9 := Lib.hid (ST3.out.below hb9); have KP9 := Lib.hid (KP.out.trans (Keeps.of_below hb9)); clear hb9; try dsimp only)
          exact HPO.out _ _ ⟨vss', rfl, ST9.out, KP9.out⟩
end Go.Proofs.Ytcdeoccpbdncmaa
