/- Parties that run a circuit: any gate's wire; an output. -/
import Derived.Test.YtegmeepogjijiaaEngM
import Derived.Test.YtegmeepogjijiaaShamQ
import Derived.Test.YtegmeepogjijiaaCircX
import Derived.Test.YtegmeepogjijiaaEngP
namespace Go.Proofs.Ytegmeepogjijiaa
open Go.RowKit Croft

theorem toFs_take (l : List Int) (k : Nat) : toFs (l.take k) = (toFs l).take k := by simp [toFs, List.map_take]
theorem rowsN_congr {n : Nat} {s s' : Nat → List Int} (h : ∀ q, q < n → s q = s' q) : rowsN n s = rowsN n s' := List.map_congr_left fun q hq => h q (List.mem_range.1 hq)
/-- what a gate asks of the world -/
structure WireAsk (n t : Nat) (G : Gt) (WF : List (List F)) (ins ds : List Int) (s : Nat → List Int) : Prop where
  right : gRight G WF.length = true
  ok : GateOk G
  len : ∀ l ∈ WF, l.length = n
  ht : t ≤ 4
  hn : 2 * t + 1 ≤ n
  hn9 : n ≤ 9
  hk : G.kind = 1 → ins ≠ []
  hd : gdraw n t G ≤ ds.length
  hs : ∀ q, q < n → (s q).length ≤ 1000
theorem eWire_any (W0 w : World) (b g n t : Nat) (vi vd vw : Value) (vws vss : List Value) (ins ds : List Int) (WF : List (List F)) (s : Nat → List Int) (G : Gt)
    (h : St W0 w b g n t vi vd vw vws vss ins ds (WF.map ofFs) (rowsN n s)) (A : WireAsk n t G WF ins ds s) :
    Calls Try.prog 84 #[.pointer (some ⟨b, 0, none⟩), gV G] w fun e w' => StRes W0 w b g n t vw vws vss (WF.map ofFs) e w' (if G.kind = 1 then ins.drop 1 else ins) (ds.drop (gdraw n t G)) (ofFs (ewire n t WF (co (toFs ins) 0) (toFs ds) G)) (rowsN n fun q => s q ++ ofFs (eseen n t WF (co (toFs ins) 0) (toFs ds) G q)) := by
  obtain ⟨k, a, c, m⟩ := G
  have hr := A.right
  have hm := A.ok.2.2.2
  have hd := A.hd
  unfold gV ewire eseen
  unfold gdraw at hd ⊢
  unfold gRight at hr
  dsimp only at *
  have hn1 : 1 ≤ n := by have := A.hn; omega
  have hid : rowsN n (fun q => s q ++ ofFs []) = rowsN n s := rowsN_congr fun q _ => by simp [ofFs]
  have ahead : ∀ {z : Int}, aheadB z WF.length = true → ∃ y : Nat, z = (y : Int) ∧ z.toNat = y ∧ y < WF.length := fun {z} h => by
    simp [aheadB] at h
    exact ⟨z.toNat, by omega, rfl, by omega⟩
  by_cases h1 : k = 1
  · subst h1
    simp only [reduceIte]
    rw [if_pos rfl] at hd
    match ins, h, A.hk rfl with
    | x :: ins, h, _ =>
      have e : co (toFs (x :: ins)) 0 = toF x := co_cons_zero _ _
      have e2 : toFs (x :: ds.take t) = toF x :: (toFs ds).take t := by rw [← toFs_take]; rfl
      have C := eWire_1 W0 w b g n t vi vd vw vws vss x ins ds _ s a c m h A.ht (by have := A.hn; omega) A.hn9 hd A.hs
      rw [e2] at C
      rw [e]
      exact C
  simp only [if_neg h1] at hr hd ⊢
  by_cases h2 : k = 2
  · subst h2
    have C := eWire_2 W0 w b g n t vi vd vw vws vss ins ds _ s a c m h A.hn9 hm
    simp +decide only [reduceIte]
    rw [hid]
    exact C
  simp only [if_neg h2] at hr ⊢
  by_cases h3 : k = 3
  · subst h3
    rw [if_pos (.inl rfl)] at hr
    simp only [Bool.and_eq_true] at hr
    obtain ⟨a', ha, ha2, ha3⟩ := ahead hr.1.1
    obtain ⟨c', hc, hc2, hc3⟩ := ahead hr.1.2
    have C := eWire_3 W0 w b g n t vi vd vw vws vss ins ds WF s a' c' m h ha3 hc3 A.len hn1 A.hn9 hm
    simp +decide only [reduceIte]
    rw [ha2, hc2, ha, hc, hid]
    exact C
  by_cases h4 : k = 4
  · subst h4
    rw [if_pos (.inr (.inl rfl))] at hr
    simp only [Bool.and_eq_true] at hr
    obtain ⟨a', ha, ha2, ha3⟩ := ahead hr.1.1
    obtain ⟨c', hc, hc2, hc3⟩ := ahead hr.1.2
    have C := eWire_4 W0 w b g n t vi vd vw vws vss ins ds WF s a' c' m h ha3 hc3 A.len hn1 A.hn9 hm
    simp +decide only [reduceIte]
    rw [ha2, hc2, ha, hc, hid]
    exact C
  by_cases h5 : k = 5
  · subst h5
    rw [if_pos (.inr (.inr rfl))] at hr
    simp only [Bool.and_eq_true] at hr
    obtain ⟨a', ha, ha2, ha3⟩ := ahead hr.1.1
    obtain ⟨c', hc, hc2, hc3⟩ := ahead hr.1.2
    rw [if_pos rfl] at hd
    have C := eWire_5 W0 w b g n t vi vd vw vws vss ins ds WF s a' c' m h ha3 hc3 A.len A.ht A.hn A.hn9 hd A.hs
    rw [toFs_take] at C
    rw [ha2, hc2, ha, hc]
    exact C
  rw [if_neg (by omega)] at hr
  by_cases h6 : k = 6
  · subst h6
    rw [if_pos rfl] at hr
    simp only [Bool.and_eq_true] at hr
    obtain ⟨a', ha, ha2, ha3⟩ := ahead hr.1
    have C := eWire_6 W0 w b g n t vi vd vw vws vss ins ds WF s a' c m h ha3 A.len hn1 A.hn9 hm
    rw [ha2, ha]
    simp only [if_neg h3, if_neg h4, if_neg h5]
    rw [hid]
    exact C
  · rw [if_neg h6] at hr; cases hr
end Go.Proofs.Ytegmeepogjijiaa
namespace Go.Proofs.Ytegmeepogjijiaa
open Go.RowKit Croft

theorem Keeps.row {b : Nat} {w w' : World} {s s' : List Value} (hk : Keeps b w w' s s') {base : Nat} {e : TypeId} {size n : Nat} {v : Value} {xs : List Value} (h : w.ownsRow base e size v n xs) (h1 : e ≠ 23) (h2 : e ≠ 22) (hb : b < base) : w'.ownsRow base e size v n xs := by
  refine ⟨h.1, ?_⟩
  rcases h.2 with hn | ⟨g, cap, cur, rfl, hbg, hgg, rest⟩
  · exact .inl hn
  · have hx : Box w' g e cur.toList := hk.box g e cur.toList (by omega) h1 h2 (by unfold Box; simpa using hgg)
    refine .inr ⟨g, cap, cur, rfl, hbg, ?_, rest⟩
    unfold Box at hx
    simpa using hx
theorem shL_open {n t : Nat} {L : List F} {x : F} (h : Shared n t L x) (ht : t ≤ 4) (hn : t + 1 ≤ n) (hn9 : n ≤ 9) : ∃ Q, Interp (ptsF (shL (ofFs L))) Q ∧ checkE t (shL (ofFs L)) = 0 ∧ openX t Q = ofF x ∧ openE t Q = 0 := by
  obtain ⟨Q, h1, h2, h3⟩ := open_shared h hn
  refine ⟨Q, ?_, shL_ok ht (by rw [ofFs_length, h.len]; exact hn) (by rw [ofFs_length, h.len]; exact hn9), ?_, ?_⟩
  · rw [shL_pts, ofFs_length, h.len, toFs_ofFs]; exact h1
  · unfold openX; rw [if_neg (by omega), h3]
  · unfold openE; rw [if_neg (by omega)]
def OutRes (W0 w : World) (b g n t : Nat) (vi vd vw : Value) (vws vss : List Value) (ws : List (List Int)) (e : Ending) (w' : World) (ins ds : List Int) (z : Int) (seen : List (List Int)) : Prop :=
  ∃ vss', e = .returned (.int .u64 z) ∧ St W0 w' b g n t vi vd vw vws vss' ins ds ws seen ∧ Keeps b w w' vss vss'
set_option maxRecDepth 100000 in
set_option maxHeartbeats 1000000 in
theorem eOut_ok (W0 w : World) (b g n t : Nat) (vi vd vw vx : Value) (vws vss : List Value) (ins ds : List Int) (ws : List (List Int)) (s : Nat → List Int) (L : List F) (x : F)
    (h : St W0 w b g n t vi vd vw vws vss ins ds ws (rowsN n s)) (hx : OwnNums w W0.heap.size vx (ofFs L)) (hfx : FarAll vx vss) (hS : Shared n t L x) (ht : t ≤ 4) (hn : t + 1 ≤ n) (hn9 : n ≤ 9) (hs : ∀ q, q < n → (s q).length ≤ 1000) :
    Calls Try.prog 85 #[.pointer (some ⟨b, 0, none⟩), vx] w fun e w' => OutRes W0 w b g n t vi vd vw vws vss ws e w' ins ds (ofF x) (rowsN n fun q => s q ++ ofFs L) := by
  have H := Lib.hid h
  have HS := Lib.hid hs
  have HSH := Lib.hid hS
  have HLL := Lib.hid (show L.length = n from hS.len)
  have HLEN := Lib.hid (show (ofFs L).length = n by rw [ofFs_length, hS.len])
  obtain ⟨s', hs'⟩ : ∃ s' : Nat → List Int, s' = fun q => s q ++ ofFs L := ⟨_, rfl⟩
  rw [← hs']
  have HSE := Lib.hid hs'
  suffices hgoal : ∀ Post : Ending → World → Prop, (∀ e w', OutRes W0 w b g n t vi vd vw vws vss ws e w' ins ds (ofF x) (rowsN n s') → Post e w') → Calls Try.prog 85 #[.pointer (some ⟨b, 0, none⟩), vx] w Post from hgoal _ fun e w' h => h
  intro Post hpo
  have HPO := Lib.hid hpo
  obtain ⟨gl, cl, hvl, hgl1, hgl2⟩ := own_slice hx.1 (by rw [HLEN.out]; omega)
  rw [HLEN.out] at hvl
  subst hvl
  have KX := Lib.hid hx
  have FX := Lib.hid hfx
  have hB0 : W0.heap.size ≤ w.heap.size := h.pl.bel.size
  have hbw : b < w.heap.size := h.box.lt
  clear h hs hS hs' hpo hx hfx
  go_enter Try.func85, Try.ntmps85
  go_wp2_with fail
  go_loopw [5, 13] (fun v i wr => ∃ k : Nat, k ≤ n ∧ i = .int .i64 k ∧ OwnShares wr w.heap.size v (shL ((ofFs L).take k)) ∧ Below w.heap.size w wr) (fun _ i _ => n - (intOf i).toNat)
  case atStart => exact ⟨0, Nat.zero_le _, rfl, OwnShares.nil _ _, Below.refl _ _⟩
  case round =>
    obtain ⟨k, hk, rfl, hown, hbel⟩ := hrel
    have KO := Lib.hid hown
    have BEL := Lib.hid hbel
    have hsz := hbel.size
    clear hown hbel
    by_cases hlt : k < n
    · have hdk : decide ((k : Int) < (n : Int)) = true := by simp; omega
      obtain ⟨z, hz⟩ : ∃ z, (ofFs L)[k]? = some z := ⟨_, List.getElem?_eq_getElem (by rw [HLEN.out]; exact hlt)⟩
      have hcz := (KX.out.below BEL.out).cell hz
      have huz : U64 z := KX.out.2.2 z (List.mem_of_getElem? hz)
      have HT := Lib.hid (shL_next hz)
      have HSL := Lib.hid (show (shL ((ofFs L).take k)).length = k by rw [shL_length, List.length_take, HLEN.out]; omega)
      clear hz
      go_wp2_with (at_builtin; go_loud (refine wpList_push_share rfl _ _ rfl w.heap.size _ _ ((k : Int) + 1) z wr.heap.size 1 rfl (KO.out.alloc _) rfl (pair_cell0 _ _ _ _) (pair_cell1 _ _ _ _) (by unfold I64; omega) huz (by rw [HSL.out]; omega) (by rw [size_alloc]; omega) ?_))
      intro v' w5 hown' hbel'
      rw [← HT.out] at hown'
      have K5 := Lib.hid hown'
      have B5 := Lib.hid ((BEL.out.alloc hsz (.cells #[.int .i64 ((k : Int) + 1), .int .u64 z] 95)).trans hbel')
      clear hown' hbel'
      go_wp2_with fail
      exact ⟨⟨k + 1, by omega, by go_num, K5.out, B5.out⟩, by simp [intOf] <;> omega⟩
    · obtain rfl : n = k := by omega
      have hdk : decide ((n : Int) < (n : Int)) = false := by simp
      have HT := Lib.hid (show (ofFs L).take n = ofFs L from List.take_of_length_le (by rw [HLEN.out]; exact Nat.le_refl _))
      rw [HT.out] at KO
      have ST2 := Lib.hid (H.out.below BEL.out)
      have KP2 := Lib.hid (Keeps.of_below (b := b) (s := vss) BEL.out)
      have KX2 := Lib.hid (KX.out.below BEL.out)
      have hc5 := ST2.out.box.cell (i := 5) rfl
      clear hdk HT H BEL KX
      go_wp2_with fail
      clear hc5
      have KSH := Lib.hid KO.out
      have FX2 := Lib.hid FX.out
      clear KO hsz
      go_loopw [31] (fun x wr => ∃ (j : Nat) (vss' : List Value), j ≤ n ∧ x = .int .i64 j ∧ St W0 wr b g n t vi vd vw vws vss' ins ds ws (rowsN n (mixR s' s j)) ∧ OwnNums wr W0.heap.size (.slice (some ⟨gl, 0, none⟩) n cl) (ofFs L) ∧ FarAll (.slice (some ⟨gl, 0, none⟩) n cl) vss' ∧ OwnShares wr w.heap.size u5 (shL (ofFs L)) ∧ Keeps b w wr vss vss') (fun x _ => n - (intOf x).toNat)
      case atStart => exact ⟨0, vss, Nat.zero_le _, rfl, by rw [mixR_zero]; exact ST2.out, KX2.out, FX2.out, KSH.out, KP2.out⟩
      case round =>
        obtain ⟨j, vss', hj, rfl, hst, hown, hfar, hsh, hkp⟩ := hrel
        clear ST2 KX2 FX2 KSH KP2
        have ST3 := Lib.hid hst
        have KO := Lib.hid hown
        have FA := Lib.hid hfar
        have KP := Lib.hid hkp
        have KG := Lib.hid hsh
        clear hst hown hfar hkp hsh
        by_cases hlt : j < n
        · have hdj : decide ((j : Int) < (n : Int)) = true := by simp; omega
          have hc5 := ST3.out.box.cell (i := 5) rfl
          obtain ⟨y, hy⟩ : ∃ y, vss'[j]? = some y := ⟨_, List.getElem?_eq_getElem (by rw [ST3.out.pl.seen.vlen, rowsN_length]; exact hlt)⟩
          have hcg := ST3.out.pl.seen.cell hy
          have hrj : (rowsN n (mixR s' s j))[j]? = some (s j) := by rw [rowsN_get _ hlt, mixR_at]
          have hrow := ST3.out.pl.seen.row j y _ hy hrj
          have HY := Lib.hid hy
          have HRJ := Lib.hid hrj
          have HROW := Lib.hid hrow
          have hsl1 := HS.out j hlt
          have hB : W0.heap.size ≤ wr.heap.size := ST3.out.pl.bel.size
          have hgb : g < wr.heap.size := (ST3.out.pl.seen.outer.lt g rfl).2
          have hbb2 : b < wr.heap.size := ST3.out.box.lt
          have HPUSH := Lib.hid (show ∀ (bb cap : Nat) (w7 : World), OwnNums w7 W0.heap.size (.slice (some ⟨bb, 0, none⟩) ((s j).length + n) cap) (s j ++ (ofFs L)) → (wr.drewN 1).grownBy w7 y.ownBlock → ((Value.slice (some ⟨bb, 0, none⟩) ((s j).length + n) cap).ownBlock = y.ownBlock ∨ (Value.slice (some ⟨bb, 0, none⟩) ((s j).length + n) cap).ownBlock = some (wr.drewN 1).heap.size) →
              w7.cell? ⟨b, 5, none⟩ = some (.slice (some ⟨g, 0, none⟩) n n) ∧ w7.cell? ⟨g, j, none⟩ = some y ∧ w7.frozen? ⟨g, j, none⟩ = false ∧ St W0 (w7.setCell ⟨g, j, none⟩ (.slice (some ⟨bb, 0, none⟩) ((s j).length + n) cap)) b g n t vi vd vw vws (vss'.set j (.slice (some ⟨bb, 0, none⟩) ((s j).length + n) cap)) ins ds ws (rowsN n (mixR s' s (j + 1))) ∧ Keeps b wr (w7.setCell ⟨g, j, none⟩ (.slice (some ⟨bb, 0, none⟩) ((s j).length + n) cap)) vss' (vss'.set j (.slice (some ⟨bb, 0, none⟩) ((s j).length + n) cap)) from fun bb cap w7 ho hg hat => by
            have hb1 : Below wr.heap.size wr (wr.drewN 1) := below_drewN (Below.refl _ _) 1
            have STb := ST3.out.below hb1
            obtain ⟨k1, k2, k3, k4⟩ := STb.push HY.out HRJ.out ho hg hat
            have hbx := (STb.box.grown hg (fun e => box_row_ne STb.box (STb.pl.seen.row j y _ HY.out HRJ.out).1 (by decide) e)).cell (i := 5) rfl
            have hk3 : (rowsN n (mixR s' s j)).set j (s j ++ (ofFs L)) = rowsN n (mixR s' s (j + 1)) := by
              have h := mixR_set s' s hlt
              rw [show s' j = s j ++ (ofFs L) by rw [HSE.out]] at h
              exact h
            have kp := (Keeps.of_below (b := b) (s := vss') hb1).trans (k4.weaken (by have := hg.size; omega))
            rw [hk3] at k3
            exact ⟨hbx, k1, k2, k3, kp⟩)
          clear hy hrj hrow
          go_wp2_with fail
          go_region_law ((refine step_push_many rfl _ _ (by rfl) W0.heap.size W0.heap.size y (s j) (ofFs L) gl n cl (by rfl) (HROW.out.drewN 1) (by rfl) (KO.out.drewN 1) (by omega) (by omega) hB ?_; intro bb cap w7 ho7 hg7 hat7; obtain ⟨hc7, hk7, hf7, ST7, KP7⟩ := HPUSH.out bb cap w7 ho7 hg7 hat7))
          all_goals
            have KO8 := Lib.hid (KP7.own _ _ _ KO.out FA.out)
            have ST8 := Lib.hid ST7
            have KP8 := Lib.hid (KP.out.trans KP7)
            have KG8 := Lib.hid (show OwnShares _ w.heap.size u5 (shL (ofFs L)) from ⟨KP7.row KG.out.1 (by decide) (by decide) hbw, KG.out.2⟩)
            clear hc7 hk7 hf7 ST7 KP7 ho7 hg7 hat7 hc5 hcg
            go_wp2_with fail
            exact ⟨⟨j + 1, vss'.set j (.slice (some ⟨bb, 0, none⟩) ((s j).length + n) cap), by omega, by go_num, ST8.out, KO8.out.1, KO8.out.2, KG8.out, KP8.out⟩, by simp [intOf] <;> omega⟩
        · obtain rfl : n = j := by omega
          rw [mixR_all] at ST3
          have hdj : decide ((n : Int) < (n : Int)) = false := by simp
          have hc1 := ST3.out.box.cell (i := 1) rfl
          obtain ⟨Q, hQ, hQE, hX, hE⟩ := shL_open HSH.out ht hn hn9
          have HQ := Lib.hid hQ
          have HQE := Lib.hid hQE
          have HX := Lib.hid hX
          have HE := Lib.hid hE
          clear hQ hQE hX hE
          go_wp2_with (go_at_call 64; refine (sOpen_ok _ _ _ Q _ KG.out.is HQE.out HQ.out).mono ?_; rintro e W9 ⟨rfl, hb9⟩; rw [HX.out, HE.out]; have ST9 := Lib.hid (ST3.out.below hb9); have KP9 := Lib.hid (KP.out.trans (Keeps.of_below hb9)); clear hb9; try dsimp only)
          exact HPO.out _ _ ⟨vss', rfl, ST9.out, KP9.out⟩
end Go.Proofs.Ytegmeepogjijiaa
namespace Go.Proofs.Ytegmeepogjijiaa
open Go.RowKit Croft

def over (n : Int) (z : Int) : Bool := decide (z > n)
def crewP (n t : Int) : Prop := 0 ≤ t ∧ t ≤ 4 ∧ 1 ≤ n ∧ n ≤ 9 ∧ 2 * t + 1 ≤ n
instance (n t : Int) : Decidable (crewP n t) := by unfold crewP; exact inferInstance
def crewE (gs : List Gt) (os : List Int) (n t : Int) : Int := if circE gs os = 0 then if crewP n t then if (whoseL gs).any (over n) = true then 1 else 0 else 1 else circE gs os
def needN (gs : List Gt) (os : List Int) (n t : Int) : Int := if crewE gs os n t = 0 then (dat n.toNat t.toNat gs gs.length : Int) else 0
def NeedRes (w : World) (e : Ending) (w' : World) (k err : Int) : Prop := e = .returned (.tuple #[.int .i64 k, .int .i64 err]) ∧ Below w.heap.size w w'
theorem eOver_any (z n : Int) (b : Nat) (w : World) (h : w.cell? ⟨b, 0, none⟩ = some (.int .i64 n)) :
    Calls Try.prog 78 #[.int .i64 z, .pointer (some ⟨b, 0, none⟩)] w fun e w' => e = .returned (.bool (over n z)) ∧ w = w' := by
  go_enter Try.func78, Try.ntmps78
  go_wp2_with fail
  go_ret
  exact ⟨rfl, rfl⟩
theorem dat_step {n t k : Nat} {gs : List Gt} {g : Gt} (h : gs[k]? = some g) : (g.kind = 1 → dat n t gs (k + 1) = dat n t gs k + t) ∧ (g.kind = 5 → dat n t gs (k + 1) = dat n t gs k + n * t) ∧ (g.kind ≠ 1 → g.kind ≠ 5 → dat n t gs (k + 1) = dat n t gs k) := by
  rw [dat_succ h]
  unfold gdraw
  refine ⟨fun h1 => by rw [if_pos h1], fun h5 => by rw [if_neg (by omega), if_pos h5], fun h1 h5 => by rw [if_neg h1, if_neg h5]; rfl⟩
set_option maxRecDepth 100000 in
set_option maxHeartbeats 1000000 in
theorem eNeed_any (v : Value) (gs : List Gt) (os : List Int) (n t : Int) (w : World) (h : IsCirc w v gs os) :
    Calls Try.prog 23 #[v, .int .i64 n, .int .i64 t] w fun e w' => NeedRes w e w' (needN gs os n t) (crewE gs os n t) := by
  have KC := Lib.hid h
  obtain ⟨vg, vo, rfl, hg, ho⟩ := h
  have KG := Lib.hid hg
  obtain ⟨A1, c1, rfl, hc1, hm1, hl1, hu1, hr1⟩ := hg
  obtain ⟨A2, c2, rfl, hc2, hm2, hl2, hu2, hr2⟩ := ho
  have BB := Lib.hid (((Below.refl w.heap.size w).alloc (Nat.le_refl _) (.cells #[.slice A1 gs.length c1, .slice A2 os.length c2] 46)).alloc (by rw [size_alloc]; omega) (.cells #[.int .i64 n] 3))
  have BX := Lib.hid ((Box.new w 46 [.slice A1 gs.length c1, .slice A2 os.length c2]).alloc (.cells #[.int .i64 n] 3))
  have BN := Lib.hid (Box.new (w.alloc (.cells #[.slice A1 gs.length c1, .slice A2 os.length c2] 46)) 3 [.int .i64 n])
  clear hu1 hr1 hm1 hu2 hr2 hm2
  obtain ⟨N, hN⟩ : ∃ N, N = needN gs os n t := ⟨_, rfl⟩
  obtain ⟨E, hE⟩ : ∃ E, E = crewE gs os n t := ⟨_, rfl⟩
  rw [← hN, ← hE]
  suffices hgoal : ∀ Post : Ending → World → Prop, (∀ e w', NeedRes w e w' N E → Post e w') → Calls Try.prog 23 #[.agg #[.slice A1 gs.length c1, .slice A2 os.length c2], .int .i64 n, .int .i64 t] w Post from hgoal _ fun e w' h => h
  intro Post hp
  have HP := Lib.hid hp
  clear hp
  have HNE := Lib.hid hN
  have HEE := Lib.hid hE
  clear hN hE
  by_cases h0 : circE gs os = 0
  · have HE := Lib.hid h0
    have OK := Lib.hid (circE_zero.1 h0)
    have hg30 := OK.out.g2
    have HI := Lib.hid (show inputsL gs os = whoseL gs from if_pos h0)
    have HBAD := Lib.hid (show crewE gs os n t ≠ 0 → N = 0 ∧ E = crewE gs os n t from fun h => ⟨by rw [HNE.out]; unfold needN; rw [if_neg h], HEE.out⟩)
    have HARG := Lib.hid (show ¬ crewP n t → N = 0 ∧ E = 1 from fun h => by
      have e : crewE gs os n t = 1 := by unfold crewE; rw [if_pos h0, if_neg h]
      obtain ⟨q1, q2⟩ := HBAD.out (by omega)
      exact ⟨q1, by omega⟩)
    clear h0
    go_enter Try.func23, Try.ntmps23
    go_wp2_with fail
    refine (cInputs_any _ gs os _ (KC.out.below BB.out)).mono ?_
    rintro e W1 ⟨v, rfl, ho1, hb1⟩
    rw [HI.out] at ho1
    rw [HE.out]
    obtain ⟨Aw, cw', hv, _, _⟩ := own_form ho1.1
    subst hv
    have B1 := Lib.hid (below_trans BB.out hb1 BB.out.size)
    have BX1 := Lib.hid (BX.out.below hb1)
    have BN1 := Lib.hid (BN.out.below hb1)
    have KW1 := Lib.hid ho1.is
    clear hb1 ho1
    try dsimp only
    have hcn := BN1.out.cell (i := 0) rfl
    rw [size_alloc] at hcn
    have hsz1 := B1.out.size
    by_cases h1 : t < 0
    · obtain ⟨q1, q2⟩ := HARG.out (by unfold crewP; omega)
      have hd1 : decide (t < 0) = true := by simp; omega
      subst q1 q2
      go_wp2_with fail
      exact HP.out _ _ ⟨rfl, B1.out⟩
    have hd1 : decide (t < 0) = false := by simp; omega
    by_cases h2 : t > 4
    · obtain ⟨q1, q2⟩ := HARG.out (by unfold crewP; omega)
      have hd2 : decide (t > 4) = true := by simp; omega
      subst q1 q2
      go_wp2_with fail
      exact HP.out _ _ ⟨rfl, B1.out⟩
    have hd2 : decide (t > 4) = false := by simp; omega
    by_cases h3 : n < 1
    · obtain ⟨q1, q2⟩ := HARG.out (by unfold crewP; omega)
      have hd3 : decide (n < 1) = true := by simp; omega
      subst q1 q2
      go_wp2_with fail
      exact HP.out _ _ ⟨rfl, B1.out⟩
    have hd3 : decide (n < 1) = false := by simp; omega
    by_cases h4 : n > 9
    · obtain ⟨q1, q2⟩ := HARG.out (by unfold crewP; omega)
      have hd4 : decide (n > 9) = true := by simp; omega
      subst q1 q2
      go_wp2_with fail
      exact HP.out _ _ ⟨rfl, B1.out⟩
    have hd4 : decide (n > 9) = false := by simp; omega
    by_cases h5 : n < 2 * t + 1
    · obtain ⟨q1, q2⟩ := HARG.out (by unfold crewP; omega)
      have hd5 : decide (n < 2 * t + 1) = true := by simp; omega
      subst q1 q2
      go_wp2_with fail
      exact HP.out _ _ ⟨rfl, B1.out⟩
    have hd5 : decide (n < 2 * t + 1) = false := by simp; omega
    have HCREW := Lib.hid (show crewP n t by unfold crewP; omega)
    have C := hasInts_any 78 (.pointer (some ⟨w.heap.size + 1, 0, none⟩)) (over n) _ (whoseL gs) W1 KW1.out (fun z => eOver_any z n _ _ hcn) (fun x y W => by kernel_rfl)
    cases ha : (whoseL gs).any (over n) with
    | true =>
      rw [ha] at C
      have e1 : crewE gs os n t = 1 := by unfold crewE; rw [if_pos HE.out, if_pos HCREW.out, if_pos ha]
      obtain ⟨q1, q2⟩ := HBAD.out (by omega)
      rw [e1] at q2
      subst q1 q2
      have CC := Lib.hid C
      clear C e1 ha
      go_wp2_with (go_at_call 77; refine CC.out.mono ?_; rintro e w2 ⟨rfl, rfl⟩; try dsimp only)
      exact HP.out _ _ ⟨rfl, B1.out⟩
    | false =>
      rw [ha] at C
      have e1 : crewE gs os n t = 0 := by unfold crewE; rw [if_pos HE.out, if_pos HCREW.out, if_neg (by rw [ha]; decide)]
      have q2 := HEE.out
      rw [e1] at q2
      have q1 := HNE.out
      unfold needN at q1
      rw [if_pos e1] at q1
      obtain ⟨m, hm⟩ : ∃ m : Nat, n = (m : Int) := ⟨n.toNat, by omega⟩
      obtain ⟨T, hT⟩ : ∃ T : Nat, t = (T : Int) := ⟨t.toNat, by omega⟩
      subst hm hT
      rw [Int.toNat_natCast, Int.toNat_natCast] at q1
      subst q1 q2
      have CC := Lib.hid C
      have hc0 := BX1.out.cell (i := 0) rfl
      have BN2 := Lib.hid (show Box W1 (w.heap.size + 1) 3 [.int .i64 m] from by have := BN1.out; rw [size_alloc] at this; exact this)
      have hlt1 := BN2.out.lt
      clear C e1 ha HBAD HARG HNE HEE
      go_wp2_with (go_at_call 77; refine CC.out.mono ?_; rintro e w2 ⟨rfl, rfl⟩; try dsimp only)
      clear hd1 hd2 hd3 hd4 hd5 hcn hc0
      have hmT : (m : Int) * (T : Int) = ((m * T : Nat) : Int) := by simp
      have hmT2 : m * T ≤ 36 := Nat.mul_le_mul (show m ≤ 9 by omega) (show T ≤ 4 by omega)
      have hmT0 : 0 ≤ (m : Int) * (T : Int) ∧ (m : Int) * (T : Int) ≤ 36 := by rw [hmT]; omega
      have HMT := Lib.hid hmT
      clear hmT hmT2
      go_loopw [10, 50] (fun x i wr => ∃ k : Nat, k ≤ gs.length ∧ i = .int .i64 k ∧ x = .int .i64 (dat m T gs k) ∧ Below W1.heap.size W1 wr) (fun _ i _ => gs.length - (intOf i).toNat)
      case atStart => exact ⟨0, Nat.zero_le _, rfl, rfl, Below.refl _ _⟩
      case round =>
        obtain ⟨k, hk, rfl, rfl, hbel⟩ := hrel
        have BEL := Lib.hid hbel
        have hsz := hbel.size
        have hcn := (BN2.out.under BEL.out (by omega)).cell (i := 0) rfl
        have hdl : dat m T gs k ≤ 36 * k := dat_small (by omega) (by omega) k
        clear hbel
        by_cases hlt : k < gs.length
        · obtain ⟨A, c, hA, _, _, _, hu, hr⟩ := ((KG.out.below B1.out).below BEL.out)
          injection hA with hA1 hA2 hA3
          subst hA1 hA3
          obtain ⟨b1', o1, g, rfl, hb1, hgk, hgo, ha1, ha2, ha3, ha4⟩ := gate_at hr hu hlt
          obtain ⟨hs1, hs5, hs0⟩ := dat_step (n := m) (t := T) hgk
          have hBG : Below W1.heap.size W1 (wr.alloc (.cells #[.int .i64 g.kind, .int .i64 g.a, .int .i64 g.b, .int .u64 g.n] 122)) := BEL.out.alloc hsz _
          have BG := Lib.hid hBG
          clear hr hu hgk hgo hb1 hBG
          by_cases hk1 : g.kind = 1
          · have e := Lib.hid (hs1 hk1)
            rw [hk1] at BG
            clear hs1 hs5 hs0
            go_wp2_with fail
            exact ⟨⟨k + 1, by omega, by go_num, by rw [e.out]; rfl, BG.out⟩, by simp [intOf] <;> omega⟩
          · by_cases hk5 : g.kind = 5
            · have e := Lib.hid (hs5 hk5)
              rw [hk5] at BG
              have hcn2 := (BN2.out.under BG.out (by omega)).cell (i := 0) rfl
              clear hs1 hs5 hs0 hcn
              go_wp2_with fail
              exact ⟨⟨k + 1, by omega, by go_num, by rw [e.out, HMT.out]; rfl, BG.out⟩, by simp [intOf] <;> omega⟩
            · have e := Lib.hid (hs0 hk1 hk5)
              clear hs1 hs5 hs0
              go_wp2_with fail
              exact ⟨⟨k + 1, by omega, by go_num, by rw [e.out], BG.out⟩, by simp [intOf] <;> omega⟩
        · obtain rfl : k = gs.length := by omega
          go_wp2_with fail
          exact HP.out _ _ ⟨rfl, B1.out.trans (BEL.out.mono (by omega))⟩
  · have HB := Lib.hid (show N = 0 ∧ E = circE gs os from by
      have e : crewE gs os n t = circE gs os := by unfold crewE; rw [if_neg h0]
      rw [HNE.out, HEE.out]; unfold needN; rw [e, if_neg h0]; exact ⟨rfl, rfl⟩)
    have hbb : (circE gs os != 0) = true := by rw [bne_iff_ne]; exact h0
    go_enter Try.func23, Try.ntmps23
    go_wp2_with fail
    refine (cInputs_any _ gs os _ (KC.out.below BB.out)).mono ?_
    rintro e W1 ⟨v, rfl, ho1, hb1⟩
    have B1 := Lib.hid (below_trans BB.out hb1 BB.out.size)
    clear hb1 ho1
    try dsimp only
    obtain ⟨q1, q2⟩ := HB.out
    subst q1 q2
    go_wp2_with fail
    exact HP.out _ _ ⟨rfl, B1.out⟩
end Go.Proofs.Ytegmeepogjijiaa
namespace Go.Proofs.Ytegmeepogjijiaa
open Go.RowKit Croft

/-- append of one row, as a step of a region that draws -/
theorem step_push_row {ops : Array Oper} {o : Oper} {a : Act} {K : Act → World → Prop} {Q : Exit → Act → World → Prop} {E : Prop} {w : World} (hgd : o.guard = none) (s x : Operand)
    (ho : o.op = .call { callee := .builtin .append, args := #[s, x], argTypes := #[51, 51] })
    (base : Nat) (v : Value) (vs : List Value) (rows : List (List Int)) (y : Value) (r : List Int) (g c : Nat) (hs : a.eval s = v) (hown : Grid w base v vs rows) (hx : a.eval x = .slice (some ⟨g, 0, none⟩) 1 c)
    (hc : w.cell? ⟨g, 0, none⟩ = some y) (hy : OwnNums w base y r) (hfar : ∀ (k : Nat) (z : Value) (b : Nat), vs[k]? = some z → z.ownBlock = some b → y.ownBlock ≠ some b) (hl : rows.length + 1 ≤ 5864062014805) (hb : base ≤ w.heap.size)
    (h : ∀ b cap w', Grid w' base (.slice (some ⟨b, 0, none⟩) (rows.length + 1) cap) (vs ++ [y]) (rows ++ [r]) → Below base w w' → w.grownBy w' v.ownBlock → ((Value.slice (some ⟨b, 0, none⟩) (rows.length + 1) cap).ownBlock = v.ownBlock ∨ (Value.slice (some ⟨b, 0, none⟩) (rows.length + 1) cap).ownBlock = some w.heap.size) → K (a.put o.dst (.slice (some ⟨b, 0, none⟩) (rows.length + 1) cap)) w') : if Region.wanted o (yielded ops a.tmps) = true then Oper.wp Try.prog o a w K Q else E := by
  obtain ⟨i0, hi, hz0, hz1, hz2⟩ := info_parts linfo
  refine step_append_lies w hgd s x 51 ho base 22 i0 (.slice none 0 0) 1 24 Try.underlying51 hi hz0 hz1 hz2 rfl (by decide) v rows.length vs hs hown.outer ⟨g, 0, none⟩ 1 c [y] hx rfl ?_ ?_ (by omega) ?_ ?_ hb _ rfl ?_
  · intro j u hu
    match j, hu with
    | 0, hu =>
      simp at hu
      subst hu
      rw [add_addr]; exact hc
  · intro u hu
    simp at hu
    subst hu
    obtain ⟨A, cap, rfl, _, _⟩ := own_form hy.1
    rfl
  · unfold maxLen; omega
  · omega
  · intro b cap w' h1 h2 h4 _
    have h4 : (Value.slice (some ⟨b, 0, none⟩) (rows.length + 1) cap).ownBlock = v.ownBlock ∨ (Value.slice (some ⟨b, 0, none⟩) (rows.length + 1) cap).ownBlock = some w.heap.size := by
      rcases h4 with h4 | h4
      · left; rw [h4]; rfl
      · right; rw [h4]; rfl
    have kept : ∀ (z : Value) (q : List Int), OwnNums w base z q → OwnNums w' base z q := fun z q hz => hz.kept h2 (by
      cases hzb : z.ownBlock with
      | none => exact .inl rfl
      | some b => exact .inr fun hvb => kinds_apart hz.1 hown.outer (by decide) hzb hvb.symm)
    refine h b cap w' ⟨?_, by simpa using hl, fun k z q hz hq => ?_, fun k l z z' b hz hz' hzb hzb' => ?_⟩ ((Below.refl _ _).grown h2 hb (fun k hk => (hown.outer.lt k hk).1)) h2 h4
    · have e : (rows ++ [r]).length = rows.length + 1 := by simp
      rw [e]; exact h1
    · have hvl := hown.vlen
      rcases Nat.lt_or_ge k vs.length with hk | hk
      · rw [List.getElem?_append_left hk] at hz
        rw [List.getElem?_append_left (by omega)] at hq
        exact kept z q (hown.row k z q hz hq)
      · rw [List.getElem?_append_right hk] at hz
        rw [List.getElem?_append_right (by omega), ← hvl] at hq
        have h0 : k - vs.length = 0 := by
          have := (List.getElem?_eq_some_iff.1 hz).1
          simpa using this
        rw [h0] at hz hq
        simp at hz hq
        subst hz hq
        exact kept _ _ hy
    · have at_ : ∀ {k : Nat} {z : Value}, (vs ++ [y])[k]? = some z → vs[k]? = some z ∨ k = vs.length ∧ z = y := fun {k z} hz => by
        rcases Nat.lt_or_ge k vs.length with hk | hk
        · rw [List.getElem?_append_left hk] at hz; exact .inl hz
        · rw [List.getElem?_append_right hk] at hz
          have h0 : k - vs.length = 0 := by
            have := (List.getElem?_eq_some_iff.1 hz).1
            simpa using this
          rw [h0] at hz
          simp at hz
          exact .inr ⟨by omega, hz.symm⟩
      rcases at_ hz with h3 | ⟨h3, rfl⟩
      · rcases at_ hz' with h4 | ⟨h4, rfl⟩
        · exact hown.apart k l z z' b h3 h4 hzb hzb'
        · exact absurd hzb' (hfar k z b h3 hzb)
      · rcases at_ hz' with h4 | ⟨h4, rfl⟩
        · exact absurd hzb (hfar l z' b h4 hzb')
        · omega
/-- append of one number, to what the call has built -/
theorem wpList_push_num4 {ops : Array Oper} {rest : List Oper} {o : Oper} {a : Act} {Q : Exit → Act → World → Prop} {w : World} (hgd : o.guard = none) (s x : Operand)
    (ho : o.op = .call { callee := .builtin .append, args := #[s, x], argTypes := #[22, 22] })
    (base : Nat) (v : Value) (zs : List Int) (z : Int) (g c : Nat) (hs : a.eval s = v) (hown : OwnNums w base v zs) (hx : a.eval x = .slice (some ⟨g, 0, none⟩) 1 c)
    (hc : w.cell? ⟨g, 0, none⟩ = some (.int .u64 z)) (hz : U64 z) (hl : zs.length + 1 ≤ 17592186043904) (hb : base ≤ w.heap.size)
    (h : ∀ v' w', OwnNums w' base v' (zs ++ [z]) → Below base w w' → w.grownBy w' v.ownBlock → (v'.ownBlock = v.ownBlock ∨ v'.ownBlock = some w.heap.size) → wpList Try.prog ops Q rest (a.put o.dst v') w') : wpList Try.prog ops Q (o :: rest) a w := by
  obtain ⟨i0, hi, hz0, hz1, hz2⟩ := info_parts uinfo
  refine wpList_append_own_at w hgd s x 22 ho base 23 i0 (.int .u64 0) 1 8 Try.underlying22 hi hz0 hz1 hz2 rfl (by decide) v zs.length (u64s zs) hs hown.1 ⟨g, 0, none⟩ 1 c [.int .u64 z] hx rfl ?_ ?_ ?_ ?_ hb ?_
  · intro j u hu
    match j, hu with
    | 0, hu =>
      simp at hu
      subst hu
      rw [add_addr]; exact hc
  · intro u hu
    simp at hu
    subst hu; rfl
  · unfold maxLen; omega
  · omega
  · intro v' w' h1 h2 _ h4
    refine h v' w' ⟨?_, ?_, ?_⟩ ((Below.refl _ _).grown h2 hb (fun k hk => (hown.1.lt k hk).1)) h2 h4
    · have e : (zs ++ [z]).length = zs.length + 1 := by simp
      have e2 : u64s (zs ++ [z]) = u64s zs ++ [.int .u64 z] := by simp [u64s]
      rw [e, e2]; exact h1
    · simpa using hl
    · intro y hy
      rcases List.mem_append.1 hy with h3 | h3
      · exact hown.2.2 y h3
      · simp at h3; subst h3; exact hz
theorem toFs_drop (l : List Int) (k : Nat) : toFs (l.drop k) = (toFs l).drop k := by simp [toFs, List.map_drop]
theorem ofFs_append (a b : List F) : ofFs (a ++ b) = ofFs a ++ ofFs b := by simp [ofFs]
/-- numbers that nobody else has grow: a run's memory stays -/
theorem St.apart {W0 w w' : World} {b g n t : Nat} {vi vd vw u : Value} {vws vss : List Value} {ins ds zs : List Int} {ws seen : List (List Int)} {B : Nat} (h : St W0 w b g n t vi vd vw vws vss ins ds ws seen) (hu : OwnNums w B u zs) (hB : W0.heap.size ≤ B) (hg : w.grownBy w' u.ownBlock) (h1 : FarAll u vss) (h2 : FarAll u vws) : St W0 w' b g n t vi vd vw vws vss ins ds ws seen := by
  have num : ∀ (y : Value) (l : List Int), OwnNums w W0.heap.size y l → Far u y → OwnNums w' W0.heap.size y l := fun y l hy hf => hy.kept hg hf.symm.kept
  have out : ∀ {v : Value} {k : Nat} {xs : List Value}, w.ownsRow W0.heap.size 22 1 v k xs → w'.ownsRow W0.heap.size 22 1 v k xs := fun {v} {k} {xs} hv => hv.kept hg (by
    cases hc : v.ownBlock with
    | none => exact .inl rfl
    | some c => exact .inr fun e => kinds_apart hv hu.1 (by decide) hc e.symm)
  refine ⟨⟨(h.pl.bel).grown hg h.pl.bel.size (fun k hk => Nat.le_trans hB (hu.1.lt k hk).1), ⟨out h.pl.wires.outer, h.pl.wires.len, fun i x r hx hr => num x r (h.pl.wires.row i x r hx hr) (h2 i x hx), h.pl.wires.apart⟩,
    ⟨out h.pl.seen.outer, h.pl.seen.len, fun i x r hx hr => num x r (h.pl.seen.row i x r hx hr) (h1 i x hx), h.pl.seen.apart⟩, h.pl.far, h.pl.rows⟩, h.box.grown hg (fun e => box_row_ne h.box hu.1 (by decide) e), h.le, h.ins, h.ds⟩
theorem FarAll.grow {u u' : Value} {vs : List Value} {N : Nat} (h : FarAll u vs) (hu : ∀ (j : Nat) (y : Value), vs[j]? = some y → ∀ b, y.ownBlock = some b → b < N) (h4 : u'.ownBlock = u.ownBlock ∨ u'.ownBlock = some N) : FarAll u' vs := fun j y hy => ((h j y hy).symm.grow (hu j y hy) h4).symm
theorem Grid.under {w : World} {base : Nat} {v : Value} {vs : List Value} {rows : List (List Int)} (h : Grid w base v vs rows) (j : Nat) (y : Value) (hy : vs[j]? = some y) (b : Nat) (hb : y.ownBlock = some b) : b < w.heap.size := by
  have hj := (List.getElem?_eq_some_iff.1 hy).1
  rw [h.vlen] at hj
  exact ((h.row j y _ hy (List.getElem?_eq_getElem hj)).1.lt b hb).2
theorem rowsN_nil (n : Nat) : rowsN n (fun _ => []) = List.replicate n [] := by
  apply List.ext_getElem?
  intro q
  by_cases h : q < n
  · rw [rowsN_get _ h, List.getElem?_replicate, if_pos h]
  · rw [List.getElem?_eq_none (by rw [rowsN_length]; omega), List.getElem?_eq_none (by simp; omega)]
theorem St.wired {W0 w w7 : World} {b g n t : Nat} {vi vd vw x v' : Value} {vws vss : List Value} {ins ds r : List Int} {ws seen : List (List Int)} (h : St W0 w b g n t vi vd vw vws vss ins ds ws seen) (o : Obj) (hgr : Grid w7 W0.heap.size v' (vws ++ [x]) (ws ++ [r])) (hb : Below W0.heap.size (w.alloc o) w7) (hg : (w.alloc o).grownBy w7 vw.ownBlock) (h3 : v'.ownBlock = vw.ownBlock ∨ v'.ownBlock = some (w.alloc o).heap.size) (hx : FarAll x vss) :
    w7.cell? ⟨b, 4, none⟩ = some vw ∧ w7.frozen? ⟨b, 4, none⟩ = false ∧ St W0 (w7.setCell ⟨b, 4, none⟩ v') b g n t vi vd v' (vws ++ [x]) vss ins ds (ws ++ [r]) seen ∧ Keeps b w (w7.setCell ⟨b, 4, none⟩ v') vss vss := by
  have hb0 : Below w.heap.size w (w.alloc o) := (Below.refl _ w).alloc (Nat.le_refl _) o
  have h1 := h.below hb0
  obtain ⟨p, k⟩ := h1.pl.wire hgr hb hg h3 hx b
  have hbx := h1.box.grown hg (fun e => box_row_ne h1.box h1.pl.wires.outer (by decide) e)
  exact ⟨hbx.cell (i := 4) rfl, hbx.frozen 4, ⟨p.box hbx (by decide) (by decide) h.le _ _, hbx.set 4 _, h.le, h.ins, h.ds⟩, ((Keeps.of_below hb0).trans k).trans (Keeps.of_box hbx (by decide) _ _)⟩
theorem run_next {n t k : Nat} {gs : List Gt} {g : Gt} (h : gs[k]? = some g) (ins ds : List Int) :
    (if g.kind = 1 then (ins.drop (cin gs k)).drop 1 else ins.drop (cin gs k)) = ins.drop (cin gs (k + 1)) ∧ (ds.drop (dat n t gs k)).drop (gdraw n t g) = ds.drop (dat n t gs (k + 1)) ∧
    (ew n t gs (toFs ins) (toFs ds) k).map ofFs ++ [ofFs (ewire n t (ew n t gs (toFs ins) (toFs ds) k) (co (toFs (ins.drop (cin gs k))) 0) (toFs (ds.drop (dat n t gs k))) g)] = (ew n t gs (toFs ins) (toFs ds) (k + 1)).map ofFs ∧
    (rowsN n fun q => ofFs (es n t gs (toFs ins) (toFs ds) k q) ++ ofFs (eseen n t (ew n t gs (toFs ins) (toFs ds) k) (co (toFs (ins.drop (cin gs k))) 0) (toFs (ds.drop (dat n t gs k))) g q)) = rowsN n fun q => ofFs (es n t gs (toFs ins) (toFs ds) (k + 1) q) := by
  refine ⟨drop_next gs ins h, by rw [List.drop_drop, dat_succ h], ?_, ?_⟩
  · rw [drop_head, toFs_drop, ew_succ h, List.map_append]; rfl
  · refine rowsN_congr fun q _ => ?_
    rw [drop_head, toFs_drop, es_succ h, ofFs_append]
theorem ew_lens {n t : Nat} {gs : List Gt} {I D : List F} (hr : ∀ (i : Nat) (g : Gt), gs[i]? = some g → gRight g i = true) (hn : 2 * t + 1 ≤ n) (hn9 : n ≤ 1000) {k : Nat} (hk : k ≤ gs.length) : ∀ l ∈ ew n t gs I D k, l.length = n := fun l hl => by
  obtain ⟨i, hi⟩ := List.getElem?_of_mem hl
  have hlt := (List.getElem?_eq_some_iff.1 hi).1
  have h := (ew_shared (I := I) (D := D) hr hn hn9 k hk i (by rw [ew_length] at hlt; exact hlt)).len
  have e := wr_get hlt
  rw [hi] at e
  rw [Option.some.inj e]; exact h
end Go.Proofs.Ytegmeepogjijiaa
namespace Go.Proofs.Ytegmeepogjijiaa
open Go.RowKit Croft

def RunRes (w : World) (e : Ending) (w' : World) (n : Nat) (out : List Int) (seen : List (List Int)) : Prop :=
  ∃ vo g vss, e = .returned (.tuple #[vo, .slice (some ⟨g, 0, none⟩) n n, .int .i64 0]) ∧ OwnNums w' w.heap.size vo out ∧ Grid w' w.heap.size (.slice (some ⟨g, 0, none⟩) n n) vss seen ∧ FarAll vo vss ∧ Below w.heap.size w w'
theorem crewE_zero {gs : List Gt} {os : List Int} {n t : Int} : crewE gs os n t = 0 ↔ CircOk gs os ∧ crewP n t ∧ ¬ (whoseL gs).any (over n) = true := by
  unfold crewE
  rw [← circE_zero]
  by_cases h0 : circE gs os = 0
  · rw [if_pos h0]
    by_cases h1 : crewP n t
    · rw [if_pos h1]
      by_cases h2 : (whoseL gs).any (over n) = true
      · rw [if_pos h2]; exact ⟨fun h => by omega, fun h => absurd h2 h.2.2⟩
      · rw [if_neg h2]; exact ⟨fun _ => ⟨h0, h1, h2⟩, fun _ => rfl⟩
    · rw [if_neg h1]; exact ⟨fun h => by omega, fun h => absurd h.2.1 h1⟩
  · rw [if_neg h0]; exact ⟨fun h => absurd h h0, fun h => absurd h.1 h0⟩
set_option maxRecDepth 100000 in
set_option maxHeartbeats 2000000 in
theorem eRun_ok (v vi vd : Value) (gs : List Gt) (os ins ds : List Int) (n t : Nat) (w : World) (h : IsCirc w v gs os) (hi : IsNums w vi ins) (hd : IsNums w vd ds) (h0 : crewE gs os n t = 0) (hli : ins.length = (whoseL gs).length) (hld : ds.length = dat n t gs gs.length) :
    Calls Try.prog 27 #[v, .int .i64 n, .int .i64 t, vi, vd] w fun e w' => RunRes w e w' n (ofFs (couts gs os (toFs ins))) (rowsN n fun j => ofFs (eo n t gs os (toFs ins) (toFs ds) os.length j)) := by
  have KC := Lib.hid h
  have KI := Lib.hid hi
  have KD := Lib.hid hd
  obtain ⟨hok, hcrew, _⟩ := crewE_zero.1 h0
  have OK := Lib.hid hok
  have hg30 := hok.g2
  have ho30 := hok.o2
  obtain ⟨hc1, hc2, hc3, hc4, hc5⟩ := hcrew
  have ht4 : t ≤ 4 := by omega
  have hn2 : 2 * t + 1 ≤ n := by omega
  have hn9 : n ≤ 9 := by omega
  have HE := Lib.hid h0
  have HI := Lib.hid (show inputsL gs os = whoseL gs from if_pos (circE_zero.2 hok))
  have HC := Lib.hid (circE_zero.2 hok)
  have HN := Lib.hid (show needN gs os n t = (dat n t gs gs.length : Int) by unfold needN; rw [if_pos h0, Int.toNat_natCast, Int.toNat_natCast])
  have HLI := Lib.hid hli
  have HLD := Lib.hid hld
  obtain ⟨vg, vo, rfl, hg, ho⟩ := h
  have KG := Lib.hid hg
  have KO := Lib.hid ho
  obtain ⟨A1, c1, rfl, hc1', hm1, hl1, hu1, hr1⟩ := hg
  obtain ⟨A2, c2, rfl, hc2', hm2, hl2, hu2, hr2⟩ := ho
  obtain ⟨A3, c3, rfl, hc3', hm3, hl3, hu3, hr3⟩ := hi
  obtain ⟨A4, c4, rfl, hc4', hm4, hl4, hu4, hr4⟩ := hd
  have BB := Lib.hid ((Below.refl w.heap.size w).alloc (Nat.le_refl _) (.cells #[.slice A1 gs.length c1, .slice A2 os.length c2] 46))
  have BX := Lib.hid (Box.new w 46 [.slice A1 gs.length c1, .slice A2 os.length c2])
  have hbi : ((ins.length : Int) != ((whoseL gs).length : Int)) = false := by rw [bne_eq_false_iff_eq]; omega
  obtain ⟨K, hK⟩ : ∃ K, K = dat n t gs gs.length := ⟨_, rfl⟩
  rw [← hK] at HN HLD hld
  have hbd : ((ds.length : Int) != (K : Int)) = false := by rw [bne_eq_false_iff_eq]; omega
  have HK := Lib.hid hK
  clear hK
  suffices hgoal : ∀ Post : Ending → World → Prop, (∀ e w', RunRes w e w' n (ofFs (couts gs os (toFs ins))) (rowsN n fun j => ofFs (eo n t gs os (toFs ins) (toFs ds) os.length j)) → Post e w') → Calls Try.prog 27 #[.agg #[.slice A1 gs.length c1, .slice A2 os.length c2], .int .i64 n, .int .i64 t, .slice A3 ins.length c3, .slice A4 ds.length c4] w Post from hgoal _ fun e w' h => h
  intro Post hp
  have HP := Lib.hid hp
  clear hp hu1 hr1 hm1 hu2 hr2 hm2 hu3 hr3 hm3 hu4 hr4 hm4 hok h0 hli hld
  go_enter Try.func27, Try.ntmps27
  go_wp2_with fail
  refine (eNeed_any _ gs os n t _ (KC.out.below BB.out)).mono ?_
  rintro e W1 ⟨rfl, hb1⟩
  rw [HE.out, HN.out]
  have B1 := Lib.hid (below_trans BB.out hb1 BB.out.size)
  have BX1 := Lib.hid (BX.out.below hb1)
  clear hb1
  try dsimp only
  have hc0 := BX1.out.cell (i := 0) rfl
  have hc0b := BX1.out.cell (i := 1) rfl
  go_wp2_with fail
  refine (cInputs_any _ gs os _ (KC.out.below B1.out)).mono ?_
  rintro e W2 ⟨v, rfl, ho1, hb2⟩
  rw [HI.out] at ho1
  rw [HC.out]
  obtain ⟨Aw, cw', hv, _, _⟩ := own_form ho1.1
  subst hv
  have B2 := Lib.hid (below_trans B1.out hb2 B1.out.size)
  have BX2 := Lib.hid (BX1.out.below hb2)
  have hsz2 := B2.out.size
  clear hb2 ho1 hc0 hc0b
  try dsimp only
  go_wp2_with (refine wpList_make_grid rfl _ _ rfl W2.heap.size _ n rfl rfl rfl (by omega) (by omega) ?_)
  intro W3 hgr hb3
  have hsz3 := hb3.size
  have hbb := BX2.out.lt
  have hb4 : Below w.heap.size w (W3.alloc (.cells #[.int .i64 n, .int .i64 t, .slice A3 ins.length c3, .slice A4 ds.length c4, .slice none 0 0, .slice (some ⟨W2.heap.size, 0, none⟩) n n] 129)) := (B2.out.trans (hb3.mono hsz2)).alloc (by omega) _
  have B4 := Lib.hid hb4
  have BX4 := Lib.hid ((BX2.out.below hb3).alloc (.cells #[.int .i64 n, .int .i64 t, .slice A3 ins.length c3, .slice A4 ds.length c4, .slice none 0 0, .slice (some ⟨W2.heap.size, 0, none⟩) n n] 129))
  have BS4 := Lib.hid (Box.new W3 129 [.int .i64 n, .int .i64 t, .slice A3 ins.length c3, .slice A4 ds.length c4, .slice none 0 0, .slice (some ⟨W2.heap.size, 0, none⟩) n n])
  have GR4 := Lib.hid (hgr.less_below (B := w.heap.size) (w := w) (B2.out.trans (hb3.mono hsz2)) ((Below.refl W3.heap.size W3).alloc (Nat.le_refl _) (.cells #[.int .i64 n, .int .i64 t, .slice A3 ins.length c3, .slice A4 ds.length c4, .slice none 0 0, .slice (some ⟨W2.heap.size, 0, none⟩) n n] 129)) hsz2)
  have hgb := (hgr.outer.lt W2.heap.size rfl).2
  clear hgr hb3 hb4
  have ST4 := Lib.hid (show St w (W3.alloc (.cells #[.int .i64 n, .int .i64 t, .slice A3 ins.length c3, .slice A4 ds.length c4, .slice none 0 0, .slice (some ⟨W2.heap.size, 0, none⟩) n n] 129)) W3.heap.size W2.heap.size n t (.slice A3 ins.length c3) (.slice A4 ds.length c4) (.slice none 0 0) [] (List.replicate n (.slice none 0 0)) (ins.drop (cin gs 0)) (ds.drop (dat n t gs 0)) ((ew n t gs (toFs ins) (toFs ds) 0).map ofFs) (rowsN n fun q => ofFs (es n t gs (toFs ins) (toFs ds) 0 q)) from
    ⟨⟨B4.out, Grid.nil _ _, by rw [show (fun q => ofFs (es n t gs (toFs ins) (toFs ds) 0 q)) = (fun _ => []) from rfl, rowsN_nil]; exact GR4.out, Far.nil_ _, fun i x hx => by simp at hx⟩, BS4.out, by omega, KI.out, KD.out⟩)
  have hc0 := BX4.out.cell (i := 0) rfl
  clear BS4 GR4 B4 BX2 BX1 BX BB
  have hks : IntKind.i64.wrap 0 = 0 := rfl
  clear hks
  go_wp2_with fail
  clear hc0 hbi hbd
  go_loopw [60] (fun i wr => ∃ (k : Nat) (vi' vd' vw' : Value) (vws vss : List Value), k ≤ gs.length ∧ i = .int .i64 k ∧ St w wr W3.heap.size W2.heap.size n t vi' vd' vw' vws vss (ins.drop (cin gs k)) (ds.drop (dat n t gs k)) ((ew n t gs (toFs ins) (toFs ds) k).map ofFs) (rowsN n fun q => ofFs (es n t gs (toFs ins) (toFs ds) k q)) ∧ Box wr w.heap.size 46 [.slice A1 gs.length c1, .slice A2 os.length c2]) (fun i _ => gs.length - (intOf i).toNat)
  case atStart => exact ⟨0, _, _, _, _, _, Nat.zero_le _, rfl, ST4.out, BX4.out⟩
  case round =>
    obtain ⟨k, vi', vd', vw', vws, vss, hk, rfl, hst, hbx⟩ := hrel
    clear ST4 BX4
    have ST := Lib.hid hst
    have BX := Lib.hid hbx
    have hsz := hst.pl.bel.size
    have hbw := hst.box.lt
    clear hst hbx
    by_cases hlt : k < gs.length
    · obtain ⟨A, c, hA, _, _, _, hu, hr⟩ := KG.out.below ST.out.pl.bel
      injection hA with hA1 hA2 hA3
      subst hA1 hA3
      obtain ⟨b1', o1, G, rfl, hb1, hgk, hgo, ha1, ha2, ha3, ha4⟩ := gate_at hr hu hlt
      have HGK := Lib.hid hgk
      have BG := Lib.hid ((Below.refl wr.heap.size wr).alloc (Nat.le_refl _) (.cells #[.int .i64 G.kind, .int .i64 G.a, .int .i64 G.b, .int .u64 G.n] 122))
      have BXG := Lib.hid (Box.new wr 122 [.int .i64 G.kind, .int .i64 G.a, .int .i64 G.b, .int .u64 G.n])
      have ASK := Lib.hid (show WireAsk n t G (ew n t gs (toFs ins) (toFs ds) k) (ins.drop (cin gs k)) (ds.drop (dat n t gs k)) (fun q => ofFs (es n t gs (toFs ins) (toFs ds) k q)) from
        ⟨by rw [ew_length]; exact OK.out.right k G hgk, hgo, ew_lens OK.out.right hn2 (by omega) (Nat.le_of_lt hlt), ht4, hn2, hn9, fun h1 h2 => by
          have := cin_lt hgk h1
          rw [← HLI.out] at this
          have h3 := congrArg List.length h2
          simp at h3
          omega, by rw [List.length_drop, HLD.out, HK.out]; have := dat_room (n := n) (t := t) hgk; omega, fun q hq => by rw [ofFs_length, es_length hq]; have := slen_le (gs := gs) hn9 k; omega⟩)
      clear hr hu hgk hgo hb1 hA2
      obtain ⟨WA, hWA⟩ : ∃ WA, WA = wr.alloc (.cells #[.int .i64 G.kind, .int .i64 G.a, .int .i64 G.b, .int .u64 G.n] 122) := ⟨_, rfl⟩
      obtain ⟨WG, hWG⟩ : ∃ WG, WG = WA.drewN 1 := ⟨_, rfl⟩
      have HWA := Lib.hid hWA
      have HWG := Lib.hid hWG
      have BWG := Lib.hid (show Below wr.heap.size wr WG by rw [hWG, hWA]; exact below_drewN BG.out 1)
      have STG := Lib.hid (ST.out.below BWG.out)
      have C := Lib.hid (eWire_any w WG W3.heap.size W2.heap.size n t vi' vd' vw' vws vss _ _ _ _ G STG.out ASK.out)
      have HNEXT := Lib.hid (run_next (n := n) (t := t) HGK.out ins ds)
      have BXW := Lib.hid (BX.out.below BWG.out)
      have HPUSH := Lib.hid (show ∀ (e : Ending) (W5 : World) (R : List Int), R = ofFs (ewire n t (ew n t gs (toFs ins) (toFs ds) k) (co (toFs (ins.drop (cin gs k))) 0) (toFs (ds.drop (dat n t gs k))) G) → StRes w WG W3.heap.size W2.heap.size n t vw' vws vss ((ew n t gs (toFs ins) (toFs ds) k).map ofFs) e W5 (if G.kind = 1 then (ins.drop (cin gs k)).drop 1 else ins.drop (cin gs k)) ((ds.drop (dat n t gs k)).drop (gdraw n t G)) R (rowsN n fun q => ofFs (es n t gs (toFs ins) (toFs ds) k q) ++ ofFs (eseen n t (ew n t gs (toFs ins) (toFs ds) k) (co (toFs (ins.drop (cin gs k))) 0) (toFs (ds.drop (dat n t gs k))) G q)) →
          ∃ v, (∃ Av mv cv2, v = .slice Av mv cv2) ∧ e = .returned v ∧ W5.cell? ⟨W3.heap.size, 4, none⟩ = some vw' ∧ OwnNums W5 w.heap.size v R ∧ Grid W5 w.heap.size vw' vws ((ew n t gs (toFs ins) (toFs ds) k).map ofFs) ∧ (∀ (j : Nat) (z : Value) (c : Nat), vws[j]? = some z → z.ownBlock = some c → v.ownBlock ≠ some c) ∧ (w.heap.size ≤ W5.heap.size ∧ ∀ o, (W5.alloc o).cell? ⟨W3.heap.size, 4, none⟩ = some vw') ∧
          ∀ (bb cap : Nat) (w7 : World), Grid w7 w.heap.size (.slice (some ⟨bb, 0, none⟩) (k + 1) cap) (vws ++ [v]) ((ew n t gs (toFs ins) (toFs ds) k).map ofFs ++ [R]) → Below w.heap.size (W5.alloc (.cells #[v] 22)) w7 → (W5.alloc (.cells #[v] 22)).grownBy w7 vw'.ownBlock → ((Value.slice (some ⟨bb, 0, none⟩) (k + 1) cap).ownBlock = vw'.ownBlock ∨ (Value.slice (some ⟨bb, 0, none⟩) (k + 1) cap).ownBlock = some (W5.alloc (.cells #[v] 22)).heap.size) →
            w7.cell? ⟨W3.heap.size, 4, none⟩ = some vw' ∧ w7.frozen? ⟨W3.heap.size, 4, none⟩ = false ∧ (∃ vi2 vd2 vss2, St w (w7.setCell ⟨W3.heap.size, 4, none⟩ (.slice (some ⟨bb, 0, none⟩) (k + 1) cap)) W3.heap.size W2.heap.size n t vi2 vd2 (.slice (some ⟨bb, 0, none⟩) (k + 1) cap) (vws ++ [v]) vss2 (ins.drop (cin gs (k + 1))) (ds.drop (dat n t gs (k + 1))) ((ew n t gs (toFs ins) (toFs ds) (k + 1)).map ofFs) (rowsN n fun q => ofFs (es n t gs (toFs ins) (toFs ds) (k + 1) q))) ∧ Box (w7.setCell ⟨W3.heap.size, 4, none⟩ (.slice (some ⟨bb, 0, none⟩) (k + 1) cap)) w.heap.size 46 [.slice (some ⟨b1', o1, none⟩) gs.length c1, .slice A2 os.length c2] from fun e W5 R hR hres => by
        obtain ⟨v, vi2, vd2, vss2, rfl, ho5, hv5, hf5, hst5, hk5⟩ := hres
        refine ⟨v, (by obtain ⟨Av, cv2, hv, _, _⟩ := own_form ho5.1; exact ⟨Av, _, cv2, hv⟩), rfl, hst5.box.cell (i := 4) rfl, ho5, hst5.pl.wires, fun j z c hz hc hv => ?_, ⟨hst5.pl.bel.size, fun o => (hst5.box.alloc o).cell (i := 4) rfl⟩, fun bb cap w7 hg7 hb7 hgr7 hat7 => ?_⟩
        · have h1 := hv5 c hv
          have h2 := STG.out.pl.wires.under j z hz c hc
          omega
        · obtain ⟨k1, k2, k3, k4⟩ := hst5.wired (.cells #[v] 22) hg7 hb7 hgr7 hat7 hf5
          obtain ⟨e1, e2, e3, e4⟩ := HNEXT.out
          rw [hR, e1, e2, e3, e4] at k3
          exact ⟨k1, k2, ⟨vi2, vd2, vss2, k3⟩, k4.box _ _ _ (by omega) (by decide) (by decide) (hk5.box _ _ _ (by omega) (by decide) (by decide) BXW.out)⟩)
      have hc4 : WA.cell? ⟨W3.heap.size, 4, none⟩ = some vw' := by
        have h := STG.out.box.cell (i := 4) rfl
        rw [hWG] at h; exact h
      have hg0 : WA.cell? ⟨wr.heap.size, 0, none⟩ = some (.int .i64 G.kind) := by rw [hWA]; exact BXG.out.cell (i := 0) rfl
      have hg1 : WA.cell? ⟨wr.heap.size, 1, none⟩ = some (.int .i64 G.a) := by rw [hWA]; exact BXG.out.cell (i := 1) rfl
      have hg2 : WA.cell? ⟨wr.heap.size, 2, none⟩ = some (.int .i64 G.b) := by rw [hWA]; exact BXG.out.cell (i := 2) rfl
      have hg3 : WA.cell? ⟨wr.heap.size, 3, none⟩ = some (.int .u64 G.n) := by rw [hWA]; exact BXG.out.cell (i := 3) rfl
      obtain ⟨R, hR⟩ : ∃ R, R = ofFs (ewire n t (ew n t gs (toFs ins) (toFs ds) k) (co (toFs (ins.drop (cin gs k))) 0) (toFs (ds.drop (dat n t gs k))) G) := ⟨_, rfl⟩
      have HPU := Lib.hid (fun e W5 => HPUSH.out e W5 R hR)
      rw [← hR] at C
      have hwl : ((ew n t gs (toFs ins) (toFs ds) k).map ofFs).length = k := by rw [List.length_map, ew_length]
      have HWL := Lib.hid hwl
      have hlen := hwl
      clear hR HPUSH STG BXW HNEXT ASK BG BXG HWG
      subst hWG
      have hk30 : k + 1 ≤ 31 := by omega
      have hkm : k + 1 ≤ 5864062014805 := by omega
      clear hwl hlen hk30
      go_wp2_with fail
      clear ha1 ha2 ha3 ha4
      rw [← HWA.out]
      clear hWA
      go_region_law (first | (go_simp; go_at_call 84; refine C.out.mono ?_; intro e W5 hres; obtain ⟨v, ⟨Av, mv, cv2, hvv⟩, he, q4, HO5, HG5, HF5, ⟨HS5, q4b⟩, HPW⟩ := HPU.out e W5 hres; subst hvv he; have KO5 := Lib.hid HO5; have KG5 := Lib.hid HG5; have KF5 := Lib.hid HF5; have KPW := Lib.hid HPW; clear hres HO5 HG5 HF5 HPW; try dsimp only) | (refine step_push_row rfl _ _ (by rfl) w.heap.size vw' vws _ (.slice Av mv cv2) _ W5.heap.size 1 (by rfl) (KG5.out.alloc _) (by rfl) (new_cell _ _ _) (KO5.out.alloc _) KF5.out (by rw [HWL.out]; exact hkm) (by rw [size_alloc]; omega) ?_; rw [HWL.out]; intro bb cap w7 hg7 hb7 hgr7 hat7; obtain ⟨hc7, hf7, ST7, BX7⟩ := KPW.out bb cap w7 hg7 hb7 hgr7 hat7; clear hg7 hb7 hgr7 hat7))
      all_goals
        obtain ⟨vi2, vd2, vss2, hst7⟩ := ST7
        have KST7 := Lib.hid hst7
        have KBX7 := Lib.hid BX7
        clear hst7 BX7 hc7 hf7 q4 q4b
        go_wp2_with fail
        exact ⟨⟨k + 1, _, _, _, _, _, by omega, by go_num, KST7.out, KBX7.out⟩, by simp [intOf] <;> omega⟩
    · obtain rfl : k = gs.length := by omega
      have hg1 := OK.out.g1
      obtain ⟨gw, cw2, hvw, hgw1, hgw2⟩ := own_slice ST.out.pl.wires.outer (by rw [List.length_map, ew_length]; omega)
      rw [List.length_map, ew_length] at hvw
      subst hvw
      have ST5 := Lib.hid (show St w wr W3.heap.size W2.heap.size n t vi' vd' (.slice (some ⟨gw, 0, none⟩) gs.length cw2) vws vss (ins.drop (cin gs gs.length)) (ds.drop (dat n t gs gs.length)) ((ew n t gs (toFs ins) (toFs ds) gs.length).map ofFs) (rowsN n fun j => ofFs (eo n t gs os (toFs ins) (toFs ds) 0 j)) from ST.out)
      have hcx := BX.out.cell (i := 1) rfl
      clear ST BX B2 B1 hk
      go_wp2_with fail
      clear hcx
      go_loopw [20, 80] (fun vo i wr => ∃ (q : Nat) (vss' : List Value), q ≤ os.length ∧ i = .int .i64 q ∧ St w wr W3.heap.size W2.heap.size n t vi' vd' (.slice (some ⟨gw, 0, none⟩) gs.length cw2) vws vss' (ins.drop (cin gs gs.length)) (ds.drop (dat n t gs gs.length)) ((ew n t gs (toFs ins) (toFs ds) gs.length).map ofFs) (rowsN n fun j => ofFs (eo n t gs os (toFs ins) (toFs ds) q j)) ∧ OwnNums wr w.heap.size vo (ofFs (outsTo gs os (toFs ins) q)) ∧ FarAll vo vss' ∧ FarAll vo vws) (fun _ i _ => os.length - (intOf i).toNat)
      case atStart => exact ⟨0, vss, Nat.zero_le _, rfl, ST5.out, OwnNums.nil _ _, fun _ _ _ => Far.nil_ _, fun _ _ _ => Far.nil_ _⟩
      case round =>
        obtain ⟨q, vss', hq, rfl, hst, hown, hf1, hf2⟩ := hrel
        clear ST5
        have ST5 := Lib.hid hst
        have KV := Lib.hid hown
        have F1 := Lib.hid hf1
        have F2 := Lib.hid hf2
        have hsz5 := hst.pl.bel.size
        have hgw5 : gw < wr.heap.size := (hst.pl.wires.outer.lt gw rfl).2
        clear hst hown hf1 hf2
        by_cases hlt2 : q < os.length
        · obtain ⟨A, c, hA, _, _, _, hu, hr⟩ := KO.out.below ST5.out.pl.bel
          injection hA with hA1 hA2 hA3
          subst hA1 hA3
          obtain ⟨b2, o2, z, rfl, hb2, hz, huz, hcz⟩ := ints_at hr hu hlt2
          have hzz := OK.out.outs z (List.mem_of_getElem? hz)
          obtain ⟨zn, rfl⟩ := Int.eq_ofNat_of_zero_le hzz.1
          have hzl : zn < gs.length := by omega
          have hc4 := ST5.out.box.cell (i := 4) rfl
          obtain ⟨x, hx, hox, hfx⟩ := ST5.out.wireAt (a := zn) (by rw [ew_length]; exact hzl)
          have hcw := ST5.out.pl.wires.cell hx
          have hsh := ew_shared (I := toFs ins) (D := toFs ds) OK.out.right hn2 (by omega) gs.length (Nat.le_refl _) zn hzl
          have C := Lib.hid (eOut_ok w wr W3.heap.size W2.heap.size n t vi' vd' (.slice (some ⟨gw, 0, none⟩) gs.length cw2) x vws vss' _ _ _ _ _ _ ST5.out hox hfx hsh ht4 (by omega) hn9 (fun j hj => by
            rw [ofFs_length, eo_length OK.out hn2 (by omega) hj q hq]
            have h1 := slen_le (gs := gs) hn9 gs.length
            have h2 : n * q ≤ 9 * 30 := Nat.mul_le_mul hn9 (by omega)
            omega))
          have HEO := Lib.hid (show (rowsN n fun j => ofFs (eo n t gs os (toFs ins) (toFs ds) q j) ++ ofFs (Croft.wr (ew n t gs (toFs ins) (toFs ds) gs.length) zn)) = rowsN n fun j => ofFs (eo n t gs os (toFs ins) (toFs ds) (q + 1) j) from rowsN_congr fun j _ => by
            rw [eo_succ hz, ofFs_append, Int.toNat_natCast])
          have HOT := Lib.hid (outsTo_next gs os (toFs ins) hz)
          rw [Int.toNat_natCast] at HOT
          have HOL := Lib.hid (show (ofFs (outsTo gs os (toFs ins) q)).length ≤ 30 by rw [ofFs_length]; unfold outsTo; rw [List.length_map, List.length_take]; omega)
          rw [HEO.out] at C
          obtain ⟨y, hy⟩ : ∃ y, y = ofF (co (cw gs (toFs ins) gs.length) zn) := ⟨_, rfl⟩
          have hyu : U64 y := by rw [hy]; exact U64.of_ofF _
          rw [← hy] at C HOT
          clear hr hu hz hb2 hzz hx hox hfx hsh hy HEO
          go_wp2_with (first | (go_at_call 85; refine C.out.mono ?_; rintro e W5 ⟨vss2, rfl, hst5, hk5⟩; have ST6 := Lib.hid hst5; have KV6 := Lib.hid (hk5.own _ _ _ KV.out F1.out); have hsz6 := hst5.pl.bel.size; clear hst5 hk5; try dsimp only) | (at_builtin; go_loud (refine wpList_push_num4 rfl _ _ (by rfl) w.heap.size _ _ y W5.heap.size 1 (by rfl) (KV6.out.1.alloc _) (by rfl) (new_cell _ _ _) hyu (by have := HOL.out; omega) (by rw [size_alloc]; omega) ?_)))
          intro v' w7 hown7 hb7 hgr7 hat7
          rw [← HOT.out] at hown7
          have STa := ST6.out.below ((Below.refl W5.heap.size W5).alloc (Nat.le_refl _) (.cells #[.int .u64 y] 23))
          have hat8 : v'.ownBlock = u20.ownBlock ∨ v'.ownBlock = some (W5.alloc (.cells #[.int .u64 y] 23)).heap.size := by rw [size_alloc]; exact hat7
          have K7 := Lib.hid hown7
          have G1 := Lib.hid (KV6.out.2.grow STa.pl.seen.under hat8)
          have G2 := Lib.hid (F2.out.grow STa.pl.wires.under hat8)
          have ST7 := Lib.hid (STa.apart (KV6.out.1.alloc _) (Nat.le_refl _) hgr7 KV6.out.2 F2.out)
          clear hown7 hb7 hgr7 hat7 hat8 STa
          go_wp2_with fail
          exact ⟨⟨q + 1, vss2, by omega, by go_num, ST7.out, K7.out, G1.out, G2.out⟩, by simp [intOf] <;> omega⟩
        · obtain rfl : q = os.length := by omega
          have hc5 := ST5.out.box.cell (i := 5) rfl
          rw [outsTo_full] at KV
          go_wp2_with fail
          go_quiet ((fail))
          go_wp2_with fail
          go_ret3
          exact HP.out _ _ ⟨_, _, vss', rfl, KV.out.drewN _, ST5.out.pl.seen.drewN _, F1.out, below_drewN ST5.out.pl.bel _⟩
end Go.Proofs.Ytegmeepogjijiaa
