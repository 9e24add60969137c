/- The law CircuitReads, walked; what the row's listed words give. -/
import Derived.Test.YtljpangeodgbkaaDoorRefRe
import Derived.Test.YtljpangeodgbkaaDoorLaidC
namespace Go.Proofs.YtljpangeodgbkaaDoor
open Go.RowKit Croft

theorem verbs0_of {W : World} {g : Nat} {t : TypeId} {cs : Array Value} {fuel : Nat} {p : List MemPlace} {enc : TypeId × Value → Unit} {sp : Nat → Bool} {held : Bool} {base : Nat} (hg : Tryd.prog.globalNamed "sharecroft/croftref.verbs" = some g) (ht : (Tryd.prog.globals[g]?).map (·.type) = some t) (hv : W.var? Tryd.prog "sharecroft/croftref.verbs" = some cs)
    (hd : DataW.trod enc Tryd.prog W base sp held fuel t cs.toList = some (Rows.laid_sharecroft_croftref_verbs, p)) : Verbs0 W := by
  have hg' := hg
  obtain rfl := Option.some.inj ((show Tryd.prog.globalNamed "sharecroft/croftref.verbs" = some 0 by kernel_rfl).symm.trans hg)
  obtain rfl := Option.some.inj ((show (Tryd.prog.globals[0]?).map (·.type) = some 60 by kernel_rfl).symm.trans ht)
  obtain ⟨xs, m, rfl, hx, hlen, hn, hel⟩ := DataW.trod_array Tryd.underlying60 hd
  have ce : Tryd.prog.cellsOf 9 = 1 := by kernel_rfl
  have ca : Tryd.prog.cellsOf 60 = 7 := by kernel_rfl
  have hx1 := congrArg Prod.fst hx
  simp only [Rows.laid_sharecroft_croftref_verbs, DataW.agg.injEq] at hx1
  have hall : ∀ k : Nat, k ≤ 6 → W.cell? ⟨0, k, none⟩ = some (.string (bs (wordL k))) := by
   intro k h6
   rw [World.var?_cell hg' hv k]
   have hk := hel k (by omega)
   rw [ce, Nat.mul_one] at hk
   rw [ca] at hlen
   obtain ⟨x, hxk⟩ : ∃ x, xs[k]? = some x := ⟨xs[k]'(by omega), List.getElem?_eq_getElem (by omega)⟩
   rw [hxk] at hk
   obtain ⟨s, hc, rfl, _⟩ := DataW.trod_string Tryd.underlying9 hk
   have hcell : cs[k]? = some (.string s) := by
     have := congrArg (·[0]?) hc
     simpa [List.getElem?_take, List.getElem?_drop] using this
   rw [hcell]
   have hm : (xs.map (·.1))[k]? = some (.lit (.string s.data.toList)) := by simp [hxk]
   rw [← hx1] at hm
   have hs : s = bs (wordL k) := by
     apply ByteArray.ext
     apply Array.toList_inj.1
     obtain rfl | rfl | rfl | rfl | rfl | rfl | rfl : k = 0 ∨ k = 1 ∨ k = 2 ∨ k = 3 ∨ k = 4 ∨ k = 5 ∨ k = 6 := by omega
     all_goals
       simp at hm
       first | (rw [← hm]; rfl) | (simp [hm, bs, wordL])
   rw [hs]
  exact ⟨fun k _ h6 => hall k h6, hall 0 (by omega)⟩
end Go.Proofs.YtljpangeodgbkaaDoor
namespace Go.Proofs.YtljpangeodgbkaaDoor
open Go.RowKit Go.Sort Go.PlainAid Croft

theorem sameG_refl (x : Gt) : sameG x x = true := by unfold sameG; simp
theorem sameGs_refl (gs : List Gt) : sameGs gs gs = true := by
  unfold sameGs
  rw [decide_eq_true rfl, Bool.true_and]
  induction gs with
  | nil => rfl
  | cons g gs ih => rw [List.zipWith_cons_cons, List.all_cons, ih, sameG_refl]; rfl
theorem sameC_refl (gs : List Gt) (os : List Int) : sameC gs os gs os = true := by unfold sameC; rw [decide_eq_true rfl, sameGs_refl]; rfl
theorem IsCirc.form {w : World} {v : Value} {gs : List Gt} {os : List Int} (h : IsCirc w v gs os) : ∃ A1 c1 A2 c2, v = .agg #[.slice A1 gs.length c1, .slice A2 os.length c2] := by
  obtain ⟨vg, vo, rfl, hg, ho⟩ := h
  obtain ⟨A1, c1, rfl, _⟩ := hg
  obtain ⟨A2, c2, rfl, _⟩ := ho
  exact ⟨A1, c1, A2, c2, rfl⟩
set_option maxRecDepth 100000 in
set_option maxHeartbeats 2000000 in
theorem circuitReads_any (l : List UInt8) (w : World) (hm : MaxIs w) (hvb : Verbs0 w) :
    Calls Tryd.prog 3 #[.string (bs l)] w fun e w' => e = .returned (.bool true) ∧ Below w.heap.size w w' := by
  have HM := Lib.hid hm
  have HV := Lib.hid hvb
  have CP := Lib.hid (cParse_any l w hm)
  have CR := Lib.hid (fun W (hW : Verbs0 W) => rRead_any l W hW)
  obtain ⟨gs, hgs⟩ : ∃ gs, gs = (parseT l).gs := ⟨_, rfl⟩
  obtain ⟨os, hos⟩ : ∃ os, os = (parseT l).os := ⟨_, rfl⟩
  obtain ⟨at_, hat⟩ : ∃ x, x = (parseT l).at_ := ⟨_, rfl⟩
  obtain ⟨ee, hee⟩ : ∃ x, x = (parseT l).e := ⟨_, rfl⟩
  rw [← hgs, ← hos, ← hat, ← hee] at CP CR
  obtain ⟨s, hs⟩ : ∃ s, s = bs l := ⟨_, rfl⟩
  rw [← hs] at CP CR ⊢
  suffices hgoal : ∀ Post : Ending → World → Prop, (∀ w', Below w.heap.size w w' → Post (.returned (.bool true)) w') → Calls Tryd.prog 3 #[.string s] w Post from hgoal _ fun w' h => ⟨rfl, h⟩
  intro Post hpo
  have HP := Lib.hid hpo
  have hb1 : (at_ == at_) = true := by simp
  have hb2 : (ee == ee) = true := by simp
  clear hm hvb hpo hgs hos hat hee hs
  go_enter Tryd.func3, Tryd.ntmps3
  go_wp2_with fail
  refine CP.out.mono ?_
  rintro e W1 ⟨v, rfl, hc, hb⟩
  obtain ⟨A1, c1, A2, c2, rfl⟩ := hc.form
  have K1 := Lib.hid hc
  have B1 := Lib.hid hb
  have BA := Lib.hid ((Below.refl W1.heap.size W1).alloc (Nat.le_refl _) (.cells #[.slice A1 gs.length c1, .slice A2 os.length c2] 25))
  have BX := Lib.hid (Box.new W1 25 [.slice A1 gs.length c1, .slice A2 os.length c2])
  have HV2 := Lib.hid ((HV.out.below hb).below BA.out)
  clear hc hb
  try dsimp only
  go_wp2_with fail
  refine (CR.out _ HV2.out).mono ?_
  rintro e W2 ⟨v, rfl, hc, hb⟩
  obtain ⟨A3, c3, A4, c4, rfl⟩ := hc.form
  have K2 := Lib.hid hc
  have BX2 := Lib.hid (BX.out.below hb)
  have K12 := Lib.hid ((K1.out.below BA.out).below hb)
  have B2 := Lib.hid (below_trans (below_trans B1.out BA.out B1.out.size) hb (below_trans B1.out BA.out B1.out.size).size)
  have BA2 := Lib.hid ((Below.refl W2.heap.size W2).alloc (Nat.le_refl _) (.cells #[.slice A3 gs.length c3, .slice A4 os.length c4] 25))
  have k0 := (BX2.out.below BA2.out).cell (i := 0) rfl
  have k1 := (BX2.out.below BA2.out).cell (i := 1) rfl
  have CS := Lib.hid (rSameC_any _ _ gs gs os os _ (K12.out.below BA2.out) (K2.out.below BA2.out))
  rw [sameC_refl] at CS
  have B3 := Lib.hid (below_trans B2.out BA2.out B2.out.size)
  clear hc hb
  try dsimp only
  go_wp2_with fail
  refine CS.out.mono ?_
  rintro e W3 ⟨rfl, hb⟩
  have B4 := Lib.hid (below_trans B3.out hb B3.out.size)
  clear hb
  try dsimp only
  go_wp2_with fail
  exact HP.out _ B4.out
end Go.Proofs.YtljpangeodgbkaaDoor
