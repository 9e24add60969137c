/- The law TwineJoins, walked. -/
import Derived.Test.YtegmeepogjijiaaTwR
import Derived.Laws.StructEq
namespace Go.Proofs.Ytegmeepogjijiaa
open Go.RowKit Go.Maps Croft

theorem pair_eqIn (a b : Int) (w : World) : (Op.equalIn 10000 90 (.agg #[.int .i64 a, .int .i64 b]) (.agg #[.int .i64 a, .int .i64 b])).run Try.prog w = .ok true w := by
  have u3 := Try.underlying3
  have a3 := Try.isAgg3
  have z3 := Try.sizeOf3
  rw [show (10000 : Nat) = 9999 + 1 from rfl, Op.equalIn]
  simp only [Sem.run_bind, run_underlying Try.underlying90, Result.andThen_ok]
  simp only [Std.Legacy.Range.forIn_eq_forIn_range', Std.Legacy.Range.size, Nat.sub_zero, Nat.add_sub_cancel, Nat.div_one, List.range'_succ, List.range'_zero, List.forIn_cons, List.forIn_nil]
  go_simp
theorem pair_neq (a b : Int) (w : World) : (binOp .neq 90 (.agg #[.int .i64 a, .int .i64 b]) (.agg #[.int .i64 a, .int .i64 b])).run Try.prog w = .ok (.bool false) w := by
  rw [run_neq_struct, pair_eqIn]
  rfl
theorem prc_get {l : List (Int × Int)} {k : Nat} {p : Int × Int} (h : l[k]? = some p) : (prc l)[k * 2]? = some (.int .i64 p.1) ∧ (prc l)[k * 2 + 1]? = some (.int .i64 p.2) := pairs_get (fun p : Int × Int => Value.int .i64 p.1) (fun p => Value.int .i64 p.2) l k p h
theorem eqPairs_any (v1 v2 : Value) (l : List (Int × Int)) (w : World) {b1 b2 : Nat} (h1 : OwnPairs w b1 v1 l) (h2 : OwnPairs w b2 v2 l) (hl : l.length ≤ 1000) :
    Calls Try.prog 53 #[v1, v2] w fun e w' => e = .returned (.bool true) ∧ ∃ n, w' = w.drewN n := by
  by_cases h0 : l = []
  · subst h0
    obtain ⟨A1, c1, rfl, _, _⟩ := own_form h1.1
    obtain ⟨A2, c2, rfl, _, _⟩ := own_form h2.1
    clear h1 h2
    suffices hgoal : ∀ Post : Ending → World → Prop, (∀ e w', (e = .returned (.bool true) ∧ ∃ n, w' = w.drewN n) → Post e w') → Calls Try.prog 53 #[.slice A1 0 c1, .slice A2 0 c2] w Post from hgoal _ fun e w' h => h
    intro Post hpo
    have HP := Lib.hid hpo
    clear hpo
    go_enter Try.func53, Try.ntmps53
    go_wp2_with fail
    go_loopw [13] (fun i wr => i = .int .i64 0 ∧ wr = w) (fun _ _ => 0)
    case atStart => exact ⟨rfl, rfl⟩
    case round =>
      obtain ⟨rfl, rfl⟩ := hrel
      go_wp2_with fail
      exact HP.out _ _ ⟨rfl, 0, rfl⟩
  · have hp : 0 < l.length := List.length_pos_iff.2 h0
    obtain ⟨g1, c1, rfl, hg1, _⟩ := own_slice h1.1 hp
    obtain ⟨g2, c2, rfl, hg2, _⟩ := own_slice h2.1 hp
    have H1 := Lib.hid h1
    have H2 := Lib.hid h2
    clear h1 h2 h0 hg1 hg2
    have hpn := fun a b W => pair_neq a b W
    suffices hgoal : ∀ Post : Ending → World → Prop, (∀ e w', (e = .returned (.bool true) ∧ ∃ n, w' = w.drewN n) → Post e w') → Calls Try.prog 53 #[.slice (some ⟨g1, 0, none⟩) l.length c1, .slice (some ⟨g2, 0, none⟩) l.length c2] w Post from hgoal _ fun e w' h => h
    intro Post hpo
    have HP := Lib.hid hpo
    clear hpo
    go_enter Try.func53, Try.ntmps53
    go_wp2_with fail
    go_loopw [13] (fun i wr => ∃ k n : Nat, k ≤ l.length ∧ i = .int .i64 k ∧ wr = w.drewN n) (fun i _ => l.length - (intOf i).toNat)
    case atStart => exact ⟨0, 0, Nat.zero_le _, rfl, rfl⟩
    case round =>
      obtain ⟨k, n, hk, rfl, hw⟩ := hrel
      have HW := Lib.hid hw
      have K1 := Lib.hid (show OwnPairs wr b1 _ l by rw [hw]; exact H1.out.drewN n)
      have K2 := Lib.hid (show OwnPairs wr b2 _ l by rw [hw]; exact H2.out.drewN n)
      clear hw
      by_cases hlt : k < l.length
      · obtain ⟨⟨x0, x1⟩, hx⟩ : ∃ x, l[k]? = some x := ⟨_, List.getElem?_eq_getElem hlt⟩
        obtain ⟨p1, p2⟩ := prc_get hx
        have ca := (K1.out.1.cellAt (k * 2) (by omega)).trans p1
        have cb := (K1.out.1.cellAt (k * 2 + 1) (by omega)).trans p2
        have cc := (K2.out.1.cellAt (k * 2) (by omega)).trans p1
        have cd := (K2.out.1.cellAt (k * 2 + 1) (by omega)).trans p2
        have hn := hpn x0 x1
        clear p1 p2 hx hpn
        dsimp only at ca cb cc cd
        go_wp2_with fail
        go_quiet (fail)
        go_wp2_with fail
        exact ⟨⟨k + 1, n + nq, by omega, by go_num, by rw [HW.out, World.drewN_drewN]⟩, by simp [intOf] <;> omega⟩
      · obtain rfl : k = l.length := by omega
        go_wp2_with fail
        exact HP.out _ _ ⟨rfl, n, HW.out⟩
theorem pPairs_all (va : Value) (l : List (Int × List Int)) (w : World) (h1 : IsRows w va l) (h : rowsB l = true) :
    Calls Try.prog 49 #[va] w fun e w' => ∃ A c, e = .returned (.tuple #[.slice A (prI l 9).length c, .int .i64 0]) ∧ OwnPairs w' w.heap.size (.slice A (prI l 9).length c) (prI l 9) ∧ Below w.heap.size w w' := by
  by_cases h0 : l = []
  · subst h0
    have e0 : prI [] 9 = [] := (pairs_same h (List.Perm.refl _) List.Pairwise.nil).trans rfl
    refine (pPairs_nil va w h1).mono ?_
    rintro e w' ⟨rfl, hb⟩
    rw [e0]
    exact ⟨none, 0, rfl, OwnPairs.nil _ _, hb⟩
  · refine (pPairs_ok va l w h1 (by unfold formE; rw [if_pos h]) (List.length_pos_iff.2 h0)).mono ?_
    rintro e w' ⟨l', vp, hp, hs, rfl, ho, hb⟩
    rw [pairs_same h hp hs]
    obtain ⟨A, c, rfl, _, _⟩ := own_form ho.1
    exact ⟨A, c, rfl, ho, hb⟩
theorem join_both (t : Int) (va : Value) (l : List (Int × List Int)) : ∃ x er : Int, 0 ≤ x ∧ (∀ w, IsRows w va l → Calls Try.prog 50 #[.int .i64 t, va] w fun e w' => NumRes w e w' x er) ∧ (∀ w, IsRows w va l → Calls Try.prog 51 #[.int .i64 t, va] w fun e w' => NumRes w e w' x er) := by
  by_cases ht : 0 ≤ t ∧ t ≤ 4
  · obtain ⟨T, rfl⟩ := Int.eq_ofNat_of_zero_le ht.1
    have hT : T ≤ 4 := by omega
    cases hr : rowsB l with
    | false =>
      refine ⟨0, 5, by omega, fun w h => pJoin_bad T va l w h ht (by unfold formE; rw [hr]; rfl), fun w h => (rJoin_any T va l w h hT).mono fun e w' hj => hj.1 (by rw [hr]; rfl)⟩
    | true =>
      have hf : formE l = 0 := by unfold formE; rw [if_pos hr]
      cases hn : l.any (badLen (T : Int)) with
      | true => exact ⟨0, 5, by omega, fun w h => pJoin_len T va l w h ht hf hn, fun w h => (rJoin_any T va l w h hT).mono fun e w' hj => hj.1 (by rw [hr, hn]; rfl)⟩
      | false =>
        have hg : (rowsB l && !(l.any (badLen (T : Int)))) = true := by rw [hr, hn]; rfl
        by_cases hfew : l.length < T + 1
        · exact ⟨0, 4, by omega, fun w h => pJoin_few T va l w h ht hf hn (by omega), fun w h => (rJoin_any T va l w h hT).mono fun e w' hj => hj.2.1 hg hfew⟩
        · obtain ⟨Q1, hQ1⟩ := interp_ex (pts_nodup (heads_ats hr))
          by_cases hA : ∀ a ∈ l, ∀ b ∈ l, fitB a b = true
          · refine ⟨ofF (peval Q1 0), 0, ofF_nonneg _, fun w h => (pJoin_ok T va l w h ht hf hn (by omega)).mono ?_, fun w h => (rJoin_any T va l w h hT).mono ?_⟩
            · rintro e w' ⟨l', Q2, hp, _, hQ2, hy, _⟩
              rw [Interp.unique (pts_nodup (heads_ats hr)) hQ1 hQ2]
              exact hy ((prL_perm hp).2 hA)
            · intro e w' hj
              obtain ⟨Q, hS, hy, _⟩ := hj.2.2 hg (by omega)
              rw [hS.told hA hQ1]
              exact hy (hS.law.1 hA)
          · refine ⟨0, 6, by omega, fun w h => (pJoin_ok T va l w h ht hf hn (by omega)).mono ?_, fun w h => (rJoin_any T va l w h hT).mono ?_⟩
            · rintro e w' ⟨l', Q2, hp, _, hQ2, _, hy⟩
              exact hy fun h => hA ((prL_perm hp).1 h)
            · intro e w' hj
              obtain ⟨Q, hS, _, hy⟩ := hj.2.2 hg (by omega)
              exact hy fun h => hA (hS.law.2 h)
  · exact ⟨0, 1, by omega, fun w _ => pJoin_arg t va w ht, fun w _ => rJoin_arg t va w ht⟩
set_option maxRecDepth 100000 in
theorem twineJoins_any (t : Int) (va : Value) (l : List (Int × List Int)) (w : World) (h1 : IsRows w va l) :
    Calls Try.prog 7 #[.int .i64 t, va] w fun e w' => e = .returned (.bool true) ∧ Below w.heap.size w w' := by
  obtain ⟨x, er, hx0, hp, hr⟩ := join_both t va l
  have CP := Lib.hid hp
  have CR := Lib.hid hr
  have KA := Lib.hid h1
  suffices hgoal : ∀ Post : Ending → World → Prop, (∀ w', Below w.heap.size w w' → Post (.returned (.bool true)) w') → Calls Try.prog 7 #[.int .i64 t, va] w Post from hgoal _ fun w' h => ⟨rfl, h⟩
  intro Post hpo
  have HP := Lib.hid hpo
  clear hpo hp hr h1
  cases hrow : rowsB l with
  | false =>
    have HR := Lib.hid hrow
    have HF := Lib.hid (show formE l = 5 by unfold formE; rw [hrow]; rfl)
    clear hrow
    go_enter Try.func7, Try.ntmps7
    go_wp2_with fail
    refine (pPairs_bad va l _ KA.out (by rw [HF.out]; omega)).mono ?_
    rintro e W1 ⟨rfl, hb1⟩
    rw [HF.out]
    have B1 := Lib.hid hb1
    clear hb1
    try dsimp only
    go_wp2_with fail
    refine (CP.out _ (KA.out.below B1.out)).mono ?_
    rintro e W2 ⟨rfl, hb2⟩
    have B2 := Lib.hid (below_trans B1.out hb2 B1.out.size)
    clear hb2 B1
    try dsimp only
    go_wp2_with fail
    refine (CR.out _ (KA.out.below B2.out)).mono ?_
    rintro e W3 ⟨rfl, hb3⟩
    have B3 := Lib.hid (below_trans B2.out hb3 B2.out.size)
    clear hb3 B2
    try dsimp only
    go_wp2_with fail
    refine (rRows_any va l _ (KA.out.below B3.out)).mono ?_
    rintro e w' ⟨rfl, d, rfl⟩
    rw [HR.out]
    try dsimp only
    go_wp2_with fail
    exact HP.out _ (below_drewN B3.out d)
  | true =>
    have HR := Lib.hid hrow
    have HLE := Lib.hid (prI_length l 9)
    clear hrow
    go_enter Try.func7, Try.ntmps7
    go_wp2_with fail
    refine (pPairs_all va l _ KA.out HR.out).mono ?_
    rintro e W1 ⟨A1, c1, rfl, ho1, hb1⟩
    have B1 := Lib.hid hb1
    have O1 := Lib.hid ho1
    clear hb1 ho1
    obtain ⟨np, hnp⟩ : ∃ np, np = (prI l 9).length := ⟨_, rfl⟩
    rw [← hnp] at O1 ⊢
    clear hnp
    try dsimp only
    go_wp2_with fail
    refine (CP.out _ (KA.out.below B1.out)).mono ?_
    rintro e W2 ⟨rfl, hb2⟩
    have B2 := Lib.hid (below_trans B1.out hb2 B1.out.size)
    have O2 := Lib.hid (O1.out.below hb2)
    clear hb2 B1 O1
    try dsimp only
    go_wp2_with fail
    refine (CR.out _ (KA.out.below B2.out)).mono ?_
    rintro e W3 ⟨rfl, hb3⟩
    have B3 := Lib.hid (below_trans B2.out hb3 B2.out.size)
    have O3 := Lib.hid (O2.out.below hb3)
    clear hb3 B2 O2
    try dsimp only
    go_wp2_with fail
    refine (rRows_any va l _ (KA.out.below B3.out)).mono ?_
    rintro e w' ⟨rfl, d, rfl⟩
    rw [HR.out]
    replace B3 := Lib.hid (below_drewN B3.out d)
    replace O3 := Lib.hid (O3.out.drewN d)
    try dsimp only
    go_wp2_with fail
    refine (rPairs_any va l _ (KA.out.below B3.out)).mono ?_
    rintro e W4 ⟨v4, rfl, ho4, hb4⟩
    have B4 := Lib.hid (below_trans B3.out hb4 B3.out.size)
    have O4 := Lib.hid (O3.out.below hb4)
    have R4 := Lib.hid ho4
    clear hb4 ho4 B3 O3
    try dsimp only
    go_wp2_with fail
    refine (eqPairs_any _ _ (prI l 9) _ O4.out R4.out (by have := HLE.out; omega)).mono ?_
    rintro e w' ⟨rfl, d2, rfl⟩
    have B5 := Lib.hid (below_drewN B4.out d2)
    clear B4 O4 R4
    try dsimp only
    go_wp2_with fail
    exact HP.out _ B5.out
end Go.Proofs.Ytegmeepogjijiaa
