/- Are two circuits the same? What the document's call returns. -/
import Derived.Test.YtljpangeodgbkaaDoorPieceW
import Derived.Test.YtljpangeodgbkaaDoorRefC
import Derived.Test.YtljpangeodgbkaaDoorCircX
import Derived.Deep.QuietTactic
import Derived.BigQuiet
namespace Go.Proofs.YtljpangeodgbkaaDoor
open Go.RowKit Go.Sort Go.PlainAid Croft

theorem i64s_getD' {zs : List Int} {j : Nat} (hj : j < zs.length) : (i64s zs)[j]? = some (.int .i64 (zs.getD j 0)) := by
  unfold i64s
  simp [List.getD_eq_getElem?_getD, List.getElem?_eq_getElem hj]
theorem eqints_any' (v1 v2 : Value) (xs ys : List Int) (w : World) (h1 : IsInts w v1 xs) (h2 : IsInts w v2 ys) :
    Calls Tryd.prog 27 #[v1, v2] w fun e w' => e = .returned (.bool (decide (xs = ys))) ∧ ∃ n, w' = w.drewN n := by
  obtain ⟨A1, c1, rfl, hc1, hm1, hl1, hu1, hr1⟩ := h1
  obtain ⟨A2, c2, rfl, hc2, hm2, hl2, hu2, hr2⟩ := h2
  by_cases hlen : xs.length = ys.length
  · cases xs with
    | nil =>
      have : ys = [] := List.eq_nil_of_length_eq_zero hlen.symm
      subst this
      refine (sh_slices_Equal_int_empty A1 A2 c1 0 c2 w (by omega)).mono fun e w' hh => ?_
      obtain ⟨rfl, rfl⟩ := hh
      exact ⟨by simp, 0, rfl⟩
    | cons x xs =>
      obtain ⟨b1, o1, rfl, hb1, hx⟩ := hr1.at_ (j := 0) (by simp [i64s])
      obtain ⟨b2, o2, rfl, hb2, hy⟩ := hr2.at_ (j := 0) (by simp only [i64s, List.length_map]; rw [← hlen]; simp)
      refine (sh_slices_Equal_int b1 o1 (x :: xs).length c1 b2 o2 ys.length c2 (x :: xs) ys w (Nat.le_refl _) (Nat.le_refl _) (by omega) (by omega) (fun j hj => ?_) (fun j hj => ?_)).mono fun e w' hh => ?_
      · rw [hx j (by simpa [i64s] using hj), i64s_getD' hj]
      · rw [hy j (by simpa [i64s] using hj), i64s_getD' hj]
      · obtain ⟨rfl, q, rfl⟩ := hh
        refine ⟨?_, q, rfl⟩
        rw [List.take_length, List.take_length]
        by_cases he : x :: xs = ys
        · rw [decide_eq_true he, he]; simp
        · rw [decide_eq_false he, beq_eq_false_iff_ne.2 he]
  · refine (sh_slices_Equal_int_lens A1 A2 xs.length c1 ys.length c2 w hlen).mono fun e w' hh => ?_
    obtain ⟨rfl, rfl⟩ := hh
    rw [decide_eq_false (fun he => hlen (by rw [he]))]
    exact ⟨rfl, 0, rfl⟩
set_option maxRecDepth 100000 in
set_option maxHeartbeats 1000000 in
theorem rSameG_any (x y : Gt) (w : World) (hx : GateOk x) (hy : GateOk y) :
    Calls Tryd.prog 29 #[gV x, gV y] w fun e w' => e = .returned (.bool (sameG x y)) ∧ Below w.heap.size w w' := by
  obtain ⟨xk, xa, xb, xn⟩ := x
  obtain ⟨yk, ya, yb, yn⟩ := y
  have BB := Lib.hid (((Below.refl w.heap.size w).alloc (Nat.le_refl _) (.cells #[.int .i64 xk, .int .i64 xa, .int .i64 xb, .int .u64 xn] 62)).alloc (by simp) (.cells #[.int .i64 yk, .int .i64 ya, .int .i64 yb, .int .u64 yn] 62))
  have hxn : U64 xn := hx.2.2.2
  have hyn : U64 yn := hy.2.2.2
  obtain ⟨nx, hnx⟩ : ∃ nx, nx = ofF (toF xn) := ⟨_, rfl⟩
  obtain ⟨ny, hny⟩ : ∃ ny, ny = ofF (toF yn) := ⟨_, rfl⟩
  have CX := Lib.hid (show ∀ W, Calls Tryd.prog 30 #[.int .u64 xn] W fun e w' => e = .returned (.int .u64 nx) ∧ W = w' from fun W => by rw [hnx]; exact rNorm_any xn W hxn)
  have CY := Lib.hid (show ∀ W, Calls Tryd.prog 30 #[.int .u64 yn] W fun e w' => e = .returned (.int .u64 ny) ∧ W = w' from fun W => by rw [hny]; exact rNorm_any yn W hyn)
  have HS := Lib.hid (show sameG ⟨xk, xa, xb, xn⟩ ⟨yk, ya, yb, yn⟩ = ((xk == yk) && (xa == ya) && (xb == yb) && (nx == ny)) by
    unfold sameG
    rw [hnx, hny]
    congr 1
    by_cases q : toF xn = toF yn
    · simp [q]
    · rw [decide_eq_false q, eq_comm, beq_eq_false_iff_ne]
      exact fun e => q (ofF_inj e))
  clear hnx hny hx hy hxn hyn
  unfold gV
  dsimp only
  by_cases h1 : (xk == yk) = true
  · by_cases h2 : (xa == ya) = true
    · by_cases h3 : (xb == yb) = true
      · have HR := Lib.hid (show sameG ⟨xk, xa, xb, xn⟩ ⟨yk, ya, yb, yn⟩ = (nx == ny) by rw [HS.out, h1, h2, h3]; simp)
        go_enter Tryd.func29, Tryd.ntmps29
        go_wp2_with fail
        go_quiet ((first | exact quietL (CX.out _) | exact quietL (CY.out _)))
        go_wp2_with fail
        go_ret
        exact ⟨by rw [HR.out]; rfl, below_drewN BB.out _⟩
      · have h3' : (xb == yb) = false := by simpa using h3
        have HR := Lib.hid (show sameG ⟨xk, xa, xb, xn⟩ ⟨yk, ya, yb, yn⟩ = false by rw [HS.out, h1, h2, h3']; simp)
        clear h3
        go_enter Tryd.func29, Tryd.ntmps29
        go_wp2_with fail
        go_quiet (fail)
        go_wp2_with fail
        go_ret
        exact ⟨by rw [HR.out]; rfl, below_drewN BB.out _⟩
    · have h2' : (xa == ya) = false := by simpa using h2
      have HR := Lib.hid (show sameG ⟨xk, xa, xb, xn⟩ ⟨yk, ya, yb, yn⟩ = false by rw [HS.out, h1, h2']; simp)
      clear h2
      go_enter Tryd.func29, Tryd.ntmps29
      go_wp2_with fail
      go_quiet (fail)
      go_wp2_with fail
      go_ret
      exact ⟨by rw [HR.out]; rfl, below_drewN BB.out _⟩
  · have h1' : (xk == yk) = false := by simpa using h1
    have HR := Lib.hid (show sameG ⟨xk, xa, xb, xn⟩ ⟨yk, ya, yb, yn⟩ = false by rw [HS.out, h1']; simp)
    clear h1
    go_enter Tryd.func29, Tryd.ntmps29
    go_wp2_with fail
    go_quiet (fail)
    go_wp2_with fail
    go_ret
    exact ⟨by rw [HR.out]; rfl, below_drewN BB.out _⟩
/-- are two lists of gates the same? -/
def sameGs (xs ys : List Gt) : Bool := decide (xs.length = ys.length) && (List.zipWith sameG xs ys).all id
def sameC (gs : List Gt) (os : List Int) (gs' : List Gt) (os' : List Int) : Bool := decide (os = os') && sameGs gs gs'
theorem zip_take {xs ys : List Gt} {k : Nat} {x y : Gt} (hx : xs[k]? = some x) (hy : ys[k]? = some y) (h : (List.zipWith sameG (xs.take k) (ys.take k)).all id = true) : (List.zipWith sameG (xs.take (k + 1)) (ys.take (k + 1))).all id = sameG x y := by
  have hlx := (List.getElem?_eq_some_iff.1 hx).1
  have hly := (List.getElem?_eq_some_iff.1 hy).1
  rw [List.take_add_one, List.take_add_one, hx, hy, List.zipWith_append (by rw [List.length_take, List.length_take]; omega), List.all_append, h]
  simp
theorem zip_bad {xs ys : List Gt} {k : Nat} {x y : Gt} (hx : xs[k]? = some x) (hy : ys[k]? = some y) (h : sameG x y = false) : (List.zipWith sameG xs ys).all id = false := by
  rw [List.all_eq_false]
  exact ⟨false, List.mem_of_getElem? (i := k) (by rw [List.getElem?_zipWith, hx, hy]; simp [h]), by simp⟩
set_option maxRecDepth 100000 in
set_option maxHeartbeats 1000000 in
theorem eqGates_any (g : Nat) (va vb : Value) (xs ys : List Gt) (w : World) (h1 : IsGates w va xs) (h2 : IsGates w vb ys)
    (hg : ∀ (x y : Gt) (W : World), GateOk x → GateOk y → Calls Tryd.prog g #[gV x, gV y] W fun e w' => e = .returned (.bool (sameG x y)) ∧ Below W.heap.size W w')
    (hcf : ∀ (x y : Value) (W : World), (callFunc g #[x, y]).run Tryd.prog W = .ok (.enter g #[x, y]) W) :
    Calls Tryd.prog 28 #[va, vb, .func (.func g) #[] #[]] w fun e w' => e = .returned (.bool (sameGs xs ys)) ∧ Below w.heap.size w w' := by
  have HG := Lib.hid hg
  have KA := Lib.hid h1
  have KB := Lib.hid h2
  obtain ⟨A1, c1, rfl, hc1, hm1, hl1, hu1, hr1⟩ := h1
  obtain ⟨A2, c2, rfl, hc2, hm2, hl2, hu2, hr2⟩ := h2
  clear hu1 hr1 hm1 hu2 hr2 hm2 hg
  suffices hgoal : ∀ Post : Ending → World → Prop, (∀ w', Below w.heap.size w w' → Post (.returned (.bool (sameGs xs ys))) w') → Calls Tryd.prog 28 #[.slice A1 xs.length c1, .slice A2 ys.length c2, .func (.func g) #[] #[]] w Post from hgoal _ fun w' h => ⟨rfl, h⟩
  intro Post hpo
  have HP := Lib.hid hpo
  clear hpo
  by_cases hlen : xs.length = ys.length
  · obtain ⟨m, hm⟩ : ∃ m, m = xs.length := ⟨_, rfl⟩
    have hm' : m = ys.length := by omega
    have HLX := Lib.hid hm
    have HLY := Lib.hid hm'
    have HS := Lib.hid (show sameGs xs ys = (List.zipWith sameG xs ys).all id by unfold sameGs; rw [decide_eq_true hlen]; simp)
    rw [← hm, ← hm']
    rw [← hm] at hl1 hc1
    rw [← hm'] at hl2 hc2
    clear hm hm' hlen
    go_enter Tryd.func28, Tryd.ntmps28
    go_wp2_with fail
    go_loopw [17] (fun i wr => ∃ k : Nat, k ≤ m ∧ i = .int .i64 k ∧ (List.zipWith sameG (xs.take k) (ys.take k)).all id = true ∧ Below w.heap.size w wr) (fun i _ => m - (intOf i).toNat)
    case atStart => exact ⟨0, Nat.zero_le _, rfl, by simp, Below.refl _ _⟩
    case round =>
      obtain ⟨k, hk, rfl, hno, hbel⟩ := hrel
      have HN := Lib.hid hno
      have BEL := Lib.hid hbel
      clear hno hbel
      by_cases hlt : k < m
      · obtain ⟨A, c, hA, _, _, _, hu, hr⟩ := (KA.out.below BEL.out)
        injection hA with hA1 hA2 hA3
        subst hA1 hA3
        obtain ⟨b1, o1, x, rfl, hb1, hgx, hgo, ha1, ha2, ha3, ha4⟩ := gate_at hr hu (show k < xs.length by have := HLX.out; omega)
        have BA := Lib.hid (below_trans BEL.out ((Below.refl wr.heap.size wr).alloc (Nat.le_refl _) (.cells #[.int .i64 x.kind, .int .i64 x.a, .int .i64 x.b, .int .u64 x.n] 62)) BEL.out.size)
        obtain ⟨A', c', hA, _, _, _, hu', hr'⟩ := (KB.out.below BA.out)
        injection hA with hB1 hB2 hB3
        subst hB1 hB3
        obtain ⟨b2, o2, y, rfl, hb2, hgy, hgo', hb3, hb4, hb5, hb6⟩ := gate_at hr' hu' (show k < ys.length by have := HLY.out; omega)
        have HX := Lib.hid hgx
        have HY := Lib.hid hgy
        have CG := Lib.hid (fun W => HG.out x y W hgo hgo')
        have BA2 := Lib.hid (below_trans BA.out ((Below.refl _ _).alloc (Nat.le_refl _) (.cells #[.int .i64 y.kind, .int .i64 y.a, .int .i64 y.b, .int .u64 y.n] 62)) BA.out.size)
        clear hgx hgy hb1 hb2 hr hu hr' hu' hA2 hB2 hgo hgo'
        cases hp : sameG x y with
        | true =>
          have HPT := Lib.hid hp
          clear hp
          go_wp2_with fail
          refine (CG.out _).mono ?_
          rintro e w' ⟨rfl, hb⟩
          rw [HPT.out]
          have B2 := Lib.hid (below_trans BA2.out hb BA2.out.size)
          clear hb
          try dsimp only
          go_wp2_with fail
          refine ⟨⟨k + 1, by omega, by go_num, ?_, B2.out⟩, by simp [intOf] <;> omega⟩
          rw [zip_take HX.out HY.out HN.out, HPT.out]
        | false =>
          have HPF := Lib.hid (show sameGs xs ys = false by rw [HS.out, zip_bad HX.out HY.out hp])
          have HPT := Lib.hid hp
          clear hp
          go_wp2_with fail
          refine (CG.out _).mono ?_
          rintro e w' ⟨rfl, hb⟩
          rw [HPT.out]
          have B2 := Lib.hid (below_trans BA2.out hb BA2.out.size)
          clear hb
          try dsimp only
          go_wp2_with fail
          have hp := HP.out _ B2.out
          rw [HPF.out] at hp
          exact hp
      · have hkm : k = m := by omega
        have hn := HN.out
        rw [hkm, List.take_of_length_le (by have := HLX.out; omega), List.take_of_length_le (by have := HLY.out; omega)] at hn
        have HPF := Lib.hid (show sameGs xs ys = true by rw [HS.out, hn])
        clear hn
        go_wp2_with fail
        have hp := HP.out _ BEL.out
        rw [HPF.out] at hp
        exact hp
  · have HPF := Lib.hid (show sameGs xs ys = false by unfold sameGs; rw [decide_eq_false hlen]; simp)
    have hbn : ((xs.length : Int) != (ys.length : Int)) = true := by rw [bne_iff_ne]; omega
    clear hlen
    go_enter Tryd.func28, Tryd.ntmps28
    go_wp2_with fail
    have hp := HP.out _ (Below.refl _ _)
    rw [HPF.out] at hp
    exact hp
set_option maxRecDepth 100000 in
set_option maxHeartbeats 1000000 in
theorem rSameC_any (v v' : Value) (gs gs' : List Gt) (os os' : List Int) (w : World) (h : IsCirc w v gs os) (h' : IsCirc w v' gs' os') :
    Calls Tryd.prog 8 #[v, v'] w fun e w' => e = .returned (.bool (sameC gs os gs' os')) ∧ Below w.heap.size w w' := by
  obtain ⟨vg, vo, rfl, hg, ho⟩ := h
  obtain ⟨vg', vo', rfl, hg', ho'⟩ := h'
  have KG := Lib.hid hg
  have KG' := Lib.hid hg'
  have KO := Lib.hid ho
  have KO' := Lib.hid ho'
  obtain ⟨A1, c1, rfl, _, _, _, _, _⟩ := hg
  obtain ⟨A2, c2, rfl, _, _, _, _, _⟩ := ho
  obtain ⟨A3, c3, rfl, _, _, _, _, _⟩ := hg'
  obtain ⟨A4, c4, rfl, _, _, _, _, _⟩ := ho'
  have BB := Lib.hid (((Below.refl w.heap.size w).alloc (Nat.le_refl _) (.cells #[.slice A1 gs.length c1, .slice A2 os.length c2] 25)).alloc (by simp) (.cells #[.slice A3 gs'.length c3, .slice A4 os'.length c4] 25))
  have BX0 := Lib.hid ((Box.new w 25 [.slice A1 gs.length c1, .slice A2 os.length c2]).alloc (.cells #[.slice A3 gs'.length c3, .slice A4 os'.length c4] 25))
  have BX1 := Lib.hid (Box.new (w.alloc (.cells #[.slice A1 gs.length c1, .slice A2 os.length c2] 25)) 25 [.slice A3 gs'.length c3, .slice A4 os'.length c4])
  have CE := Lib.hid (fun W (hW : Below w.heap.size w W) => eqints_any' _ _ _ _ W (KO.out.below hW) (KO'.out.below hW))
  have CG := Lib.hid (fun W (hW : Below w.heap.size w W) => eqGates_any 29 _ _ _ _ W (KG.out.below hW) (KG'.out.below hW) (fun x y W hx hy => rSameG_any x y W hx hy) (fun x y W => by kernel_rfl))
  obtain ⟨B, hB⟩ : ∃ B, B = decide (os = os') := ⟨_, rfl⟩
  have HB := Lib.hid hB
  rw [← hB] at CE
  clear hB
  go_enter Tryd.func8, Tryd.ntmps8
  go_wp2_with fail
  refine (CE.out _ BB.out).mono ?_
  rintro e w' ⟨rfl, q, rfl⟩
  try dsimp only
  cases B with
  | true =>
    have HS := Lib.hid (show sameC gs os gs' os' = sameGs gs gs' by unfold sameC; rw [← HB.out]; simp)
    have hk0 := (BX0.out.drewN q).cell (i := 0) rfl
    have hk1 := (BX1.out.drewN q).cell (i := 0) rfl
    rw [size_alloc] at hk1
    go_wp2_with fail
    refine (CG.out _ (below_drewN BB.out q)).mono ?_
    rintro e w' ⟨rfl, hb⟩
    have B2 := Lib.hid (below_trans (below_drewN BB.out q) hb (below_drewN BB.out q).size)
    clear hb hk0 hk1
    try dsimp only
    go_wp2_with fail
    go_ret
    exact ⟨by rw [HS.out]; rfl, B2.out⟩
  | false =>
    have HS := Lib.hid (show sameC gs os gs' os' = false by unfold sameC; rw [← HB.out]; simp)
    go_wp2_with fail
    go_ret
    exact ⟨by rw [HS.out]; rfl, below_drewN BB.out q⟩
end Go.Proofs.YtljpangeodgbkaaDoor
