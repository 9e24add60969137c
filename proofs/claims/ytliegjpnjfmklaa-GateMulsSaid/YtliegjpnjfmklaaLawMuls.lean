/- The law GateMuls, walked. -/
import Derived.Test.YtliegjpnjfmklaaMulW
import Derived.Test.YtliegjpnjfmklaaTimesW
namespace Go.Proofs.Ytliegjpnjfmklaa
open Go.RowKit Croft

theorem lens2' {w : World} {A B : Option Addr} {n c m d : Nat} (h : n ≤ 17592186043904) (h2 : m ≤ 17592186043904) : LensAt (w.alloc (.cells #[.slice A n c, .slice B m d] 26)) w.heap.size 0 [n, m] := by
  refine ⟨by simp, fun j k hj => ?_⟩
  match j, hj with
  | 0, hj => simp at hj; subst hj; exact ⟨A, c, by simp, h⟩
  | 1, hj => simp at hj; subst hj; exact ⟨B, d, by simp, h2⟩
theorem eqFuncNums_any (va vb : Value) (l : List (List Int)) (w : World) (h1 : IsNumss w va l) (h2 : IsNumss w vb l) :
    Calls Try.prog 88 #[va, vb, .func (.func 89) #[] #[]] w fun e w' => e = .returned (.bool true) ∧ ∃ n, w' = w.drewN n := by
  have hcf : ∀ (x y : Value) (W : World), (callFunc 89 #[x, y]).run Try.prog W = .ok (.enter 89 #[x, y]) W := fun x y W => by kernel_rfl
  have KA := Lib.hid h1
  have KB := Lib.hid h2
  obtain ⟨A1, c1, vs1, rfl, hc1, hm1, hl1, hr1, ha1⟩ := h1
  obtain ⟨A2, c2, vs2, rfl, hc2, hm2, hl2, hr2, ha2⟩ := h2
  have HR1 := Lib.hid hr1
  have HA1 := Lib.hid ha1
  have HR2 := Lib.hid hr2
  have HA2 := Lib.hid ha2
  clear hr1 ha1 hr2 ha2 hm1 hm2 KA KB
  go_enter Try.func88, Try.ntmps88
  go_wp2_with fail
  go_loopw [17] (fun i wr => ∃ k n : Nat, k ≤ l.length ∧ i = .int .i64 k ∧ wr = w.drewN n) (fun i _ => l.length - (intOf i).toNat)
  case atStart => exact ⟨0, 0, Nat.zero_le _, rfl, rfl⟩
  case round =>
    obtain ⟨k, n, hk, rfl, rfl⟩ := hrel
    by_cases hlt : k < l.length
    · obtain ⟨b1, o1, x1, r1, rfl, hb1, hx1, hg1, hn1, hc1'⟩ := numss_at HR1.out HA1.out hlt
      obtain ⟨b2, o2, x2, r2, rfl, hb2, hx2, hg2, hn2, hc2'⟩ := numss_at HR2.out HA2.out hlt
      obtain rfl := Option.some.inj (hg1.symm.trans hg2)
      have K1 := Lib.hid (hn1.drewN n)
      have K2 := Lib.hid (hn2.drewN n)
      clear hn1 hn2 hg1 hg2 hx1 hx2 hb1 hb2
      have HC := Lib.hid (show Calls Try.prog 89 #[x1, x2] (w.drewN n) fun e w' => e = .returned (.bool true) ∧ ∃ m, w' = (w.drewN n).drewN m from by
        go_enter Try.func89, Try.ntmps89
        go_wp2_with fail
        refine (equal_any _ _ _ _ _ K1.out K2.out).mono ?_
        rintro e w' ⟨rfl, nd, rfl⟩
        rw [decide_eq_true rfl]
        try dsimp only
        go_wp2_with fail
        go_ret
        exact ⟨rfl, nd, rfl⟩)
      go_wp2_with fail
      refine HC.out.mono ?_
      rintro e w' ⟨rfl, nd, rfl⟩
      try dsimp only
      go_wp2_with fail
      exact ⟨⟨k + 1, n + nd, by omega, by go_num, by first | rfl | rw [World.drewN_drewN]⟩, by simp [intOf] <;> omega⟩
    · go_wp2_with fail
      go_ret
      exact ⟨rfl, n, rfl⟩
theorem same_any (va vb : Value) (l : List (List Int)) (w : World) (h1 : IsNumss w va l) (h2 : IsNumss w vb l) :
    Calls Try.prog 46 #[va, vb] w fun e w' => e = .returned (.bool true) ∧ ∃ n, w' = w.drewN n := by
  have C := Lib.hid (eqFuncNums_any va vb l w h1 h2)
  clear h1 h2
  go_enter Try.func46, Try.ntmps46
  go_wp2_with fail
  refine C.out.mono ?_
  rintro e w' ⟨rfl, n, rfl⟩
  go_wp2_with fail
  go_ret
  exact ⟨rfl, n, rfl⟩
theorem IsNumss.nil (w : World) : IsNumss w (.slice none 0 0) [] := (Grid.nil w 0).is
theorem MulRes.none (w w' : World) (err : Int) (hb : Below w.heap.size w w') : MulRes w (.returned (.tuple #[.slice none 0 0, .slice none 0 0, .int .i64 err])) w' [] [] err :=
  ⟨_, _, [], rfl, OwnNums.nil _ _, Grid.nil _ _, fun i x b hx => by simp at hx, hb⟩

theorem gMul_arg (t : Int) (va vb vd : Value) (xs ys ds : List Int) (w : World) (h1 : IsNums w va xs) (h2 : IsNums w vb ys) (h3 : IsNums w vd ds) (ht : ¬ (0 ≤ t ∧ t ≤ 4)) :
    Calls Try.prog 45 #[.int .i64 t, va, vb, vd] w fun e w' => MulRes w e w' [] [] 1 := by
  obtain ⟨A1, c1, rfl, hc1, hm1, hl1, hu1, hr1⟩ := h1
  obtain ⟨A2, c2, rfl, hc2, hm2, hl2, hu2, hr2⟩ := h2
  obtain ⟨A3, c3, rfl, hc3, hm3, hl3, hu3, hr3⟩ := h3
  clear hu1 hr1 hm1 hu2 hr2 hm2 hu3 hr3 hm3
  by_cases k1 : t < 0
  · clear ht
    go_enter Try.func45, Try.ntmps45
    go_wp2_with fail
    go_ret3
    exact MulRes.none _ _ _ (Below.refl _ _)
  · have k2 : t > 4 := by omega
    have hd1 : decide (t < 0) = false := by simpa using k1
    clear ht
    go_enter Try.func45, Try.ntmps45
    go_wp2_with fail
    go_ret3
    exact MulRes.none _ _ _ (Below.refl _ _)
theorem gMul_form (t : Int) (va vb vd : Value) (xs ys ds : List Int) (w : World) (h1 : IsNums w va xs) (h2 : IsNums w vb ys) (h3 : IsNums w vd ds) (ht : 0 ≤ t ∧ t ≤ 4) (hw : wireB [xs.length, ys.length] = false) :
    Calls Try.prog 45 #[.int .i64 t, va, vb, vd] w fun e w' => MulRes w e w' [] [] 5 := by
  obtain ⟨A1, c1, rfl, hc1, hm1, hl1, hu1, hr1⟩ := h1
  obtain ⟨A2, c2, rfl, hc2, hm2, hl2, hu2, hr2⟩ := h2
  obtain ⟨A3, c3, rfl, hc3, hm3, hl3, hu3, hr3⟩ := h3
  clear hu1 hr1 hm1 hu2 hr2 hm2 hu3 hr3 hm3
  obtain ⟨ht1, ht2⟩ := ht
  have hd1 : decide (t < 0) = false := by simpa using ht1
  have hd2 : decide (t > 4) = false := by simpa using ht2
  have HE := Lib.hid (show wireE [xs.length, ys.length] = 5 by unfold wireE; rw [hw]; rfl)
  clear hw
  go_enter Try.func45, Try.ntmps45
  go_wp2_with fail
  refine (gForm_any _ 0 _ _ _ _ (lens2' hl1 hl2) (by simp)).mono ?_
  rintro e w' ⟨rfl, rfl⟩
  rw [HE.out]
  try dsimp only
  go_wp2_with fail
  go_ret3
  exact MulRes.none _ _ _ ((Below.refl _ _).alloc (Nat.le_refl _) _)
theorem gMul_few (t : Int) (va vb vd : Value) (xs ys ds : List Int) (w : World) (h1 : IsNums w va xs) (h2 : IsNums w vb ys) (h3 : IsNums w vd ds) (ht : 0 ≤ t ∧ t ≤ 4) (hw : wireB [xs.length, ys.length] = true) (hn : (xs.length : Int) < 2 * t + 1) :
    Calls Try.prog 45 #[.int .i64 t, va, vb, vd] w fun e w' => MulRes w e w' [] [] 4 := by
  obtain ⟨A1, c1, rfl, hc1, hm1, hl1, hu1, hr1⟩ := h1
  obtain ⟨A2, c2, rfl, hc2, hm2, hl2, hu2, hr2⟩ := h2
  obtain ⟨A3, c3, rfl, hc3, hm3, hl3, hu3, hr3⟩ := h3
  clear hu1 hr1 hm1 hu2 hr2 hm2 hu3 hr3 hm3
  obtain ⟨ht1, ht2⟩ := ht
  have hd1 : decide (t < 0) = false := by simpa using ht1
  have hd2 : decide (t > 4) = false := by simpa using ht2
  have HE := Lib.hid (show wireE [xs.length, ys.length] = 0 by unfold wireE; rw [hw]; rfl)
  clear hw
  go_enter Try.func45, Try.ntmps45
  go_wp2_with fail
  refine (gForm_any _ 0 _ _ _ _ (lens2' hl1 hl2) (by simp)).mono ?_
  rintro e w' ⟨rfl, rfl⟩
  rw [HE.out]
  try dsimp only
  go_wp2_with fail
  go_ret3
  exact MulRes.none _ _ _ ((Below.refl _ _).alloc (Nat.le_refl _) _)
theorem gMul_draws (t : Int) (va vb vd : Value) (xs ys ds : List Int) (w : World) (h1 : IsNums w va xs) (h2 : IsNums w vb ys) (h3 : IsNums w vd ds) (ht : 0 ≤ t ∧ t ≤ 4) (hw : wireB [xs.length, ys.length] = true) (hx9 : xs.length ≤ 9) (hn : ¬ ((xs.length : Int) < 2 * t + 1)) (hd : (ds.length : Int) ≠ xs.length * t) :
    Calls Try.prog 45 #[.int .i64 t, va, vb, vd] w fun e w' => MulRes w e w' [] [] 1 := by
  obtain ⟨A1, c1, rfl, hc1, hm1, hl1, hu1, hr1⟩ := h1
  obtain ⟨A2, c2, rfl, hc2, hm2, hl2, hu2, hr2⟩ := h2
  obtain ⟨A3, c3, rfl, hc3, hm3, hl3, hu3, hr3⟩ := h3
  clear hu1 hr1 hm1 hu2 hr2 hm2 hu3 hr3 hm3
  obtain ⟨ht1, ht2⟩ := ht
  have hd1 : decide (t < 0) = false := by simpa using ht1
  have hd2 : decide (t > 4) = false := by simpa using ht2
  have HE := Lib.hid (show wireE [xs.length, ys.length] = 0 by unfold wireE; rw [hw]; rfl)
  have hd3 : decide ((xs.length : Int) < 2 * t + 1) = false := by simpa using hn
  obtain ⟨T, rfl⟩ := Int.eq_ofNat_of_zero_le ht1
  have hT : T ≤ 4 := by omega
  have hnT : xs.length * T ≤ 36 := Nat.mul_le_mul hx9 hT
  have hnT0 : 0 ≤ (xs.length : Int) * (T : Int) ∧ (xs.length : Int) * (T : Int) ≤ 36 := by rw [show (xs.length : Int) * (T : Int) = ((xs.length * T : Nat) : Int) by simp]; omega
  have hdb : ((ds.length : Int) != (xs.length : Int) * (T : Int)) = true := by rw [bne_iff_ne]; exact hd
  clear hw hd hn
  go_enter Try.func45, Try.ntmps45
  go_wp2_with fail
  refine (gForm_any _ 0 _ _ _ _ (lens2' hl1 hl2) (by simp)).mono ?_
  rintro e w' ⟨rfl, rfl⟩
  rw [HE.out]
  try dsimp only
  go_wp2_with fail
  go_ret3
  exact MulRes.none _ _ _ ((Below.refl _ _).alloc (Nat.le_refl _) _)
set_option maxRecDepth 100000 in
set_option maxHeartbeats 2000000 in
theorem gateMuls_arg (t : Int) (va vb vd : Value) (xs ys ds : List Int) (w : World) (h1 : IsNums w va xs) (h2 : IsNums w vb ys) (h3 : IsNums w vd ds) (ht : ¬ (0 ≤ t ∧ t ≤ 4)) :
    Calls Try.prog 7 #[.int .i64 t, va, vb, vd] w fun e w' => e = .returned (.bool true) ∧ Below w.heap.size w w' := by
  have KX := Lib.hid h1
  have KY := Lib.hid h2
  have KD := Lib.hid h3
  have BEL := Lib.hid (Below.refl w.heap.size w)
  obtain ⟨A1, c1, rfl, hc1, hm1, hl1, hu1, hr1⟩ := h1
  obtain ⟨A2, c2, rfl, hc2, hm2, hl2, hu2, hr2⟩ := h2
  obtain ⟨A3, c3, rfl, hc3, hm3, hl3, hu3, hr3⟩ := h3
  clear hu1 hr1 hm1 hu2 hr2 hm2 hu3 hr3 hm3
  have hin : (decide (0 ≤ t) && decide (t ≤ 4)) = false := by rw [Bool.and_eq_false_iff]; simp; omega
  have HT := Lib.hid ht
  clear ht
  go_enter Try.func7, Try.ntmps7
  go_wp2_with fail
  refine (rIn_any _ _ _ _).mono ?_
  rintro e w' ⟨rfl, rfl⟩
  try dsimp only
  go_wp2_with fail
  refine (gMul_arg t _ _ _ xs ys ds _ KX.out KY.out KD.out HT.out).mono ?_
  rintro e W1 ⟨vl2, vg2, vs2, rfl, ho, hg, _, hb⟩
  try dsimp only
  replace KX := Lib.hid (KX.out.below hb)
  replace KY := Lib.hid (KY.out.below hb)
  replace KD := Lib.hid (KD.out.below hb)
  replace BEL := Lib.hid (below_trans BEL.out hb BEL.out.size)
  have KL2 := Lib.hid ho.is
  have KG2 := Lib.hid hg.is
  clear ho hg hb
  have KL := Lib.hid (IsNums.nil W1)
  have KG := Lib.hid (IsNumss.nil W1)
  go_wp2_with fail
  refine (equal_any _ _ _ _ _ KL2.out KL.out).mono ?_
  rintro e w' ⟨rfl, nd2, rfl⟩
  rw [decide_eq_true rfl]
  try dsimp only
  have hb := below_drewN (Below.refl W1.heap.size W1) nd2
  replace KX := Lib.hid (KX.out.below hb)
  replace KY := Lib.hid (KY.out.below hb)
  replace KD := Lib.hid (KD.out.below hb)
  replace KL2 := Lib.hid (KL2.out.below hb)
  replace KG2 := Lib.hid (KG2.out.below hb)
  replace KL := Lib.hid (KL.out.below hb)
  replace KG := Lib.hid (KG.out.below hb)
  replace BEL := Lib.hid (below_trans BEL.out hb BEL.out.size)
  clear hb
  generalize hW : W1.drewN nd2 = W2 at *
  clear hW
  go_wp2_with fail
  refine (same_any _ _ _ _ KG2.out KG.out).mono ?_
  rintro e w' ⟨rfl, nd3, rfl⟩
  try dsimp only
  have hb := below_drewN (Below.refl W2.heap.size W2) nd3
  replace KX := Lib.hid (KX.out.below hb)
  replace KY := Lib.hid (KY.out.below hb)
  replace KD := Lib.hid (KD.out.below hb)
  replace KL2 := Lib.hid (KL2.out.below hb)
  replace KG2 := Lib.hid (KG2.out.below hb)
  replace KL := Lib.hid (KL.out.below hb)
  replace KG := Lib.hid (KG.out.below hb)
  replace BEL := Lib.hid (below_trans BEL.out hb BEL.out.size)
  clear hb
  generalize hW : W2.drewN nd3 = W3 at *
  clear hW
  go_wp2_with fail
  go_ret
  exact ⟨rfl, BEL.out⟩
set_option maxRecDepth 100000 in
set_option maxHeartbeats 2000000 in
theorem gateMuls_form (t : Int) (va vb vd : Value) (xs ys ds : List Int) (w : World) (h1 : IsNums w va xs) (h2 : IsNums w vb ys) (h3 : IsNums w vd ds) (ht : 0 ≤ t ∧ t ≤ 4) (hw : wireB [xs.length, ys.length] = false) :
    Calls Try.prog 7 #[.int .i64 t, va, vb, vd] w fun e w' => e = .returned (.bool true) ∧ Below w.heap.size w w' := by
  have KX := Lib.hid h1
  have KY := Lib.hid h2
  have KD := Lib.hid h3
  have BEL := Lib.hid (Below.refl w.heap.size w)
  obtain ⟨A1, c1, rfl, hc1, hm1, hl1, hu1, hr1⟩ := h1
  obtain ⟨A2, c2, rfl, hc2, hm2, hl2, hu2, hr2⟩ := h2
  obtain ⟨A3, c3, rfl, hc3, hm3, hl3, hu3, hr3⟩ := h3
  clear hu1 hr1 hm1 hu2 hr2 hm2 hu3 hr3 hm3
  have hin : (decide (0 ≤ t) && decide (t ≤ 4)) = true := by simp [ht.1, ht.2]
  have HT := Lib.hid ht
  have HW := Lib.hid hw
  obtain ⟨ht1, ht2⟩ := ht
  clear hw
  go_enter Try.func7, Try.ntmps7
  go_wp2_with fail
  refine (rIn_any _ _ _ _).mono ?_
  rintro e w' ⟨rfl, rfl⟩
  try dsimp only
  go_wp2_with fail
  refine (rWire_any _ 0 _ _ _ _ (lens2' hl1 hl2) (by simp)).mono ?_
  rintro e w' ⟨rfl, nd, rfl⟩
  rw [HW.out]
  try dsimp only
  have hb := below_drewN ((Below.refl w.heap.size w).alloc (Nat.le_refl _) (.cells #[.slice A1 xs.length c1, .slice A2 ys.length c2] 26)) nd
  replace KX := Lib.hid (KX.out.below hb)
  replace KY := Lib.hid (KY.out.below hb)
  replace KD := Lib.hid (KD.out.below hb)
  replace BEL := Lib.hid (below_trans BEL.out hb BEL.out.size)
  clear hb
  generalize hW : (w.alloc (.cells #[.slice A1 xs.length c1, .slice A2 ys.length c2] 26)).drewN nd = W1 at *
  clear hW
  go_wp2_with fail
  refine (gMul_form t _ _ _ xs ys ds _ KX.out KY.out KD.out HT.out HW.out).mono ?_
  rintro e W2 ⟨vl2, vg2, vs2, rfl, ho, hg, _, hb⟩
  try dsimp only
  replace KX := Lib.hid (KX.out.below hb)
  replace KY := Lib.hid (KY.out.below hb)
  replace KD := Lib.hid (KD.out.below hb)
  replace BEL := Lib.hid (below_trans BEL.out hb BEL.out.size)
  have KL2 := Lib.hid ho.is
  have KG2 := Lib.hid hg.is
  clear ho hg hb
  have KL := Lib.hid (IsNums.nil W2)
  have KG := Lib.hid (IsNumss.nil W2)
  go_wp2_with fail
  refine (equal_any _ _ _ _ _ KL2.out KL.out).mono ?_
  rintro e w' ⟨rfl, nd2, rfl⟩
  rw [decide_eq_true rfl]
  try dsimp only
  have hb := below_drewN (Below.refl W2.heap.size W2) nd2
  replace KX := Lib.hid (KX.out.below hb)
  replace KY := Lib.hid (KY.out.below hb)
  replace KD := Lib.hid (KD.out.below hb)
  replace KL2 := Lib.hid (KL2.out.below hb)
  replace KG2 := Lib.hid (KG2.out.below hb)
  replace KL := Lib.hid (KL.out.below hb)
  replace KG := Lib.hid (KG.out.below hb)
  replace BEL := Lib.hid (below_trans BEL.out hb BEL.out.size)
  clear hb
  generalize hW : W2.drewN nd2 = W3 at *
  clear hW
  go_wp2_with fail
  refine (same_any _ _ _ _ KG2.out KG.out).mono ?_
  rintro e w' ⟨rfl, nd3, rfl⟩
  try dsimp only
  have hb := below_drewN (Below.refl W3.heap.size W3) nd3
  replace KX := Lib.hid (KX.out.below hb)
  replace KY := Lib.hid (KY.out.below hb)
  replace KD := Lib.hid (KD.out.below hb)
  replace KL2 := Lib.hid (KL2.out.below hb)
  replace KG2 := Lib.hid (KG2.out.below hb)
  replace KL := Lib.hid (KL.out.below hb)
  replace KG := Lib.hid (KG.out.below hb)
  replace BEL := Lib.hid (below_trans BEL.out hb BEL.out.size)
  clear hb
  generalize hW : W3.drewN nd3 = W4 at *
  clear hW
  go_wp2_with fail
  go_ret
  exact ⟨rfl, BEL.out⟩
set_option maxRecDepth 100000 in
set_option maxHeartbeats 2000000 in
theorem gateMuls_few (t : Int) (va vb vd : Value) (xs ys ds : List Int) (w : World) (h1 : IsNums w va xs) (h2 : IsNums w vb ys) (h3 : IsNums w vd ds) (ht : 0 ≤ t ∧ t ≤ 4) (hw : wireB [xs.length, ys.length] = true) (hn : (xs.length : Int) < 2 * t + 1) :
    Calls Try.prog 7 #[.int .i64 t, va, vb, vd] w fun e w' => e = .returned (.bool true) ∧ Below w.heap.size w w' := by
  have KX := Lib.hid h1
  have KY := Lib.hid h2
  have KD := Lib.hid h3
  have BEL := Lib.hid (Below.refl w.heap.size w)
  obtain ⟨A1, c1, rfl, hc1, hm1, hl1, hu1, hr1⟩ := h1
  obtain ⟨A2, c2, rfl, hc2, hm2, hl2, hu2, hr2⟩ := h2
  obtain ⟨A3, c3, rfl, hc3, hm3, hl3, hu3, hr3⟩ := h3
  clear hu1 hr1 hm1 hu2 hr2 hm2 hu3 hr3 hm3
  have hin : (decide (0 ≤ t) && decide (t ≤ 4)) = true := by simp [ht.1, ht.2]
  have HT := Lib.hid ht
  have HW := Lib.hid hw
  obtain ⟨ht1, ht2⟩ := ht
  clear hw
  go_enter Try.func7, Try.ntmps7
  go_wp2_with fail
  refine (rIn_any _ _ _ _).mono ?_
  rintro e w' ⟨rfl, rfl⟩
  try dsimp only
  go_wp2_with fail
  refine (rWire_any _ 0 _ _ _ _ (lens2' hl1 hl2) (by simp)).mono ?_
  rintro e w' ⟨rfl, nd, rfl⟩
  rw [HW.out]
  try dsimp only
  have hb := below_drewN ((Below.refl w.heap.size w).alloc (Nat.le_refl _) (.cells #[.slice A1 xs.length c1, .slice A2 ys.length c2] 26)) nd
  replace KX := Lib.hid (KX.out.below hb)
  replace KY := Lib.hid (KY.out.below hb)
  replace KD := Lib.hid (KD.out.below hb)
  replace BEL := Lib.hid (below_trans BEL.out hb BEL.out.size)
  clear hb
  generalize hW : (w.alloc (.cells #[.slice A1 xs.length c1, .slice A2 ys.length c2] 26)).drewN nd = W1 at *
  clear hW
  go_wp2_with fail
  refine (gMul_few t _ _ _ xs ys ds _ KX.out KY.out KD.out HT.out HW.out hn).mono ?_
  rintro e W2 ⟨vl2, vg2, vs2, rfl, ho, hg, _, hb⟩
  try dsimp only
  replace KX := Lib.hid (KX.out.below hb)
  replace KY := Lib.hid (KY.out.below hb)
  replace KD := Lib.hid (KD.out.below hb)
  replace BEL := Lib.hid (below_trans BEL.out hb BEL.out.size)
  have KL2 := Lib.hid ho.is
  have KG2 := Lib.hid hg.is
  clear ho hg hb
  have KL := Lib.hid (IsNums.nil W2)
  have KG := Lib.hid (IsNumss.nil W2)
  go_wp2_with fail
  refine (equal_any _ _ _ _ _ KL2.out KL.out).mono ?_
  rintro e w' ⟨rfl, nd2, rfl⟩
  rw [decide_eq_true rfl]
  try dsimp only
  have hb := below_drewN (Below.refl W2.heap.size W2) nd2
  replace KX := Lib.hid (KX.out.below hb)
  replace KY := Lib.hid (KY.out.below hb)
  replace KD := Lib.hid (KD.out.below hb)
  replace KL2 := Lib.hid (KL2.out.below hb)
  replace KG2 := Lib.hid (KG2.out.below hb)
  replace KL := Lib.hid (KL.out.below hb)
  replace KG := Lib.hid (KG.out.below hb)
  replace BEL := Lib.hid (below_trans BEL.out hb BEL.out.size)
  clear hb
  generalize hW : W2.drewN nd2 = W3 at *
  clear hW
  go_wp2_with fail
  refine (same_any _ _ _ _ KG2.out KG.out).mono ?_
  rintro e w' ⟨rfl, nd3, rfl⟩
  try dsimp only
  have hb := below_drewN (Below.refl W3.heap.size W3) nd3
  replace KX := Lib.hid (KX.out.below hb)
  replace KY := Lib.hid (KY.out.below hb)
  replace KD := Lib.hid (KD.out.below hb)
  replace KL2 := Lib.hid (KL2.out.below hb)
  replace KG2 := Lib.hid (KG2.out.below hb)
  replace KL := Lib.hid (KL.out.below hb)
  replace KG := Lib.hid (KG.out.below hb)
  replace BEL := Lib.hid (below_trans BEL.out hb BEL.out.size)
  clear hb
  generalize hW : W3.drewN nd3 = W4 at *
  clear hW
  go_wp2_with fail
  go_ret
  exact ⟨rfl, BEL.out⟩
set_option maxRecDepth 100000 in
set_option maxHeartbeats 2000000 in
theorem gateMuls_draws (t : Int) (va vb vd : Value) (xs ys ds : List Int) (w : World) (h1 : IsNums w va xs) (h2 : IsNums w vb ys) (h3 : IsNums w vd ds) (ht : 0 ≤ t ∧ t ≤ 4) (hw : wireB [xs.length, ys.length] = true) (hx9 : xs.length ≤ 9) (hn : ¬ ((xs.length : Int) < 2 * t + 1)) (hd : (ds.length : Int) ≠ xs.length * t) :
    Calls Try.prog 7 #[.int .i64 t, va, vb, vd] w fun e w' => e = .returned (.bool true) ∧ Below w.heap.size w w' := by
  have KX := Lib.hid h1
  have KY := Lib.hid h2
  have KD := Lib.hid h3
  have BEL := Lib.hid (Below.refl w.heap.size w)
  obtain ⟨A1, c1, rfl, hc1, hm1, hl1, hu1, hr1⟩ := h1
  obtain ⟨A2, c2, rfl, hc2, hm2, hl2, hu2, hr2⟩ := h2
  obtain ⟨A3, c3, rfl, hc3, hm3, hl3, hu3, hr3⟩ := h3
  clear hu1 hr1 hm1 hu2 hr2 hm2 hu3 hr3 hm3
  have hin : (decide (0 ≤ t) && decide (t ≤ 4)) = true := by simp [ht.1, ht.2]
  have HT := Lib.hid ht
  have HW := Lib.hid hw
  obtain ⟨ht1, ht2⟩ := ht
  clear hw
  have hd3 : decide ((xs.length : Int) < 2 * t + 1) = false := by simpa using hn
  have HN := Lib.hid hn
  obtain ⟨T, rfl⟩ := Int.eq_ofNat_of_zero_le ht1
  have hT : T ≤ 4 := by omega
  have hnT : xs.length * T ≤ 36 := Nat.mul_le_mul hx9 hT
  have hnT0 : 0 ≤ (xs.length : Int) * (T : Int) ∧ (xs.length : Int) * (T : Int) ≤ 36 := by rw [show (xs.length : Int) * (T : Int) = ((xs.length * T : Nat) : Int) by simp]; omega
  have hdb : ((ds.length : Int) != (xs.length : Int) * (T : Int)) = true := by rw [bne_iff_ne]; exact hd
  have HD := Lib.hid hd
  clear hd hn
  go_enter Try.func7, Try.ntmps7
  go_wp2_with fail
  refine (rIn_any _ _ _ _).mono ?_
  rintro e w' ⟨rfl, rfl⟩
  try dsimp only
  go_wp2_with fail
  refine (rWire_any _ 0 _ _ _ _ (lens2' hl1 hl2) (by simp)).mono ?_
  rintro e w' ⟨rfl, nd, rfl⟩
  rw [HW.out]
  try dsimp only
  have hb := below_drewN ((Below.refl w.heap.size w).alloc (Nat.le_refl _) (.cells #[.slice A1 xs.length c1, .slice A2 ys.length c2] 26)) nd
  replace KX := Lib.hid (KX.out.below hb)
  replace KY := Lib.hid (KY.out.below hb)
  replace KD := Lib.hid (KD.out.below hb)
  replace BEL := Lib.hid (below_trans BEL.out hb BEL.out.size)
  clear hb
  generalize hW : (w.alloc (.cells #[.slice A1 xs.length c1, .slice A2 ys.length c2] 26)).drewN nd = W1 at *
  clear hW
  go_wp2_with fail
  refine (gMul_draws T _ _ _ xs ys ds _ KX.out KY.out KD.out HT.out HW.out hx9 (by have := HN.out; omega) HD.out).mono ?_
  rintro e W2 ⟨vl2, vg2, vs2, rfl, ho, hg, _, hb⟩
  try dsimp only
  replace KX := Lib.hid (KX.out.below hb)
  replace KY := Lib.hid (KY.out.below hb)
  replace KD := Lib.hid (KD.out.below hb)
  replace BEL := Lib.hid (below_trans BEL.out hb BEL.out.size)
  have KL2 := Lib.hid ho.is
  have KG2 := Lib.hid hg.is
  clear ho hg hb
  have KL := Lib.hid (IsNums.nil W2)
  have KG := Lib.hid (IsNumss.nil W2)
  go_wp2_with fail
  refine (equal_any _ _ _ _ _ KL2.out KL.out).mono ?_
  rintro e w' ⟨rfl, nd2, rfl⟩
  rw [decide_eq_true rfl]
  try dsimp only
  have hb := below_drewN (Below.refl W2.heap.size W2) nd2
  replace KX := Lib.hid (KX.out.below hb)
  replace KY := Lib.hid (KY.out.below hb)
  replace KD := Lib.hid (KD.out.below hb)
  replace KL2 := Lib.hid (KL2.out.below hb)
  replace KG2 := Lib.hid (KG2.out.below hb)
  replace KL := Lib.hid (KL.out.below hb)
  replace KG := Lib.hid (KG.out.below hb)
  replace BEL := Lib.hid (below_trans BEL.out hb BEL.out.size)
  clear hb
  generalize hW : W2.drewN nd2 = W3 at *
  clear hW
  go_wp2_with fail
  refine (same_any _ _ _ _ KG2.out KG.out).mono ?_
  rintro e w' ⟨rfl, nd3, rfl⟩
  try dsimp only
  have hb := below_drewN (Below.refl W3.heap.size W3) nd3
  replace KX := Lib.hid (KX.out.below hb)
  replace KY := Lib.hid (KY.out.below hb)
  replace KD := Lib.hid (KD.out.below hb)
  replace KL2 := Lib.hid (KL2.out.below hb)
  replace KG2 := Lib.hid (KG2.out.below hb)
  replace KL := Lib.hid (KL.out.below hb)
  replace KG := Lib.hid (KG.out.below hb)
  replace BEL := Lib.hid (below_trans BEL.out hb BEL.out.size)
  clear hb
  generalize hW : W3.drewN nd3 = W4 at *
  clear hW
  go_wp2_with fail
  go_ret
  exact ⟨rfl, BEL.out⟩
set_option maxRecDepth 100000 in
set_option maxHeartbeats 2000000 in
theorem gateMuls_ok (t : Int) (va vb vd : Value) (xs ys ds : List Int) (w : World) (h1 : IsNums w va xs) (h2 : IsNums w vb ys) (h3 : IsNums w vd ds) (ht : 0 ≤ t ∧ t ≤ 4) (hw : wireB [xs.length, ys.length] = true) (hx1 : 1 ≤ xs.length) (hx9 : xs.length ≤ 9) (hy : ys.length = xs.length) (hn : ¬ ((xs.length : Int) < 2 * t + 1)) (hd : (ds.length : Int) = xs.length * t) :
    Calls Try.prog 7 #[.int .i64 t, va, vb, vd] w fun e w' => e = .returned (.bool true) ∧ Below w.heap.size w w' := by
  have KX := Lib.hid h1
  have KY := Lib.hid h2
  have KD := Lib.hid h3
  have BEL := Lib.hid (Below.refl w.heap.size w)
  obtain ⟨A1, c1, rfl, hc1, hm1, hl1, hu1, hr1⟩ := h1
  obtain ⟨A2, c2, rfl, hc2, hm2, hl2, hu2, hr2⟩ := h2
  obtain ⟨A3, c3, rfl, hc3, hm3, hl3, hu3, hr3⟩ := h3
  clear hu1 hr1 hm1 hu2 hr2 hm2 hu3 hr3 hm3
  have hin : (decide (0 ≤ t) && decide (t ≤ 4)) = true := by simp [ht.1, ht.2]
  have HT := Lib.hid ht
  have HW := Lib.hid hw
  obtain ⟨ht1, ht2⟩ := ht
  clear hw
  have hd3 : decide ((xs.length : Int) < 2 * t + 1) = false := by simpa using hn
  have HN := Lib.hid hn
  obtain ⟨T, rfl⟩ := Int.eq_ofNat_of_zero_le ht1
  have hT : T ≤ 4 := by omega
  have hnT : xs.length * T ≤ 36 := Nat.mul_le_mul hx9 hT
  have hnT0 : 0 ≤ (xs.length : Int) * (T : Int) ∧ (xs.length : Int) * (T : Int) ≤ 36 := by rw [show (xs.length : Int) * (T : Int) = ((xs.length * T : Nat) : Int) by simp]; omega
  have hdb : ((ds.length : Int) != (xs.length : Int) * (T : Int)) = false := by rw [bne_eq_false_iff_eq]; exact hd
  have HYL := Lib.hid hy
  have HDL := Lib.hid (show ds.length = xs.length * T by have : (ds.length : Int) = ((xs.length * T : Nat) : Int) := by rw [hd]; simp
                                                         omega)
  clear hd hn hy
  go_enter Try.func7, Try.ntmps7
  go_wp2_with fail
  refine (rIn_any _ _ _ _).mono ?_
  rintro e w' ⟨rfl, rfl⟩
  try dsimp only
  go_wp2_with fail
  refine (rWire_any _ 0 _ _ _ _ (lens2' hl1 hl2) (by simp)).mono ?_
  rintro e w' ⟨rfl, nd, rfl⟩
  rw [HW.out]
  try dsimp only
  have hb := below_drewN ((Below.refl w.heap.size w).alloc (Nat.le_refl _) (.cells #[.slice A1 xs.length c1, .slice A2 ys.length c2] 26)) nd
  replace KX := Lib.hid (KX.out.below hb)
  replace KY := Lib.hid (KY.out.below hb)
  replace KD := Lib.hid (KD.out.below hb)
  replace BEL := Lib.hid (below_trans BEL.out hb BEL.out.size)
  clear hb
  generalize hW : (w.alloc (.cells #[.slice A1 xs.length c1, .slice A2 ys.length c2] 26)).drewN nd = W1 at *
  clear hW
  go_wp2_with fail
  refine (rTimes_ok xs.length T _ _ _ xs ys ds _ KX.out KY.out KD.out rfl HYL.out HDL.out hT hx1 hx9).mono ?_
  rintro e W2 ⟨vl, vg, vs, rfl, ho, hg, hb⟩
  try dsimp only
  replace KX := Lib.hid (KX.out.below hb)
  replace KY := Lib.hid (KY.out.below hb)
  replace KD := Lib.hid (KD.out.below hb)
  replace BEL := Lib.hid (below_trans BEL.out hb BEL.out.size)
  have KL := Lib.hid ho.is
  have KG := Lib.hid hg.is
  clear ho hg hb
  go_wp2_with fail
  refine (gMul_ok xs.length T _ _ _ xs ys ds _ KX.out KY.out KD.out rfl HYL.out HDL.out hT (by have := HN.out; omega) hx9).mono ?_
  rintro e W3 ⟨vl2, vg2, vs2, rfl, ho, hg, _, hb⟩
  try dsimp only
  replace KX := Lib.hid (KX.out.below hb)
  replace KY := Lib.hid (KY.out.below hb)
  replace KD := Lib.hid (KD.out.below hb)
  replace KL := Lib.hid (KL.out.below hb)
  replace KG := Lib.hid (KG.out.below hb)
  replace BEL := Lib.hid (below_trans BEL.out hb BEL.out.size)
  have KL2 := Lib.hid ho.is
  have KG2 := Lib.hid hg.is
  clear ho hg hb
  go_wp2_with fail
  refine (equal_any _ _ _ _ _ KL2.out KL.out).mono ?_
  rintro e w' ⟨rfl, nd2, rfl⟩
  rw [decide_eq_true rfl]
  try dsimp only
  have hb := below_drewN (Below.refl W3.heap.size W3) nd2
  replace KX := Lib.hid (KX.out.below hb)
  replace KY := Lib.hid (KY.out.below hb)
  replace KD := Lib.hid (KD.out.below hb)
  replace KL := Lib.hid (KL.out.below hb)
  replace KG := Lib.hid (KG.out.below hb)
  replace KL2 := Lib.hid (KL2.out.below hb)
  replace KG2 := Lib.hid (KG2.out.below hb)
  replace BEL := Lib.hid (below_trans BEL.out hb BEL.out.size)
  clear hb
  generalize hW : W3.drewN nd2 = W4 at *
  clear hW
  go_wp2_with fail
  refine (same_any _ _ _ _ KG2.out KG.out).mono ?_
  rintro e w' ⟨rfl, nd3, rfl⟩
  try dsimp only
  have hb := below_drewN (Below.refl W4.heap.size W4) nd3
  replace KX := Lib.hid (KX.out.below hb)
  replace KY := Lib.hid (KY.out.below hb)
  replace KD := Lib.hid (KD.out.below hb)
  replace KL := Lib.hid (KL.out.below hb)
  replace KG := Lib.hid (KG.out.below hb)
  replace KL2 := Lib.hid (KL2.out.below hb)
  replace KG2 := Lib.hid (KG2.out.below hb)
  replace BEL := Lib.hid (below_trans BEL.out hb BEL.out.size)
  clear hb
  generalize hW : W4.drewN nd3 = W5 at *
  clear hW
  go_wp2_with fail
  go_ret
  exact ⟨rfl, BEL.out⟩
theorem gateMuls_any (t : Int) (va vb vd : Value) (xs ys ds : List Int) (w : World) (h1 : IsNums w va xs) (h2 : IsNums w vb ys) (h3 : IsNums w vd ds) :
    Calls Try.prog 7 #[.int .i64 t, va, vb, vd] w fun e w' => e = .returned (.bool true) ∧ Below w.heap.size w w' := by
  by_cases ht : 0 ≤ t ∧ t ≤ 4
  · cases hw : wireB [xs.length, ys.length] with
    | false => exact gateMuls_form t va vb vd xs ys ds w h1 h2 h3 ht hw
    | true =>
      obtain ⟨hx1, hx9, hy⟩ : 1 ≤ xs.length ∧ xs.length ≤ 9 ∧ ys.length = xs.length := by
        have h := hw
        unfold wireB at h
        simp at h
        omega
      by_cases hn : (xs.length : Int) < 2 * t + 1
      · exact gateMuls_few t va vb vd xs ys ds w h1 h2 h3 ht hw hn
      · by_cases hd : (ds.length : Int) = xs.length * t
        · exact gateMuls_ok t va vb vd xs ys ds w h1 h2 h3 ht hw hx1 hx9 hy hn hd
        · exact gateMuls_draws t va vb vd xs ys ds w h1 h2 h3 ht hw hx9 hn hd
  · exact gateMuls_arg t va vb vd xs ys ds w h1 h2 h3 ht
end Go.Proofs.Ytliegjpnjfmklaa
