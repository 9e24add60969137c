/- The law GateSays, walked. -/
import Derived.Test.YtnojmphggdndmaaGateW
namespace Go.Proofs.Ytnojmphggdndmaa
open Go.RowKit Croft
theorem mixed_sum (xs ys : List Int) (h : wire2E xs ys = 0) : eachL (· + ·) xs ys = mixedL xs ys 1 1 0 := by
  unfold eachL mixedL zipS
  rw [if_pos h]
  congr 1
  rw [List.zipWith_map]
  congr 1
  funext x y
  rw [toF_one, toF_zero]; grind
theorem toF_Pm : toF 2147483646 = -1 := by
  have h : toF 2147483646 + 1 = 0 := by rw [← toF_one, ← toF_add]; exact toF_P
  grind
theorem mixed_less (xs ys : List Int) (h : wire2E xs ys = 0) : eachL (· - ·) xs ys = mixedL xs ys 1 2147483646 0 := by
  unfold eachL mixedL zipS
  rw [if_pos h]
  congr 1
  rw [List.zipWith_map]
  congr 1
  funext x y
  rw [toF_one, toF_zero, toF_Pm]; grind
theorem zipWith_self {α β : Type} (f : α → α → β) (xs : List α) : List.zipWith f xs xs = xs.map fun x => f x x := by
  induction xs with
  | nil => rfl
  | cons x xs ih => simp
theorem mixed_times (xs : List Int) (n : Int) (h : wireE [xs.length] = 0) : oneL (· * ·) xs n = mixedL xs xs n 0 0 := by
  unfold oneL mixedL
  rw [if_pos h, zipWith_self, List.map_map]
  apply List.map_congr_left
  intro x _
  show ofF (toF x * toF n) = ofF (toF n * toF x + toF 0 * toF x + toF 0)
  rw [toF_zero]; congr 1; grind
theorem mixed_plus (xs : List Int) (n : Int) (h : wireE [xs.length] = 0) : oneL (· + ·) xs n = mixedL xs xs 1 0 n := by
  unfold oneL mixedL
  rw [if_pos h, zipWith_self, List.map_map]
  apply List.map_congr_left
  intro x _
  show ofF (toF x + toF n) = ofF (toF 1 * toF x + toF 0 * toF x + toF n)
  rw [toF_zero, toF_one]; congr 1; grind
theorem eachL_bad {op : F → F → F} {xs ys : List Int} (h : wire2E xs ys = 5) : eachL op xs ys = [] := by unfold eachL; rw [if_neg (by rw [h]; omega)]
theorem oneL_bad {op : F → F → F} {xs : List Int} {n : Int} (h : wireE [xs.length] = 5) : oneL op xs n = [] := by unfold oneL; rw [if_neg (by rw [h]; omega)]
theorem wireE_true {l : List Nat} (h : wireB l = true) : wireE l = 0 := by unfold wireE; rw [if_pos h]
theorem wireE_false {l : List Nat} (h : wireB l = false) : wireE l = 5 := by unfold wireE; rw [h]; rfl
theorem lens1 {w : World} {A : Option Addr} {n c : Nat} (h : n ≤ 17592186043904) : LensAt (w.alloc (.cells #[.slice A n c] 31)) w.heap.size 0 [n] := by
  refine ⟨by simp, fun j m hj => ?_⟩
  match j, hj with
  | 0, hj => simp at hj; subst hj; exact ⟨A, c, by simp, h⟩
theorem lens2 {w : World} {A B : Option Addr} {n c m d : Nat} (h : n ≤ 17592186043904) (h2 : m ≤ 17592186043904) : LensAt (w.alloc (.cells #[.slice A n c, .slice B m d] 31)) w.heap.size 0 [n, m] := by
  refine ⟨by simp, fun j k hj => ?_⟩
  match j, hj with
  | 0, hj => simp at hj; subst hj; exact ⟨A, c, by simp, h⟩
  | 1, hj => simp at hj; subst hj; exact ⟨B, d, by simp, h2⟩

set_option maxRecDepth 100000 in
set_option maxHeartbeats 1000000 in
theorem gateSays_tt (va vb : Value) (xs ys : List Int) (n : Int) (w : World) (h1 : IsNums w va xs) (h2 : IsNums w vb ys) (hn : U64 n) (hw1 : wireB [xs.length] = true) (hw2 : wireB [xs.length, ys.length] = true) :
    Calls Try.prog 6 #[va, vb, .int .u64 n] w fun e w' => e = .returned (.bool true) ∧ Below w.heap.size w w' := by
  have KA := Lib.hid h1
  have KB := Lib.hid h2
  have BEL := Lib.hid (Below.refl w.heap.size w)
  obtain ⟨A1, c1, rfl, hc1, hm1, hl1, hu1, hr1⟩ := h1
  obtain ⟨A2, c2, rfl, hc2, hm2, hl2, hu2, hr2⟩ := h2
  clear hu1 hu2 hr1 hr2 hm1 hm2
  have E1 := Lib.hid (wireE_true hw1)
  have E2 := Lib.hid (show wire2E xs ys = 0 from wireE_true hw2)
  have S3 := Lib.hid (mixed_times xs n E1.out)
  have S4 := Lib.hid (mixed_plus xs n E1.out)
  have HLE := Lib.hid (show xs.length ≤ ys.length by unfold wireB at hw2; simp at hw2; omega)
  have S1 := Lib.hid (mixed_sum xs ys E2.out)
  have S2 := Lib.hid (mixed_less xs ys E2.out)
  have H1 := Lib.hid hw1
  have H2 := Lib.hid hw2
  clear hw1 hw2
  go_enter Try.func6, Try.ntmps6
  go_wp2_with fail
  refine (rWire_any _ 0 _ _ _ _ (lens1 hl1) (by simp)).mono ?_
  rintro e w' ⟨rfl, nd, rfl⟩
  rw [H1.out]
  have hb := below_drewN ((Below.refl w.heap.size w).alloc (Nat.le_refl _) (.cells #[Value.slice A1 xs.length c1] 31)) nd
  replace KA := Lib.hid (KA.out.below hb)
  replace KB := Lib.hid (KB.out.below hb)
  replace BEL := Lib.hid (below_trans BEL.out hb BEL.out.size)
  clear hb
  generalize hW : (w.alloc (.cells #[Value.slice A1 xs.length c1] 31)).drewN nd = W1 at *
  clear hW
  go_wp2_with fail
  refine (rMixed_any _ _ _ _ _ _ _ _ KA.out KA.out (Nat.le_refl _) hn u64_zero u64_zero).mono ?_
  rintro e W2 ⟨vK3, rfl, ho, hb⟩
  replace KA := Lib.hid (KA.out.below hb)
  replace KB := Lib.hid (KB.out.below hb)
  replace BEL := Lib.hid (below_trans BEL.out hb BEL.out.size)
  have K3 := Lib.hid (ho.is)
  clear ho hb
  go_wp2_with fail
  refine (rMixed_any _ _ _ _ _ _ _ _ KA.out KA.out (Nat.le_refl _) ⟨by omega, by omega⟩ u64_zero hn).mono ?_
  rintro e W3 ⟨vK4, rfl, ho, hb⟩
  replace KA := Lib.hid (KA.out.below hb)
  replace KB := Lib.hid (KB.out.below hb)
  replace K3 := Lib.hid (K3.out.below hb)
  replace BEL := Lib.hid (below_trans BEL.out hb BEL.out.size)
  have K4 := Lib.hid (ho.is)
  clear ho hb
  go_wp2_with fail
  refine (rWire_any _ 0 _ _ _ _ (lens2 hl1 hl2) (by simp)).mono ?_
  rintro e w' ⟨rfl, nd, rfl⟩
  rw [H2.out]
  have hb := below_drewN ((Below.refl W3.heap.size W3).alloc (Nat.le_refl _) (.cells #[Value.slice A1 xs.length c1, Value.slice A2 ys.length c2] 31)) nd
  replace KA := Lib.hid (KA.out.below hb)
  replace KB := Lib.hid (KB.out.below hb)
  replace K3 := Lib.hid (K3.out.below hb)
  replace K4 := Lib.hid (K4.out.below hb)
  replace BEL := Lib.hid (below_trans BEL.out hb BEL.out.size)
  clear hb
  generalize hW : (W3.alloc (.cells #[Value.slice A1 xs.length c1, Value.slice A2 ys.length c2] 31)).drewN nd = W4 at *
  clear hW
  go_wp2_with fail
  refine (rMixed_any _ _ _ _ _ _ _ _ KA.out KB.out HLE.out ⟨by omega, by omega⟩ ⟨by omega, by omega⟩ u64_zero).mono ?_
  rintro e W5 ⟨vK1, rfl, ho, hb⟩
  replace KA := Lib.hid (KA.out.below hb)
  replace KB := Lib.hid (KB.out.below hb)
  replace K3 := Lib.hid (K3.out.below hb)
  replace K4 := Lib.hid (K4.out.below hb)
  replace BEL := Lib.hid (below_trans BEL.out hb BEL.out.size)
  have K1 := Lib.hid (ho.is)
  clear ho hb
  go_wp2_with fail
  refine (rMixed_any _ _ _ _ _ _ _ _ KA.out KB.out HLE.out ⟨by omega, by omega⟩ ⟨by omega, by omega⟩ u64_zero).mono ?_
  rintro e W6 ⟨vK2, rfl, ho, hb⟩
  replace KA := Lib.hid (KA.out.below hb)
  replace KB := Lib.hid (KB.out.below hb)
  replace K3 := Lib.hid (K3.out.below hb)
  replace K4 := Lib.hid (K4.out.below hb)
  replace K1 := Lib.hid (K1.out.below hb)
  replace BEL := Lib.hid (below_trans BEL.out hb BEL.out.size)
  have K2 := Lib.hid (ho.is)
  clear ho hb
  go_wp2_with fail
  refine (gAdd_any _ _ _ _ _ KA.out KB.out).mono ?_
  rintro e W7 ⟨vG1, rfl, ho, hb⟩
  rw [S1.out] at ho
  rw [E2.out]
  replace KA := Lib.hid (KA.out.below hb)
  replace KB := Lib.hid (KB.out.below hb)
  replace K3 := Lib.hid (K3.out.below hb)
  replace K4 := Lib.hid (K4.out.below hb)
  replace K1 := Lib.hid (K1.out.below hb)
  replace K2 := Lib.hid (K2.out.below hb)
  replace BEL := Lib.hid (below_trans BEL.out hb BEL.out.size)
  have G1 := Lib.hid (ho.is)
  clear ho hb
  go_wp2_with fail
  refine (gSub_any _ _ _ _ _ KA.out KB.out).mono ?_
  rintro e W8 ⟨vG2, rfl, ho, hb⟩
  rw [S2.out] at ho
  rw [E2.out]
  replace KA := Lib.hid (KA.out.below hb)
  replace KB := Lib.hid (KB.out.below hb)
  replace K3 := Lib.hid (K3.out.below hb)
  replace K4 := Lib.hid (K4.out.below hb)
  replace K1 := Lib.hid (K1.out.below hb)
  replace K2 := Lib.hid (K2.out.below hb)
  replace G1 := Lib.hid (G1.out.below hb)
  replace BEL := Lib.hid (below_trans BEL.out hb BEL.out.size)
  have G2 := Lib.hid (ho.is)
  clear ho hb
  go_wp2_with fail
  refine (gScale_any _ _ _ _ KA.out hn).mono ?_
  rintro e W9 ⟨vG3, rfl, ho, hb⟩
  rw [S3.out] at ho
  rw [E1.out]
  replace KA := Lib.hid (KA.out.below hb)
  replace KB := Lib.hid (KB.out.below hb)
  replace K3 := Lib.hid (K3.out.below hb)
  replace K4 := Lib.hid (K4.out.below hb)
  replace K1 := Lib.hid (K1.out.below hb)
  replace K2 := Lib.hid (K2.out.below hb)
  replace G1 := Lib.hid (G1.out.below hb)
  replace G2 := Lib.hid (G2.out.below hb)
  replace BEL := Lib.hid (below_trans BEL.out hb BEL.out.size)
  have G3 := Lib.hid (ho.is)
  clear ho hb
  go_wp2_with fail
  refine (gPlus_any _ _ _ _ KA.out hn).mono ?_
  rintro e W10 ⟨vG4, rfl, ho, hb⟩
  rw [S4.out] at ho
  rw [E1.out]
  replace KA := Lib.hid (KA.out.below hb)
  replace KB := Lib.hid (KB.out.below hb)
  replace K3 := Lib.hid (K3.out.below hb)
  replace K4 := Lib.hid (K4.out.below hb)
  replace K1 := Lib.hid (K1.out.below hb)
  replace K2 := Lib.hid (K2.out.below hb)
  replace G1 := Lib.hid (G1.out.below hb)
  replace G2 := Lib.hid (G2.out.below hb)
  replace G3 := Lib.hid (G3.out.below hb)
  replace BEL := Lib.hid (below_trans BEL.out hb BEL.out.size)
  have G4 := Lib.hid (ho.is)
  clear ho hb
  go_wp2_with fail
  refine (equal_any _ _ _ _ _ G1.out K1.out).mono ?_
  rintro e w' ⟨rfl, nd, rfl⟩
  rw [decide_eq_true rfl]
  have hb := below_drewN (Below.refl W10.heap.size W10) nd
  replace KA := Lib.hid (KA.out.below hb)
  replace KB := Lib.hid (KB.out.below hb)
  replace K3 := Lib.hid (K3.out.below hb)
  replace K4 := Lib.hid (K4.out.below hb)
  replace K1 := Lib.hid (K1.out.below hb)
  replace K2 := Lib.hid (K2.out.below hb)
  replace G1 := Lib.hid (G1.out.below hb)
  replace G2 := Lib.hid (G2.out.below hb)
  replace G3 := Lib.hid (G3.out.below hb)
  replace G4 := Lib.hid (G4.out.below hb)
  replace BEL := Lib.hid (below_trans BEL.out hb BEL.out.size)
  clear hb
  generalize hW : W10.drewN nd = W11 at *
  clear hW
  go_wp2_with fail
  refine (equal_any _ _ _ _ _ G2.out K2.out).mono ?_
  rintro e w' ⟨rfl, nd, rfl⟩
  rw [decide_eq_true rfl]
  have hb := below_drewN (Below.refl W11.heap.size W11) nd
  replace KA := Lib.hid (KA.out.below hb)
  replace KB := Lib.hid (KB.out.below hb)
  replace K3 := Lib.hid (K3.out.below hb)
  replace K4 := Lib.hid (K4.out.below hb)
  replace K1 := Lib.hid (K1.out.below hb)
  replace K2 := Lib.hid (K2.out.below hb)
  replace G1 := Lib.hid (G1.out.below hb)
  replace G2 := Lib.hid (G2.out.below hb)
  replace G3 := Lib.hid (G3.out.below hb)
  replace G4 := Lib.hid (G4.out.below hb)
  replace BEL := Lib.hid (below_trans BEL.out hb BEL.out.size)
  clear hb
  generalize hW : W11.drewN nd = W12 at *
  clear hW
  go_wp2_with fail
  refine (equal_any _ _ _ _ _ G3.out K3.out).mono ?_
  rintro e w' ⟨rfl, nd, rfl⟩
  rw [decide_eq_true rfl]
  have hb := below_drewN (Below.refl W12.heap.size W12) nd
  replace KA := Lib.hid (KA.out.below hb)
  replace KB := Lib.hid (KB.out.below hb)
  replace K3 := Lib.hid (K3.out.below hb)
  replace K4 := Lib.hid (K4.out.below hb)
  replace K1 := Lib.hid (K1.out.below hb)
  replace K2 := Lib.hid (K2.out.below hb)
  replace G1 := Lib.hid (G1.out.below hb)
  replace G2 := Lib.hid (G2.out.below hb)
  replace G3 := Lib.hid (G3.out.below hb)
  replace G4 := Lib.hid (G4.out.below hb)
  replace BEL := Lib.hid (below_trans BEL.out hb BEL.out.size)
  clear hb
  generalize hW : W12.drewN nd = W13 at *
  clear hW
  go_wp2_with fail
  refine (equal_any _ _ _ _ _ G4.out K4.out).mono ?_
  rintro e w' ⟨rfl, nd, rfl⟩
  rw [decide_eq_true rfl]
  have hb := below_drewN (Below.refl W13.heap.size W13) nd
  replace KA := Lib.hid (KA.out.below hb)
  replace KB := Lib.hid (KB.out.below hb)
  replace K3 := Lib.hid (K3.out.below hb)
  replace K4 := Lib.hid (K4.out.below hb)
  replace K1 := Lib.hid (K1.out.below hb)
  replace K2 := Lib.hid (K2.out.below hb)
  replace G1 := Lib.hid (G1.out.below hb)
  replace G2 := Lib.hid (G2.out.below hb)
  replace G3 := Lib.hid (G3.out.below hb)
  replace G4 := Lib.hid (G4.out.below hb)
  replace BEL := Lib.hid (below_trans BEL.out hb BEL.out.size)
  clear hb
  generalize hW : W13.drewN nd = W14 at *
  clear hW
  go_wp2_with fail
  go_ret
  exact ⟨rfl, BEL.out⟩
set_option maxRecDepth 100000 in
set_option maxHeartbeats 1000000 in
theorem gateSays_tf (va vb : Value) (xs ys : List Int) (n : Int) (w : World) (h1 : IsNums w va xs) (h2 : IsNums w vb ys) (hn : U64 n) (hw1 : wireB [xs.length] = true) (hw2 : wireB [xs.length, ys.length] = false) :
    Calls Try.prog 6 #[va, vb, .int .u64 n] w fun e w' => e = .returned (.bool true) ∧ Below w.heap.size w w' := by
  have KA := Lib.hid h1
  have KB := Lib.hid h2
  have BEL := Lib.hid (Below.refl w.heap.size w)
  obtain ⟨A1, c1, rfl, hc1, hm1, hl1, hu1, hr1⟩ := h1
  obtain ⟨A2, c2, rfl, hc2, hm2, hl2, hu2, hr2⟩ := h2
  clear hu1 hu2 hr1 hr2 hm1 hm2
  have E1 := Lib.hid (wireE_true hw1)
  have E2 := Lib.hid (show wire2E xs ys = 5 from wireE_false hw2)
  have S3 := Lib.hid (mixed_times xs n E1.out)
  have S4 := Lib.hid (mixed_plus xs n E1.out)
  have S1 := Lib.hid (eachL_bad (op := (· + ·)) E2.out)
  have S2 := Lib.hid (eachL_bad (op := (· - ·)) E2.out)
  have H1 := Lib.hid hw1
  have H2 := Lib.hid hw2
  clear hw1 hw2
  go_enter Try.func6, Try.ntmps6
  go_wp2_with fail
  refine (rWire_any _ 0 _ _ _ _ (lens1 hl1) (by simp)).mono ?_
  rintro e w' ⟨rfl, nd, rfl⟩
  rw [H1.out]
  have hb := below_drewN ((Below.refl w.heap.size w).alloc (Nat.le_refl _) (.cells #[Value.slice A1 xs.length c1] 31)) nd
  replace KA := Lib.hid (KA.out.below hb)
  replace KB := Lib.hid (KB.out.below hb)
  replace BEL := Lib.hid (below_trans BEL.out hb BEL.out.size)
  clear hb
  generalize hW : (w.alloc (.cells #[Value.slice A1 xs.length c1] 31)).drewN nd = W1 at *
  clear hW
  go_wp2_with fail
  refine (rMixed_any _ _ _ _ _ _ _ _ KA.out KA.out (Nat.le_refl _) hn u64_zero u64_zero).mono ?_
  rintro e W2 ⟨vK3, rfl, ho, hb⟩
  replace KA := Lib.hid (KA.out.below hb)
  replace KB := Lib.hid (KB.out.below hb)
  replace BEL := Lib.hid (below_trans BEL.out hb BEL.out.size)
  have K3 := Lib.hid (ho.is)
  clear ho hb
  go_wp2_with fail
  refine (rMixed_any _ _ _ _ _ _ _ _ KA.out KA.out (Nat.le_refl _) ⟨by omega, by omega⟩ u64_zero hn).mono ?_
  rintro e W3 ⟨vK4, rfl, ho, hb⟩
  replace KA := Lib.hid (KA.out.below hb)
  replace KB := Lib.hid (KB.out.below hb)
  replace K3 := Lib.hid (K3.out.below hb)
  replace BEL := Lib.hid (below_trans BEL.out hb BEL.out.size)
  have K4 := Lib.hid (ho.is)
  clear ho hb
  go_wp2_with fail
  refine (rWire_any _ 0 _ _ _ _ (lens2 hl1 hl2) (by simp)).mono ?_
  rintro e w' ⟨rfl, nd, rfl⟩
  rw [H2.out]
  have hb := below_drewN ((Below.refl W3.heap.size W3).alloc (Nat.le_refl _) (.cells #[Value.slice A1 xs.length c1, Value.slice A2 ys.length c2] 31)) nd
  replace KA := Lib.hid (KA.out.below hb)
  replace KB := Lib.hid (KB.out.below hb)
  replace K3 := Lib.hid (K3.out.below hb)
  replace K4 := Lib.hid (K4.out.below hb)
  replace BEL := Lib.hid (below_trans BEL.out hb BEL.out.size)
  clear hb
  generalize hW : (W3.alloc (.cells #[Value.slice A1 xs.length c1, Value.slice A2 ys.length c2] 31)).drewN nd = W4 at *
  clear hW
  go_wp2_with fail
  have K1 := Lib.hid (IsNums.nil W4)
  have K2 := Lib.hid (IsNums.nil W4)
  refine (gAdd_any _ _ _ _ _ KA.out KB.out).mono ?_
  rintro e W5 ⟨vG1, rfl, ho, hb⟩
  rw [S1.out] at ho
  rw [E2.out]
  replace KA := Lib.hid (KA.out.below hb)
  replace KB := Lib.hid (KB.out.below hb)
  replace K3 := Lib.hid (K3.out.below hb)
  replace K4 := Lib.hid (K4.out.below hb)
  replace K1 := Lib.hid (K1.out.below hb)
  replace K2 := Lib.hid (K2.out.below hb)
  replace BEL := Lib.hid (below_trans BEL.out hb BEL.out.size)
  have G1 := Lib.hid (ho.is)
  clear ho hb
  go_wp2_with fail
  refine (gSub_any _ _ _ _ _ KA.out KB.out).mono ?_
  rintro e W6 ⟨vG2, rfl, ho, hb⟩
  rw [S2.out] at ho
  rw [E2.out]
  replace KA := Lib.hid (KA.out.below hb)
  replace KB := Lib.hid (KB.out.below hb)
  replace K3 := Lib.hid (K3.out.below hb)
  replace K4 := Lib.hid (K4.out.below hb)
  replace K1 := Lib.hid (K1.out.below hb)
  replace K2 := Lib.hid (K2.out.below hb)
  replace G1 := Lib.hid (G1.out.below hb)
  replace BEL := Lib.hid (below_trans BEL.out hb BEL.out.size)
  have G2 := Lib.hid (ho.is)
  clear ho hb
  go_wp2_with fail
  refine (gScale_any _ _ _ _ KA.out hn).mono ?_
  rintro e W7 ⟨vG3, rfl, ho, hb⟩
  rw [S3.out] at ho
  rw [E1.out]
  replace KA := Lib.hid (KA.out.below hb)
  replace KB := Lib.hid (KB.out.below hb)
  replace K3 := Lib.hid (K3.out.below hb)
  replace K4 := Lib.hid (K4.out.below hb)
  replace K1 := Lib.hid (K1.out.below hb)
  replace K2 := Lib.hid (K2.out.below hb)
  replace G1 := Lib.hid (G1.out.below hb)
  replace G2 := Lib.hid (G2.out.below hb)
  replace BEL := Lib.hid (below_trans BEL.out hb BEL.out.size)
  have G3 := Lib.hid (ho.is)
  clear ho hb
  go_wp2_with fail
  refine (gPlus_any _ _ _ _ KA.out hn).mono ?_
  rintro e W8 ⟨vG4, rfl, ho, hb⟩
  rw [S4.out] at ho
  rw [E1.out]
  replace KA := Lib.hid (KA.out.below hb)
  replace KB := Lib.hid (KB.out.below hb)
  replace K3 := Lib.hid (K3.out.below hb)
  replace K4 := Lib.hid (K4.out.below hb)
  replace K1 := Lib.hid (K1.out.below hb)
  replace K2 := Lib.hid (K2.out.below hb)
  replace G1 := Lib.hid (G1.out.below hb)
  replace G2 := Lib.hid (G2.out.below hb)
  replace G3 := Lib.hid (G3.out.below hb)
  replace BEL := Lib.hid (below_trans BEL.out hb BEL.out.size)
  have G4 := Lib.hid (ho.is)
  clear ho hb
  go_wp2_with fail
  refine (equal_any _ _ _ _ _ G1.out K1.out).mono ?_
  rintro e w' ⟨rfl, nd, rfl⟩
  rw [decide_eq_true rfl]
  have hb := below_drewN (Below.refl W8.heap.size W8) nd
  replace KA := Lib.hid (KA.out.below hb)
  replace KB := Lib.hid (KB.out.below hb)
  replace K3 := Lib.hid (K3.out.below hb)
  replace K4 := Lib.hid (K4.out.below hb)
  replace K1 := Lib.hid (K1.out.below hb)
  replace K2 := Lib.hid (K2.out.below hb)
  replace G1 := Lib.hid (G1.out.below hb)
  replace G2 := Lib.hid (G2.out.below hb)
  replace G3 := Lib.hid (G3.out.below hb)
  replace G4 := Lib.hid (G4.out.below hb)
  replace BEL := Lib.hid (below_trans BEL.out hb BEL.out.size)
  clear hb
  generalize hW : W8.drewN nd = W9 at *
  clear hW
  go_wp2_with fail
  refine (equal_any _ _ _ _ _ G2.out K2.out).mono ?_
  rintro e w' ⟨rfl, nd, rfl⟩
  rw [decide_eq_true rfl]
  have hb := below_drewN (Below.refl W9.heap.size W9) nd
  replace KA := Lib.hid (KA.out.below hb)
  replace KB := Lib.hid (KB.out.below hb)
  replace K3 := Lib.hid (K3.out.below hb)
  replace K4 := Lib.hid (K4.out.below hb)
  replace K1 := Lib.hid (K1.out.below hb)
  replace K2 := Lib.hid (K2.out.below hb)
  replace G1 := Lib.hid (G1.out.below hb)
  replace G2 := Lib.hid (G2.out.below hb)
  replace G3 := Lib.hid (G3.out.below hb)
  replace G4 := Lib.hid (G4.out.below hb)
  replace BEL := Lib.hid (below_trans BEL.out hb BEL.out.size)
  clear hb
  generalize hW : W9.drewN nd = W10 at *
  clear hW
  go_wp2_with fail
  refine (equal_any _ _ _ _ _ G3.out K3.out).mono ?_
  rintro e w' ⟨rfl, nd, rfl⟩
  rw [decide_eq_true rfl]
  have hb := below_drewN (Below.refl W10.heap.size W10) nd
  replace KA := Lib.hid (KA.out.below hb)
  replace KB := Lib.hid (KB.out.below hb)
  replace K3 := Lib.hid (K3.out.below hb)
  replace K4 := Lib.hid (K4.out.below hb)
  replace K1 := Lib.hid (K1.out.below hb)
  replace K2 := Lib.hid (K2.out.below hb)
  replace G1 := Lib.hid (G1.out.below hb)
  replace G2 := Lib.hid (G2.out.below hb)
  replace G3 := Lib.hid (G3.out.below hb)
  replace G4 := Lib.hid (G4.out.below hb)
  replace BEL := Lib.hid (below_trans BEL.out hb BEL.out.size)
  clear hb
  generalize hW : W10.drewN nd = W11 at *
  clear hW
  go_wp2_with fail
  refine (equal_any _ _ _ _ _ G4.out K4.out).mono ?_
  rintro e w' ⟨rfl, nd, rfl⟩
  rw [decide_eq_true rfl]
  have hb := below_drewN (Below.refl W11.heap.size W11) nd
  replace KA := Lib.hid (KA.out.below hb)
  replace KB := Lib.hid (KB.out.below hb)
  replace K3 := Lib.hid (K3.out.below hb)
  replace K4 := Lib.hid (K4.out.below hb)
  replace K1 := Lib.hid (K1.out.below hb)
  replace K2 := Lib.hid (K2.out.below hb)
  replace G1 := Lib.hid (G1.out.below hb)
  replace G2 := Lib.hid (G2.out.below hb)
  replace G3 := Lib.hid (G3.out.below hb)
  replace G4 := Lib.hid (G4.out.below hb)
  replace BEL := Lib.hid (below_trans BEL.out hb BEL.out.size)
  clear hb
  generalize hW : W11.drewN nd = W12 at *
  clear hW
  go_wp2_with fail
  go_ret
  exact ⟨rfl, BEL.out⟩
set_option maxRecDepth 100000 in
set_option maxHeartbeats 1000000 in
theorem gateSays_ff (va vb : Value) (xs ys : List Int) (n : Int) (w : World) (h1 : IsNums w va xs) (h2 : IsNums w vb ys) (hn : U64 n) (hw1 : wireB [xs.length] = false) (hw2 : wireB [xs.length, ys.length] = false) :
    Calls Try.prog 6 #[va, vb, .int .u64 n] w fun e w' => e = .returned (.bool true) ∧ Below w.heap.size w w' := by
  have KA := Lib.hid h1
  have KB := Lib.hid h2
  have BEL := Lib.hid (Below.refl w.heap.size w)
  obtain ⟨A1, c1, rfl, hc1, hm1, hl1, hu1, hr1⟩ := h1
  obtain ⟨A2, c2, rfl, hc2, hm2, hl2, hu2, hr2⟩ := h2
  clear hu1 hu2 hr1 hr2 hm1 hm2
  have E1 := Lib.hid (wireE_false hw1)
  have E2 := Lib.hid (show wire2E xs ys = 5 from wireE_false hw2)
  have S3 := Lib.hid (oneL_bad (op := (· * ·)) (n := n) E1.out)
  have S4 := Lib.hid (oneL_bad (op := (· + ·)) (n := n) E1.out)
  have S1 := Lib.hid (eachL_bad (op := (· + ·)) E2.out)
  have S2 := Lib.hid (eachL_bad (op := (· - ·)) E2.out)
  have H1 := Lib.hid hw1
  have H2 := Lib.hid hw2
  clear hw1 hw2
  go_enter Try.func6, Try.ntmps6
  go_wp2_with fail
  refine (rWire_any _ 0 _ _ _ _ (lens1 hl1) (by simp)).mono ?_
  rintro e w' ⟨rfl, nd, rfl⟩
  rw [H1.out]
  have hb := below_drewN ((Below.refl w.heap.size w).alloc (Nat.le_refl _) (.cells #[Value.slice A1 xs.length c1] 31)) nd
  replace KA := Lib.hid (KA.out.below hb)
  replace KB := Lib.hid (KB.out.below hb)
  replace BEL := Lib.hid (below_trans BEL.out hb BEL.out.size)
  clear hb
  generalize hW : (w.alloc (.cells #[Value.slice A1 xs.length c1] 31)).drewN nd = W1 at *
  clear hW
  go_wp2_with fail
  have K3 := Lib.hid (IsNums.nil W1)
  have K4 := Lib.hid (IsNums.nil W1)
  refine (rWire_any _ 0 _ _ _ _ (lens2 hl1 hl2) (by simp)).mono ?_
  rintro e w' ⟨rfl, nd, rfl⟩
  rw [H2.out]
  have hb := below_drewN ((Below.refl W1.heap.size W1).alloc (Nat.le_refl _) (.cells #[Value.slice A1 xs.length c1, Value.slice A2 ys.length c2] 31)) nd
  replace KA := Lib.hid (KA.out.below hb)
  replace KB := Lib.hid (KB.out.below hb)
  replace K3 := Lib.hid (K3.out.below hb)
  replace K4 := Lib.hid (K4.out.below hb)
  replace BEL := Lib.hid (below_trans BEL.out hb BEL.out.size)
  clear hb
  generalize hW : (W1.alloc (.cells #[Value.slice A1 xs.length c1, Value.slice A2 ys.length c2] 31)).drewN nd = W2 at *
  clear hW
  go_wp2_with fail
  have K1 := Lib.hid (IsNums.nil W2)
  have K2 := Lib.hid (IsNums.nil W2)
  refine (gAdd_any _ _ _ _ _ KA.out KB.out).mono ?_
  rintro e W3 ⟨vG1, rfl, ho, hb⟩
  rw [S1.out] at ho
  rw [E2.out]
  replace KA := Lib.hid (KA.out.below hb)
  replace KB := Lib.hid (KB.out.below hb)
  replace K3 := Lib.hid (K3.out.below hb)
  replace K4 := Lib.hid (K4.out.below hb)
  replace K1 := Lib.hid (K1.out.below hb)
  replace K2 := Lib.hid (K2.out.below hb)
  replace BEL := Lib.hid (below_trans BEL.out hb BEL.out.size)
  have G1 := Lib.hid (ho.is)
  clear ho hb
  go_wp2_with fail
  refine (gSub_any _ _ _ _ _ KA.out KB.out).mono ?_
  rintro e W4 ⟨vG2, rfl, ho, hb⟩
  rw [S2.out] at ho
  rw [E2.out]
  replace KA := Lib.hid (KA.out.below hb)
  replace KB := Lib.hid (KB.out.below hb)
  replace K3 := Lib.hid (K3.out.below hb)
  replace K4 := Lib.hid (K4.out.below hb)
  replace K1 := Lib.hid (K1.out.below hb)
  replace K2 := Lib.hid (K2.out.below hb)
  replace G1 := Lib.hid (G1.out.below hb)
  replace BEL := Lib.hid (below_trans BEL.out hb BEL.out.size)
  have G2 := Lib.hid (ho.is)
  clear ho hb
  go_wp2_with fail
  refine (gScale_any _ _ _ _ KA.out hn).mono ?_
  rintro e W5 ⟨vG3, rfl, ho, hb⟩
  rw [S3.out] at ho
  rw [E1.out]
  replace KA := Lib.hid (KA.out.below hb)
  replace KB := Lib.hid (KB.out.below hb)
  replace K3 := Lib.hid (K3.out.below hb)
  replace K4 := Lib.hid (K4.out.below hb)
  replace K1 := Lib.hid (K1.out.below hb)
  replace K2 := Lib.hid (K2.out.below hb)
  replace G1 := Lib.hid (G1.out.below hb)
  replace G2 := Lib.hid (G2.out.below hb)
  replace BEL := Lib.hid (below_trans BEL.out hb BEL.out.size)
  have G3 := Lib.hid (ho.is)
  clear ho hb
  go_wp2_with fail
  refine (gPlus_any _ _ _ _ KA.out hn).mono ?_
  rintro e W6 ⟨vG4, rfl, ho, hb⟩
  rw [S4.out] at ho
  rw [E1.out]
  replace KA := Lib.hid (KA.out.below hb)
  replace KB := Lib.hid (KB.out.below hb)
  replace K3 := Lib.hid (K3.out.below hb)
  replace K4 := Lib.hid (K4.out.below hb)
  replace K1 := Lib.hid (K1.out.below hb)
  replace K2 := Lib.hid (K2.out.below hb)
  replace G1 := Lib.hid (G1.out.below hb)
  replace G2 := Lib.hid (G2.out.below hb)
  replace G3 := Lib.hid (G3.out.below hb)
  replace BEL := Lib.hid (below_trans BEL.out hb BEL.out.size)
  have G4 := Lib.hid (ho.is)
  clear ho hb
  go_wp2_with fail
  refine (equal_any _ _ _ _ _ G1.out K1.out).mono ?_
  rintro e w' ⟨rfl, nd, rfl⟩
  rw [decide_eq_true rfl]
  have hb := below_drewN (Below.refl W6.heap.size W6) nd
  replace KA := Lib.hid (KA.out.below hb)
  replace KB := Lib.hid (KB.out.below hb)
  replace K3 := Lib.hid (K3.out.below hb)
  replace K4 := Lib.hid (K4.out.below hb)
  replace K1 := Lib.hid (K1.out.below hb)
  replace K2 := Lib.hid (K2.out.below hb)
  replace G1 := Lib.hid (G1.out.below hb)
  replace G2 := Lib.hid (G2.out.below hb)
  replace G3 := Lib.hid (G3.out.below hb)
  replace G4 := Lib.hid (G4.out.below hb)
  replace BEL := Lib.hid (below_trans BEL.out hb BEL.out.size)
  clear hb
  generalize hW : W6.drewN nd = W7 at *
  clear hW
  go_wp2_with fail
  refine (equal_any _ _ _ _ _ G2.out K2.out).mono ?_
  rintro e w' ⟨rfl, nd, rfl⟩
  rw [decide_eq_true rfl]
  have hb := below_drewN (Below.refl W7.heap.size W7) nd
  replace KA := Lib.hid (KA.out.below hb)
  replace KB := Lib.hid (KB.out.below hb)
  replace K3 := Lib.hid (K3.out.below hb)
  replace K4 := Lib.hid (K4.out.below hb)
  replace K1 := Lib.hid (K1.out.below hb)
  replace K2 := Lib.hid (K2.out.below hb)
  replace G1 := Lib.hid (G1.out.below hb)
  replace G2 := Lib.hid (G2.out.below hb)
  replace G3 := Lib.hid (G3.out.below hb)
  replace G4 := Lib.hid (G4.out.below hb)
  replace BEL := Lib.hid (below_trans BEL.out hb BEL.out.size)
  clear hb
  generalize hW : W7.drewN nd = W8 at *
  clear hW
  go_wp2_with fail
  refine (equal_any _ _ _ _ _ G3.out K3.out).mono ?_
  rintro e w' ⟨rfl, nd, rfl⟩
  rw [decide_eq_true rfl]
  have hb := below_drewN (Below.refl W8.heap.size W8) nd
  replace KA := Lib.hid (KA.out.below hb)
  replace KB := Lib.hid (KB.out.below hb)
  replace K3 := Lib.hid (K3.out.below hb)
  replace K4 := Lib.hid (K4.out.below hb)
  replace K1 := Lib.hid (K1.out.below hb)
  replace K2 := Lib.hid (K2.out.below hb)
  replace G1 := Lib.hid (G1.out.below hb)
  replace G2 := Lib.hid (G2.out.below hb)
  replace G3 := Lib.hid (G3.out.below hb)
  replace G4 := Lib.hid (G4.out.below hb)
  replace BEL := Lib.hid (below_trans BEL.out hb BEL.out.size)
  clear hb
  generalize hW : W8.drewN nd = W9 at *
  clear hW
  go_wp2_with fail
  refine (equal_any _ _ _ _ _ G4.out K4.out).mono ?_
  rintro e w' ⟨rfl, nd, rfl⟩
  rw [decide_eq_true rfl]
  have hb := below_drewN (Below.refl W9.heap.size W9) nd
  replace KA := Lib.hid (KA.out.below hb)
  replace KB := Lib.hid (KB.out.below hb)
  replace K3 := Lib.hid (K3.out.below hb)
  replace K4 := Lib.hid (K4.out.below hb)
  replace K1 := Lib.hid (K1.out.below hb)
  replace K2 := Lib.hid (K2.out.below hb)
  replace G1 := Lib.hid (G1.out.below hb)
  replace G2 := Lib.hid (G2.out.below hb)
  replace G3 := Lib.hid (G3.out.below hb)
  replace G4 := Lib.hid (G4.out.below hb)
  replace BEL := Lib.hid (below_trans BEL.out hb BEL.out.size)
  clear hb
  generalize hW : W9.drewN nd = W10 at *
  clear hW
  go_wp2_with fail
  go_ret
  exact ⟨rfl, BEL.out⟩
theorem gateSays_any (va vb : Value) (xs ys : List Int) (n : Int) (w : World) (h1 : IsNums w va xs) (h2 : IsNums w vb ys) (hn : U64 n) :
    Calls Try.prog 6 #[va, vb, .int .u64 n] w fun e w' => e = .returned (.bool true) ∧ Below w.heap.size w w' := by
  cases hw1 : wireB [xs.length] with
  | true =>
    cases hw2 : wireB [xs.length, ys.length] with
    | true => exact gateSays_tt va vb xs ys n w h1 h2 hn hw1 hw2
    | false => exact gateSays_tf va vb xs ys n w h1 h2 hn hw1 hw2
  | false =>
    have hw2 : wireB [xs.length, ys.length] = false := by
      unfold wireB at *
      simp only [Bool.and_eq_false_iff] at *
      rcases hw1 with h | h
      · exact .inl h
      · simp at h
    exact gateSays_ff va vb xs ys n w h1 h2 hn hw1 hw2
end Go.Proofs.Ytnojmphggdndmaa
