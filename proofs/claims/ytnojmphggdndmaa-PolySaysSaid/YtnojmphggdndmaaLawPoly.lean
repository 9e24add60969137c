/- The law PolySays, walked. -/
import Derived.Test.YtnojmphggdndmaaPolyX
namespace Go.Proofs.Ytnojmphggdndmaa
open Go.RowKit Croft

set_option maxRecDepth 100000 in
set_option maxHeartbeats 1000000 in
theorem polySays_a (va vb : Value) (xs ys : List Int) (x : Int) (w : World) (h1 : IsNums w va xs) (h2 : IsNums w vb ys) (hx : U64 x) (hla : 40 < xs.length) :
    Calls Try.prog 8 #[va, vb, .int .u64 x] w fun e w' => e = .returned (.bool true) ∧ Below w.heap.size w w' := by
  have KA := Lib.hid h1
  have KB := Lib.hid h2
  have BEL := Lib.hid (Below.refl w.heap.size w)
  have hx0 := hx.1
  obtain ⟨A1, c1, rfl, hc1, hm1, hl1, hu1, hr1⟩ := h1
  obtain ⟨A2, c2, rfl, hc2, hm2, hl2, hu2, hr2⟩ := h2
  clear hu1 hu2 hr1 hr2 hm1 hm2
  have hA : (40 : Int) < (xs.length : Int) := by omega
  have hd : decide ((40 : Int) < (xs.length : Int)) = true := by simpa using hA
  go_enter Try.func8, Try.ntmps8
  go_wp2_with fail
  have NO := Lib.hid (IsNums.nil w)
  have PR := Lib.hid (IsNums.nil w)
  refine (pNorm_big _ _ _ KA.out (by omega)).mono ?_
  rintro e W1 ⟨vN2, rfl, ho, hb⟩
  replace KA := Lib.hid (KA.out.below hb)
  replace KB := Lib.hid (KB.out.below hb)
  replace NO := Lib.hid (NO.out.below hb)
  replace PR := Lib.hid (PR.out.below hb)
  replace BEL := Lib.hid (below_trans BEL.out hb BEL.out.size)
  have N2 := Lib.hid (ho.is)
  clear ho hb
  go_wp2_with fail
  refine (pMul_big _ _ _ _ _ KA.out KB.out (by omega)).mono ?_
  rintro e W2 ⟨vP2, rfl, ho, hb⟩
  replace KA := Lib.hid (KA.out.below hb)
  replace KB := Lib.hid (KB.out.below hb)
  replace NO := Lib.hid (NO.out.below hb)
  replace PR := Lib.hid (PR.out.below hb)
  replace N2 := Lib.hid (N2.out.below hb)
  replace BEL := Lib.hid (below_trans BEL.out hb BEL.out.size)
  have P2 := Lib.hid (ho.is)
  clear ho hb
  go_wp2_with fail
  refine (pEval_big _ _ _ _ KA.out (by omega)).mono ?_
  rintro e w' ⟨rfl, rfl⟩
  go_wp2_with fail
  refine (equal_any _ _ _ _ _ N2.out NO.out).mono ?_
  rintro e w' ⟨rfl, nd, rfl⟩
  rw [decide_eq_true rfl]
  have hb := below_drewN (Below.refl W2.heap.size W2) nd
  replace KA := Lib.hid (KA.out.below hb)
  replace KB := Lib.hid (KB.out.below hb)
  replace NO := Lib.hid (NO.out.below hb)
  replace PR := Lib.hid (PR.out.below hb)
  replace N2 := Lib.hid (N2.out.below hb)
  replace P2 := Lib.hid (P2.out.below hb)
  replace BEL := Lib.hid (below_trans BEL.out hb BEL.out.size)
  clear hb
  generalize hW : W2.drewN nd = W3 at *
  clear hW
  go_wp2_with fail
  refine (equal_any _ _ _ _ _ P2.out PR.out).mono ?_
  rintro e w' ⟨rfl, nd, rfl⟩
  rw [decide_eq_true rfl]
  have hb := below_drewN (Below.refl W3.heap.size W3) nd
  replace KA := Lib.hid (KA.out.below hb)
  replace KB := Lib.hid (KB.out.below hb)
  replace NO := Lib.hid (NO.out.below hb)
  replace PR := Lib.hid (PR.out.below hb)
  replace N2 := Lib.hid (N2.out.below hb)
  replace P2 := Lib.hid (P2.out.below hb)
  replace BEL := Lib.hid (below_trans BEL.out hb BEL.out.size)
  clear hb
  generalize hW : W3.drewN nd = W4 at *
  clear hW
  go_wp2_with fail
  go_ret
  exact ⟨rfl, BEL.out⟩
set_option maxRecDepth 100000 in
set_option maxHeartbeats 1000000 in
theorem polySays_b (va vb : Value) (xs ys : List Int) (x : Int) (w : World) (h1 : IsNums w va xs) (h2 : IsNums w vb ys) (hx : U64 x) (hla : xs.length ≤ 40) (hlb : 40 < ys.length) :
    Calls Try.prog 8 #[va, vb, .int .u64 x] w fun e w' => e = .returned (.bool true) ∧ Below w.heap.size w w' := by
  have KA := Lib.hid h1
  have KB := Lib.hid h2
  have BEL := Lib.hid (Below.refl w.heap.size w)
  have hx0 := hx.1
  obtain ⟨A1, c1, rfl, hc1, hm1, hl1, hu1, hr1⟩ := h1
  obtain ⟨A2, c2, rfl, hc2, hm2, hl2, hu2, hr2⟩ := h2
  clear hu1 hu2 hr1 hr2 hm1 hm2
  have hA : ¬ (40 : Int) < (xs.length : Int) := by omega
  have hd : decide ((40 : Int) < (xs.length : Int)) = false := by simpa using hA
  have hB : (40 : Int) < (ys.length : Int) := by omega
  have hd2 : decide ((40 : Int) < (ys.length : Int)) = true := by simpa using hB
  go_enter Try.func8, Try.ntmps8
  go_wp2_with fail
  refine (rNormal_any _ _ _ KA.out).mono ?_
  rintro e W1 ⟨vNO, rfl, ho, hb⟩
  replace KA := Lib.hid (KA.out.below hb)
  replace KB := Lib.hid (KB.out.below hb)
  replace BEL := Lib.hid (below_trans BEL.out hb BEL.out.size)
  have NO := Lib.hid (ho.is)
  clear ho hb
  go_wp2_with fail
  refine (rEval_any _ _ _ _ KA.out hx).mono ?_
  rintro e w' ⟨rfl, rfl⟩
  go_wp2_with fail
  have PR := Lib.hid (IsNums.nil W1)
  refine (pNorm_ok _ _ _ KA.out (by omega)).mono ?_
  rintro e W2 ⟨vN2, rfl, ho, hb⟩
  replace KA := Lib.hid (KA.out.below hb)
  replace KB := Lib.hid (KB.out.below hb)
  replace NO := Lib.hid (NO.out.below hb)
  replace PR := Lib.hid (PR.out.below hb)
  replace BEL := Lib.hid (below_trans BEL.out hb BEL.out.size)
  have N2 := Lib.hid (ho.is)
  clear ho hb
  go_wp2_with fail
  refine (pMul_big _ _ _ _ _ KA.out KB.out (by omega)).mono ?_
  rintro e W3 ⟨vP2, rfl, ho, hb⟩
  replace KA := Lib.hid (KA.out.below hb)
  replace KB := Lib.hid (KB.out.below hb)
  replace NO := Lib.hid (NO.out.below hb)
  replace PR := Lib.hid (PR.out.below hb)
  replace N2 := Lib.hid (N2.out.below hb)
  replace BEL := Lib.hid (below_trans BEL.out hb BEL.out.size)
  have P2 := Lib.hid (ho.is)
  clear ho hb
  go_wp2_with fail
  refine (pEval_ok _ _ _ _ KA.out hx0 (by omega)).mono ?_
  rintro e w' ⟨rfl, nd, rfl⟩
  have hb := below_drewN (Below.refl W3.heap.size W3) nd
  replace KA := Lib.hid (KA.out.below hb)
  replace KB := Lib.hid (KB.out.below hb)
  replace NO := Lib.hid (NO.out.below hb)
  replace PR := Lib.hid (PR.out.below hb)
  replace N2 := Lib.hid (N2.out.below hb)
  replace P2 := Lib.hid (P2.out.below hb)
  replace BEL := Lib.hid (below_trans BEL.out hb BEL.out.size)
  clear hb
  generalize hW : W3.drewN nd = W4 at *
  clear hW
  go_wp2_with fail
  refine (equal_any _ _ _ _ _ N2.out NO.out).mono ?_
  rintro e w' ⟨rfl, nd, rfl⟩
  rw [decide_eq_true rfl]
  have hb := below_drewN (Below.refl W4.heap.size W4) nd
  replace KA := Lib.hid (KA.out.below hb)
  replace KB := Lib.hid (KB.out.below hb)
  replace NO := Lib.hid (NO.out.below hb)
  replace PR := Lib.hid (PR.out.below hb)
  replace N2 := Lib.hid (N2.out.below hb)
  replace P2 := Lib.hid (P2.out.below hb)
  replace BEL := Lib.hid (below_trans BEL.out hb BEL.out.size)
  clear hb
  generalize hW : W4.drewN nd = W5 at *
  clear hW
  go_wp2_with fail
  refine (equal_any _ _ _ _ _ P2.out PR.out).mono ?_
  rintro e w' ⟨rfl, nd, rfl⟩
  rw [decide_eq_true rfl]
  have hb := below_drewN (Below.refl W5.heap.size W5) nd
  replace KA := Lib.hid (KA.out.below hb)
  replace KB := Lib.hid (KB.out.below hb)
  replace NO := Lib.hid (NO.out.below hb)
  replace PR := Lib.hid (PR.out.below hb)
  replace N2 := Lib.hid (N2.out.below hb)
  replace P2 := Lib.hid (P2.out.below hb)
  replace BEL := Lib.hid (below_trans BEL.out hb BEL.out.size)
  clear hb
  generalize hW : W5.drewN nd = W6 at *
  clear hW
  go_wp2_with fail
  go_ret
  exact ⟨rfl, BEL.out⟩
set_option maxRecDepth 100000 in
set_option maxHeartbeats 1000000 in
theorem polySays_c (va vb : Value) (xs ys : List Int) (x : Int) (w : World) (h1 : IsNums w va xs) (h2 : IsNums w vb ys) (hx : U64 x) (hla : xs.length ≤ 40) (hlb : ys.length ≤ 40) (hlong : 40 < (pmulS (pnorm (toFs xs)) (pnorm (toFs ys))).length) :
    Calls Try.prog 8 #[va, vb, .int .u64 x] w fun e w' => e = .returned (.bool true) ∧ Below w.heap.size w w' := by
  have KA := Lib.hid h1
  have KB := Lib.hid h2
  have BEL := Lib.hid (Below.refl w.heap.size w)
  have hx0 := hx.1
  obtain ⟨A1, c1, rfl, hc1, hm1, hl1, hu1, hr1⟩ := h1
  obtain ⟨A2, c2, rfl, hc2, hm2, hl2, hu2, hr2⟩ := h2
  clear hu1 hu2 hr1 hr2 hm1 hm2
  have hA : ¬ (40 : Int) < (xs.length : Int) := by omega
  have hd : decide ((40 : Int) < (xs.length : Int)) = false := by simpa using hA
  have hB : ¬ (40 : Int) < (ys.length : Int) := by omega
  have hd2 : decide ((40 : Int) < (ys.length : Int)) = false := by simpa using hB
  obtain ⟨L, hL⟩ : ∃ L, pmulS (pnorm (toFs xs)) (pnorm (toFs ys)) = L := ⟨_, rfl⟩
  rw [hL] at hlong
  have HL := Lib.hid hL
  clear hL
  have e1 : mulRes L = [] := by unfold mulRes; rw [if_pos hlong]
  have e2 : mulErr L = 2 := by unfold mulErr; rw [if_pos hlong]
  have hlong2 : (40 : Int) < (L.length : Int) := by omega
  have E1 := Lib.hid e1
  have E2 := Lib.hid e2
  clear e1 e2 hlong
  go_enter Try.func8, Try.ntmps8
  go_wp2_with fail
  refine (rNormal_any _ _ _ KA.out).mono ?_
  rintro e W1 ⟨vNO, rfl, ho, hb⟩
  replace KA := Lib.hid (KA.out.below hb)
  replace KB := Lib.hid (KB.out.below hb)
  replace BEL := Lib.hid (below_trans BEL.out hb BEL.out.size)
  have NO := Lib.hid (ho.is)
  clear ho hb
  go_wp2_with fail
  refine (rEval_any _ _ _ _ KA.out hx).mono ?_
  rintro e w' ⟨rfl, rfl⟩
  go_wp2_with fail
  refine (rProduct_any _ _ _ _ _ KA.out KB.out (by omega) (by omega)).mono ?_
  rintro e W2 ⟨vPX, rfl, ho, hb⟩
  rw [HL.out] at ho
  obtain ⟨A, c, hv, _, _⟩ := own_form ho.1
  subst hv
  rw [ofFs_length]
  replace KA := Lib.hid (KA.out.below hb)
  replace KB := Lib.hid (KB.out.below hb)
  replace NO := Lib.hid (NO.out.below hb)
  replace BEL := Lib.hid (below_trans BEL.out hb BEL.out.size)
  have PO := Lib.hid (ho)
  clear ho hb
  clear PO
  go_wp2_with fail
  have PR := Lib.hid (IsNums.nil W2)
  refine (pNorm_ok _ _ _ KA.out (by omega)).mono ?_
  rintro e W3 ⟨vN2, rfl, ho, hb⟩
  replace KA := Lib.hid (KA.out.below hb)
  replace KB := Lib.hid (KB.out.below hb)
  replace NO := Lib.hid (NO.out.below hb)
  replace PR := Lib.hid (PR.out.below hb)
  replace BEL := Lib.hid (below_trans BEL.out hb BEL.out.size)
  have N2 := Lib.hid (ho.is)
  clear ho hb
  go_wp2_with fail
  refine (pMul_small _ _ _ _ _ KA.out KB.out (by omega) (by omega)).mono ?_
  rintro e W4 ⟨vP2, rfl, ho, hb⟩
  rw [HL.out, E1.out] at ho
  rw [HL.out, E2.out]
  replace KA := Lib.hid (KA.out.below hb)
  replace KB := Lib.hid (KB.out.below hb)
  replace NO := Lib.hid (NO.out.below hb)
  replace PR := Lib.hid (PR.out.below hb)
  replace N2 := Lib.hid (N2.out.below hb)
  replace BEL := Lib.hid (below_trans BEL.out hb BEL.out.size)
  have P2 := Lib.hid (ho.is)
  clear ho hb
  go_wp2_with fail
  refine (pEval_ok _ _ _ _ KA.out hx0 (by omega)).mono ?_
  rintro e w' ⟨rfl, nd, rfl⟩
  have hb := below_drewN (Below.refl W4.heap.size W4) nd
  replace KA := Lib.hid (KA.out.below hb)
  replace KB := Lib.hid (KB.out.below hb)
  replace NO := Lib.hid (NO.out.below hb)
  replace PR := Lib.hid (PR.out.below hb)
  replace N2 := Lib.hid (N2.out.below hb)
  replace P2 := Lib.hid (P2.out.below hb)
  replace BEL := Lib.hid (below_trans BEL.out hb BEL.out.size)
  clear hb
  generalize hW : W4.drewN nd = W5 at *
  clear hW
  go_wp2_with fail
  refine (equal_any _ _ _ _ _ N2.out NO.out).mono ?_
  rintro e w' ⟨rfl, nd, rfl⟩
  rw [decide_eq_true rfl]
  have hb := below_drewN (Below.refl W5.heap.size W5) nd
  replace KA := Lib.hid (KA.out.below hb)
  replace KB := Lib.hid (KB.out.below hb)
  replace NO := Lib.hid (NO.out.below hb)
  replace PR := Lib.hid (PR.out.below hb)
  replace N2 := Lib.hid (N2.out.below hb)
  replace P2 := Lib.hid (P2.out.below hb)
  replace BEL := Lib.hid (below_trans BEL.out hb BEL.out.size)
  clear hb
  generalize hW : W5.drewN nd = W6 at *
  clear hW
  go_wp2_with fail
  refine (equal_any _ _ _ _ _ P2.out PR.out).mono ?_
  rintro e w' ⟨rfl, nd, rfl⟩
  rw [decide_eq_true rfl]
  have hb := below_drewN (Below.refl W6.heap.size W6) nd
  replace KA := Lib.hid (KA.out.below hb)
  replace KB := Lib.hid (KB.out.below hb)
  replace NO := Lib.hid (NO.out.below hb)
  replace PR := Lib.hid (PR.out.below hb)
  replace N2 := Lib.hid (N2.out.below hb)
  replace P2 := Lib.hid (P2.out.below hb)
  replace BEL := Lib.hid (below_trans BEL.out hb BEL.out.size)
  clear hb
  generalize hW : W6.drewN nd = W7 at *
  clear hW
  go_wp2_with fail
  go_ret
  exact ⟨rfl, BEL.out⟩
set_option maxRecDepth 100000 in
set_option maxHeartbeats 1000000 in
theorem polySays_d (va vb : Value) (xs ys : List Int) (x : Int) (w : World) (h1 : IsNums w va xs) (h2 : IsNums w vb ys) (hx : U64 x) (hla : xs.length ≤ 40) (hlb : ys.length ≤ 40) (hlong : ¬ 40 < (pmulS (pnorm (toFs xs)) (pnorm (toFs ys))).length) :
    Calls Try.prog 8 #[va, vb, .int .u64 x] w fun e w' => e = .returned (.bool true) ∧ Below w.heap.size w w' := by
  have KA := Lib.hid h1
  have KB := Lib.hid h2
  have BEL := Lib.hid (Below.refl w.heap.size w)
  have hx0 := hx.1
  obtain ⟨A1, c1, rfl, hc1, hm1, hl1, hu1, hr1⟩ := h1
  obtain ⟨A2, c2, rfl, hc2, hm2, hl2, hu2, hr2⟩ := h2
  clear hu1 hu2 hr1 hr2 hm1 hm2
  have hA : ¬ (40 : Int) < (xs.length : Int) := by omega
  have hd : decide ((40 : Int) < (xs.length : Int)) = false := by simpa using hA
  have hB : ¬ (40 : Int) < (ys.length : Int) := by omega
  have hd2 : decide ((40 : Int) < (ys.length : Int)) = false := by simpa using hB
  obtain ⟨L, hL⟩ : ∃ L, pmulS (pnorm (toFs xs)) (pnorm (toFs ys)) = L := ⟨_, rfl⟩
  rw [hL] at hlong
  have HL := Lib.hid hL
  clear hL
  have e1 : mulRes L = ofFs L := by unfold mulRes; rw [if_neg hlong]
  have e2 : mulErr L = 0 := by unfold mulErr; rw [if_neg hlong]
  have hlong2 : ¬ (40 : Int) < (L.length : Int) := by omega
  have E1 := Lib.hid e1
  have E2 := Lib.hid e2
  clear e1 e2 hlong
  go_enter Try.func8, Try.ntmps8
  go_wp2_with fail
  refine (rNormal_any _ _ _ KA.out).mono ?_
  rintro e W1 ⟨vNO, rfl, ho, hb⟩
  replace KA := Lib.hid (KA.out.below hb)
  replace KB := Lib.hid (KB.out.below hb)
  replace BEL := Lib.hid (below_trans BEL.out hb BEL.out.size)
  have NO := Lib.hid (ho.is)
  clear ho hb
  go_wp2_with fail
  refine (rEval_any _ _ _ _ KA.out hx).mono ?_
  rintro e w' ⟨rfl, rfl⟩
  go_wp2_with fail
  refine (rProduct_any _ _ _ _ _ KA.out KB.out (by omega) (by omega)).mono ?_
  rintro e W2 ⟨vPX, rfl, ho, hb⟩
  rw [HL.out] at ho
  obtain ⟨A, c, hv, _, _⟩ := own_form ho.1
  subst hv
  replace KA := Lib.hid (KA.out.below hb)
  replace KB := Lib.hid (KB.out.below hb)
  replace NO := Lib.hid (NO.out.below hb)
  replace BEL := Lib.hid (below_trans BEL.out hb BEL.out.size)
  have PR := Lib.hid (ho.is)
  clear ho hb
  rw [ofFs_length] at PR ⊢
  go_wp2_with fail
  refine (pNorm_ok _ _ _ KA.out (by omega)).mono ?_
  rintro e W3 ⟨vN2, rfl, ho, hb⟩
  replace KA := Lib.hid (KA.out.below hb)
  replace KB := Lib.hid (KB.out.below hb)
  replace NO := Lib.hid (NO.out.below hb)
  replace PR := Lib.hid (PR.out.below hb)
  replace BEL := Lib.hid (below_trans BEL.out hb BEL.out.size)
  have N2 := Lib.hid (ho.is)
  clear ho hb
  go_wp2_with fail
  refine (pMul_small _ _ _ _ _ KA.out KB.out (by omega) (by omega)).mono ?_
  rintro e W4 ⟨vP2, rfl, ho, hb⟩
  rw [HL.out, E1.out] at ho
  rw [HL.out, E2.out]
  replace KA := Lib.hid (KA.out.below hb)
  replace KB := Lib.hid (KB.out.below hb)
  replace NO := Lib.hid (NO.out.below hb)
  replace PR := Lib.hid (PR.out.below hb)
  replace N2 := Lib.hid (N2.out.below hb)
  replace BEL := Lib.hid (below_trans BEL.out hb BEL.out.size)
  have P2 := Lib.hid (ho.is)
  clear ho hb
  go_wp2_with fail
  refine (pEval_ok _ _ _ _ KA.out hx0 (by omega)).mono ?_
  rintro e w' ⟨rfl, nd, rfl⟩
  have hb := below_drewN (Below.refl W4.heap.size W4) nd
  replace KA := Lib.hid (KA.out.below hb)
  replace KB := Lib.hid (KB.out.below hb)
  replace NO := Lib.hid (NO.out.below hb)
  replace PR := Lib.hid (PR.out.below hb)
  replace N2 := Lib.hid (N2.out.below hb)
  replace P2 := Lib.hid (P2.out.below hb)
  replace BEL := Lib.hid (below_trans BEL.out hb BEL.out.size)
  clear hb
  generalize hW : W4.drewN nd = W5 at *
  clear hW
  go_wp2_with fail
  refine (equal_any _ _ _ _ _ N2.out NO.out).mono ?_
  rintro e w' ⟨rfl, nd, rfl⟩
  rw [decide_eq_true rfl]
  have hb := below_drewN (Below.refl W5.heap.size W5) nd
  replace KA := Lib.hid (KA.out.below hb)
  replace KB := Lib.hid (KB.out.below hb)
  replace NO := Lib.hid (NO.out.below hb)
  replace PR := Lib.hid (PR.out.below hb)
  replace N2 := Lib.hid (N2.out.below hb)
  replace P2 := Lib.hid (P2.out.below hb)
  replace BEL := Lib.hid (below_trans BEL.out hb BEL.out.size)
  clear hb
  generalize hW : W5.drewN nd = W6 at *
  clear hW
  go_wp2_with fail
  refine (equal_any _ _ _ _ _ P2.out PR.out).mono ?_
  rintro e w' ⟨rfl, nd, rfl⟩
  rw [decide_eq_true rfl]
  have hb := below_drewN (Below.refl W6.heap.size W6) nd
  replace KA := Lib.hid (KA.out.below hb)
  replace KB := Lib.hid (KB.out.below hb)
  replace NO := Lib.hid (NO.out.below hb)
  replace PR := Lib.hid (PR.out.below hb)
  replace N2 := Lib.hid (N2.out.below hb)
  replace P2 := Lib.hid (P2.out.below hb)
  replace BEL := Lib.hid (below_trans BEL.out hb BEL.out.size)
  clear hb
  generalize hW : W6.drewN nd = W7 at *
  clear hW
  go_wp2_with fail
  go_ret
  exact ⟨rfl, BEL.out⟩
theorem polySays_any (va vb : Value) (xs ys : List Int) (x : Int) (w : World) (h1 : IsNums w va xs) (h2 : IsNums w vb ys) (hx : U64 x) :
    Calls Try.prog 8 #[va, vb, .int .u64 x] w fun e w' => e = .returned (.bool true) ∧ Below w.heap.size w w' := by
  by_cases ha : 40 < xs.length
  · exact polySays_a va vb xs ys x w h1 h2 hx ha
  by_cases hb : 40 < ys.length
  · exact polySays_b va vb xs ys x w h1 h2 hx (by omega) hb
  by_cases hl : 40 < (pmulS (pnorm (toFs xs)) (pnorm (toFs ys))).length
  · exact polySays_c va vb xs ys x w h1 h2 hx (by omega) (by omega) hl
  · exact polySays_d va vb xs ys x w h1 h2 hx (by omega) (by omega) hl
end Go.Proofs.Ytnojmphggdndmaa
