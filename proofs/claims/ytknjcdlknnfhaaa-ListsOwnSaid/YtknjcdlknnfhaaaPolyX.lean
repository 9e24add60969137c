/- Package poly's own calls Norm, Mul, Eval: what each returns. -/
import Derived.Test.YtknjcdlknnfhaaaPolyM
import Derived.Test.YtknjcdlknnfhaaaGateW
namespace Go.Proofs.Ytknjcdlknnfhaaa
open Go.RowKit Croft

theorem pNorm_big (va : Value) (zs : List Int) (w : World) (h1 : IsNums w va zs) (h : 40 < zs.length) :
    Calls Try.prog 24 #[va] w fun e w' => ListRes w e w' [] 2 := by
  obtain ⟨A1, c1, rfl, hc1, hm1, hl1, hu1, hr1⟩ := h1
  have h' : (40 : Int) < (zs.length : Int) := by omega
  go_enter Try.func24, Try.ntmps24
  go_wp2_with fail
  go_ret2
  exact ⟨_, rfl, OwnNums.nil _ _, Below.refl _ _⟩
theorem pNorm_ok (va : Value) (zs : List Int) (w : World) (h1 : IsNums w va zs) (h : zs.length ≤ 40) :
    Calls Try.prog 24 #[va] w fun e w' => ListRes w e w' (ofFs (pnorm (toFs zs))) 0 := by
  have K := Lib.hid h1
  obtain ⟨A1, c1, rfl, hc1, hm1, hl1, hu1, hr1⟩ := h1
  have h' : ¬ (40 : Int) < (zs.length : Int) := by omega
  clear hr1 hu1
  go_enter Try.func24, Try.ntmps24
  go_wp2_with fail
  refine (pNormal_any _ _ _ K.out).mono ?_
  rintro e w' ⟨v, rfl, ho, hb⟩
  go_wp2_with fail
  go_ret2
  exact ⟨_, rfl, ho, hb⟩
theorem pMul_big (va vb : Value) (xs ys : List Int) (w : World) (h1 : IsNums w va xs) (h2 : IsNums w vb ys) (h : 40 < xs.length ∨ 40 < ys.length) :
    Calls Try.prog 84 #[va, vb] w fun e w' => ListRes w e w' [] 2 := by
  obtain ⟨A1, c1, rfl, hc1, hm1, hl1, hu1, hr1⟩ := h1
  obtain ⟨A2, c2, rfl, hc2, hm2, hl2, hu2, hr2⟩ := h2
  clear hr1 hu1 hr2 hu2
  by_cases hx : (40 : Int) < (xs.length : Int)
  · clear h
    go_enter Try.func84, Try.ntmps84
    go_wp2_with fail
    go_ret2
    exact ⟨_, rfl, OwnNums.nil _ _, Below.refl _ _⟩
  · have hy : (40 : Int) < (ys.length : Int) := by omega
    have hd : decide ((40 : Int) < (xs.length : Int)) = false := by simpa using hx
    clear h
    go_enter Try.func84, Try.ntmps84
    go_wp2_with fail
    go_ret2
    exact ⟨_, rfl, OwnNums.nil _ _, Below.refl _ _⟩
def mulRes (l : List F) : List Int := if 40 < l.length then [] else ofFs l
def mulErr (l : List F) : Int := if 40 < l.length then 2 else 0
theorem pMul_small (va vb : Value) (xs ys : List Int) (w : World) (h1 : IsNums w va xs) (h2 : IsNums w vb ys) (hx : xs.length ≤ 40) (hy : ys.length ≤ 40) :
    Calls Try.prog 84 #[va, vb] w fun e w' => ListRes w e w' (mulRes (pmulS (pnorm (toFs xs)) (pnorm (toFs ys)))) (mulErr (pmulS (pnorm (toFs xs)) (pnorm (toFs ys)))) := by
  have KA := Lib.hid h1
  have KB := Lib.hid h2
  have BEL := Lib.hid (Below.refl w.heap.size w)
  have hlx := pnorm_length (toFs xs)
  have hly := pnorm_length (toFs ys)
  rw [toFs_length] at hlx hly
  obtain ⟨A1, c1, rfl, hc1, hm1, hl1, hu1, hr1⟩ := h1
  obtain ⟨A2, c2, rfl, hc2, hm2, hl2, hu2, hr2⟩ := h2
  clear hr1 hu1 hr2 hu2
  have hx' : ¬ (40 : Int) < (xs.length : Int) := by omega
  have hy' : ¬ (40 : Int) < (ys.length : Int) := by omega
  have hd : decide ((40 : Int) < (xs.length : Int)) = false := by simpa using hx'
  obtain ⟨L, hL⟩ : ∃ L, pmulS (pnorm (toFs xs)) (pnorm (toFs ys)) = L := ⟨_, rfl⟩
  rw [hL]
  have HL := Lib.hid hL
  clear hL
  go_enter Try.func84, Try.ntmps84
  go_wp2_with fail
  refine (pNormal_any _ _ _ KA.out).mono ?_
  rintro e W1 ⟨v1, rfl, ho, hb⟩
  replace KB := Lib.hid (KB.out.below hb)
  replace BEL := Lib.hid (below_trans BEL.out hb BEL.out.size)
  have K1 := Lib.hid ho.is
  clear ho hb KA
  go_wp2_with fail
  refine (pNormal_any _ _ _ KB.out).mono ?_
  rintro e W2 ⟨v2, rfl, ho, hb⟩
  replace K1 := Lib.hid (K1.out.below hb)
  replace BEL := Lib.hid (below_trans BEL.out hb BEL.out.size)
  have K2 := Lib.hid ho.is
  clear ho hb KB
  go_wp2_with fail
  refine (pmul_any _ _ _ _ _ K1.out K2.out (by rw [ofFs_length]; omega) (by rw [ofFs_length]; omega)).mono ?_
  rintro e W3 ⟨v3, rfl, ho, hb⟩
  rw [toFs_ofFs, toFs_ofFs, HL.out] at ho
  have ho2 := ho.less BEL.out.size
  replace BEL := Lib.hid (below_trans BEL.out hb BEL.out.size)
  have KL := Lib.hid ho2
  obtain ⟨A, c, hv, _, _⟩ := own_form ho2.1
  subst hv
  rw [ofFs_length]
  clear ho ho2 hb K1 K2
  by_cases h40 : 40 < L.length
  · have h' : (40 : Int) < (L.length : Int) := by omega
    have e1 : mulRes L = [] := by unfold mulRes; rw [if_pos h40]
    have e2 : mulErr L = 2 := by unfold mulErr; rw [if_pos h40]
    have E1 := Lib.hid e1
    have E2 := Lib.hid e2
    clear h40 e1 e2
    go_wp2_with fail
    go_ret2
    rw [E1.out, E2.out]
    exact ⟨_, rfl, OwnNums.nil _ _, BEL.out⟩
  · have h' : ¬ (40 : Int) < (L.length : Int) := by omega
    have e1 : mulRes L = ofFs L := by unfold mulRes; rw [if_neg h40]
    have e2 : mulErr L = 0 := by unfold mulErr; rw [if_neg h40]
    have E1 := Lib.hid e1
    have E2 := Lib.hid e2
    clear h40 e1 e2
    go_wp2_with fail
    go_ret2
    rw [E1.out, E2.out]
    refine ⟨_, rfl, ?_, BEL.out⟩
    have h := KL.out
    rw [ofFs_length] at h
    exact h
end Go.Proofs.Ytknjcdlknnfhaaa
