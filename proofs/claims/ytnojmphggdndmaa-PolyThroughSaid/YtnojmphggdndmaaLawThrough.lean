/- The law PolyThrough, walked. -/
import Derived.Test.YtnojmphggdndmaaThroughR
namespace Go.Proofs.Ytnojmphggdndmaa
open Go.RowKit Croft

set_option maxRecDepth 100000 in
set_option maxHeartbeats 1000000 in
theorem polyThrough_a (va : Value) (l : List (Int × Int)) (w : World) (h1 : IsShares w va l) (hl : 40 < l.length) :
    Calls Try.prog 10 #[va] w fun e w' => e = .returned (.bool true) ∧ Below w.heap.size w w' := by
  have KA := Lib.hid h1
  have BEL := Lib.hid (Below.refl w.heap.size w)
  obtain ⟨A1, c1, rfl, hc1, hm1, hl1, hu1, hr1⟩ := h1
  clear hu1 hr1 hm1
  have hl2 : (40 : Int) < (l.length : Int) := by omega
  go_enter Try.func10, Try.ntmps10
  go_wp2_with fail
  refine (pThrough_big _ _ _ KA.out hl).mono ?_
  rintro e W1 ⟨vT, rfl, ho, hb⟩
  obtain ⟨A, c, hv, _, _⟩ := own_form ho.1
  subst hv
  simp only [List.length_nil]
  try dsimp only
  replace KA := Lib.hid (KA.out.below hb)
  replace BEL := Lib.hid (below_trans BEL.out hb BEL.out.size)
  clear ho hb
  go_wp2_with fail
  go_ret
  exact ⟨rfl, BEL.out⟩
set_option maxRecDepth 100000 in
set_option maxHeartbeats 1000000 in
theorem polyThrough_b (va : Value) (l : List (Int × Int)) (w : World) (h1 : IsShares w va l) (hl : l.length ≤ 40) (hok : ¬ AtsOk l 2147483646) :
    Calls Try.prog 10 #[va] w fun e w' => e = .returned (.bool true) ∧ Below w.heap.size w w' := by
  have KA := Lib.hid h1
  have BEL := Lib.hid (Below.refl w.heap.size w)
  obtain ⟨A1, c1, rfl, hc1, hm1, hl1, hu1, hr1⟩ := h1
  clear hu1 hr1 hm1
  have hl2 : ¬ (40 : Int) < (l.length : Int) := by omega
  have HO := Lib.hid hok
  clear hok
  go_enter Try.func10, Try.ntmps10
  go_wp2_with fail
  refine (pThrough_small _ _ _ KA.out hl).mono ?_
  rintro e W1 hh
  obtain ⟨vT, rfl, ho, hb⟩ := hh.2 HO.out
  clear hh
  obtain ⟨A, c, hv, _, _⟩ := own_form ho.1
  subst hv
  simp only [List.length_nil]
  try dsimp only
  replace KA := Lib.hid (KA.out.below hb)
  replace BEL := Lib.hid (below_trans BEL.out hb BEL.out.size)
  clear ho hb
  go_wp2_with fail
  refine (rAts_any _ _ _ _ KA.out).mono ?_
  rintro e w' ⟨rfl, nd, rfl⟩
  rw [show atsB l 2147483646 = false from decide_eq_false HO.out]
  try dsimp only
  have hb := below_drewN (Below.refl W1.heap.size W1) nd
  replace KA := Lib.hid (KA.out.below hb)
  replace BEL := Lib.hid (below_trans BEL.out hb BEL.out.size)
  clear hb
  generalize hW : W1.drewN nd = W2 at *
  clear hW
  go_wp2_with fail
  go_ret
  exact ⟨rfl, BEL.out⟩
set_option maxRecDepth 100000 in
set_option maxHeartbeats 1000000 in
theorem polyThrough_c (va : Value) (l : List (Int × Int)) (w : World) (h1 : IsShares w va l) (hl : l.length ≤ 40) (hok : AtsOk l 2147483646) :
    Calls Try.prog 10 #[va] w fun e w' => e = .returned (.bool true) ∧ Below w.heap.size w w' := by
  have KA := Lib.hid h1
  have BEL := Lib.hid (Below.refl w.heap.size w)
  obtain ⟨A1, c1, rfl, hc1, hm1, hl1, hu1, hr1⟩ := h1
  clear hu1 hr1 hm1
  have hl2 : ¬ (40 : Int) < (l.length : Int) := by omega
  have HO := Lib.hid hok
  clear hok
  go_enter Try.func10, Try.ntmps10
  go_wp2_with fail
  refine (pThrough_small _ _ _ KA.out hl).mono ?_
  rintro e W1 hh
  obtain ⟨Q, hQ, vT, rfl, ho, hb⟩ := hh.1 HO.out
  clear hh
  have HQ := Lib.hid hQ
  clear hQ
  try dsimp only
  replace KA := Lib.hid (KA.out.below hb)
  replace BEL := Lib.hid (below_trans BEL.out hb BEL.out.size)
  have KT := Lib.hid ho.is
  clear ho hb
  go_wp2_with fail
  refine (rAts_any _ _ _ _ KA.out).mono ?_
  rintro e w' ⟨rfl, nd, rfl⟩
  rw [show atsB l 2147483646 = true from decide_eq_true HO.out]
  try dsimp only
  have hb := below_drewN (Below.refl W1.heap.size W1) nd
  replace KA := Lib.hid (KA.out.below hb)
  replace KT := Lib.hid (KT.out.below hb)
  replace BEL := Lib.hid (below_trans BEL.out hb BEL.out.size)
  clear hb
  generalize hW : W1.drewN nd = W2 at *
  clear hW
  go_wp2_with fail
  refine (rThrough_any _ _ _ KA.out hl HO.out).mono ?_
  rintro e W3 ⟨vR, Q2, rfl, hQ2, ho, hb⟩
  obtain rfl := HQ.out.unique (pts_nodup HO.out) hQ2
  clear hQ2
  try dsimp only
  replace KA := Lib.hid (KA.out.below hb)
  replace KT := Lib.hid (KT.out.below hb)
  replace BEL := Lib.hid (below_trans BEL.out hb BEL.out.size)
  have R := Lib.hid (ho.is)
  clear ho hb
  go_wp2_with fail
  refine (equal_any _ _ _ _ _ KT.out R.out).mono ?_
  rintro e w' ⟨rfl, nd, rfl⟩
  rw [decide_eq_true rfl]
  try dsimp only
  have hb := below_drewN (Below.refl W3.heap.size W3) nd
  replace KA := Lib.hid (KA.out.below hb)
  replace KT := Lib.hid (KT.out.below hb)
  replace R := Lib.hid (R.out.below hb)
  replace BEL := Lib.hid (below_trans BEL.out hb BEL.out.size)
  clear hb
  generalize hW : W3.drewN nd = W4 at *
  clear hW
  go_wp2_with fail
  go_ret
  exact ⟨rfl, BEL.out⟩
theorem polyThrough_any (va : Value) (l : List (Int × Int)) (w : World) (h1 : IsShares w va l) :
    Calls Try.prog 10 #[va] w fun e w' => e = .returned (.bool true) ∧ Below w.heap.size w w' := by
  by_cases hl : 40 < l.length
  · exact polyThrough_a _ _ _ h1 hl
  · by_cases hok : AtsOk l 2147483646
    · exact polyThrough_c _ _ _ h1 (by omega) hok
    · exact polyThrough_b _ _ _ h1 (by omega) hok
end Go.Proofs.Ytnojmphggdndmaa
