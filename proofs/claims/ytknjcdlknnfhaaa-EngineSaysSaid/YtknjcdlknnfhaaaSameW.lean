/- Are two lists of lists the same? -/
import Derived.Test.YtknjcdlknnfhaaaMulW
namespace Go.Proofs.Ytknjcdlknnfhaaa
open Go.RowKit Croft

theorem eqFuncNums_any (va vb : Value) (l : List (List Int)) (w : World) (h1 : IsNumss w va l) (h2 : IsNumss w vb l) :
    Calls Try.prog 48 #[va, vb, .func (.func 49) #[] #[]] w fun e w' => e = .returned (.bool true) ∧ ∃ n, w' = w.drewN n := by
  have hcf : ∀ (x y : Value) (W : World), (callFunc 49 #[x, y]).run Try.prog W = .ok (.enter 49 #[x, y]) W := fun x y W => by kernel_rfl
  have KA := Lib.hid h1
  have KB := Lib.hid h2
  obtain ⟨A1, c1, vs1, rfl, hc1, hm1, hl1, hr1, ha1⟩ := h1
  obtain ⟨A2, c2, vs2, rfl, hc2, hm2, hl2, hr2, ha2⟩ := h2
  have HR1 := Lib.hid hr1
  have HA1 := Lib.hid ha1
  have HR2 := Lib.hid hr2
  have HA2 := Lib.hid ha2
  clear hr1 ha1 hr2 ha2 hm1 hm2 KA KB
  go_enter Try.func48, Try.ntmps48
  go_wp2_with fail
  go_loopw [17] (fun i wr => ∃ k n : Nat, k ≤ l.length ∧ i = .int .i64 k ∧ wr = w.drewN n) (fun i _ => l.length - (intOf i).toNat)
  case atStart => exact ⟨0, 0, Nat.zero_le _, rfl, rfl⟩
  case round =>
    obtain ⟨k, n, hk, rfl, rfl⟩ := hrel
    by_cases hlt : k < l.length
    · obtain ⟨b1, o1, x1, r1, rfl, hb1, hx1, hg1, hn1, hc1'⟩ := numss_at HR1.out HA1.out hlt
      obtain ⟨b2, o2, x2, r2, rfl, hb2, hx2, hg2, hn2, hc2'⟩ := numss_at HR2.out HA2.out hlt
      obtain rfl := Option.some.inj (hg1.symm.trans hg2)
      have K1 := Lib.hid (hn1.drewN n)
      have K2 := Lib.hid (hn2.drewN n)
      clear hn1 hn2 hg1 hg2 hx1 hx2 hb1 hb2
      have HC := Lib.hid (show Calls Try.prog 49 #[x1, x2] (w.drewN n) fun e w' => e = .returned (.bool true) ∧ ∃ m, w' = (w.drewN n).drewN m from by
        go_enter Try.func49, Try.ntmps49
        go_wp2_with fail
        refine (equal_any _ _ _ _ _ K1.out K2.out).mono ?_
        rintro e w' ⟨rfl, nd, rfl⟩
        rw [decide_eq_true rfl]
        try dsimp only
        go_wp2_with fail
        go_ret
        exact ⟨rfl, nd, rfl⟩)
      go_wp2_with fail
      refine HC.out.mono ?_
      rintro e w' ⟨rfl, nd, rfl⟩
      try dsimp only
      go_wp2_with fail
      exact ⟨⟨k + 1, n + nd, by omega, by go_num, by first | rfl | rw [World.drewN_drewN]⟩, by simp [intOf] <;> omega⟩
    · go_wp2_with fail
      go_ret
      exact ⟨rfl, n, rfl⟩
theorem same_any (va vb : Value) (l : List (List Int)) (w : World) (h1 : IsNumss w va l) (h2 : IsNumss w vb l) :
    Calls Try.prog 13 #[va, vb] w fun e w' => e = .returned (.bool true) ∧ ∃ n, w' = w.drewN n := by
  have C := Lib.hid (eqFuncNums_any va vb l w h1 h2)
  clear h1 h2
  go_enter Try.func13, Try.ntmps13
  go_wp2_with fail
  refine C.out.mono ?_
  rintro e w' ⟨rfl, n, rfl⟩
  go_wp2_with fail
  go_ret
  exact ⟨rfl, n, rfl⟩
theorem IsNumss.nil (w : World) : IsNumss w (.slice none 0 0) [] := (Grid.nil w 0).is
end Go.Proofs.Ytknjcdlknnfhaaa
