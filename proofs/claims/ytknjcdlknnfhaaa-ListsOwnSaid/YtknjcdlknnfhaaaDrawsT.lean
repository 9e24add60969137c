/- A run, whatever is drawn: the small example; as many numbers for each. -/
import Derived.Test.YtknjcdlknnfhaaaEngU
import Derived.Test.YtknjcdlknnfhaaaCircX
import Derived.Test.YtknjcdlknnfhaaaKeepW
namespace Go.Proofs.Ytknjcdlknnfhaaa
open Go.RowKit Croft

theorem tinyG_crew : crewE tinyG [4] (3 : Nat) (1 : Nat) = 0 := by decide +kernel
theorem tinyG_dat : dat 3 1 tinyG 5 = 5 := by decide +kernel
theorem tinyG_out : ofFs (couts tinyG [4] (toFs [3, 4])) = [19] := by decide +kernel
def tinyS : List Int := ofFs (eo 3 1 tinyG [4] (toFs [3, 4]) (toFs [1, 2, 3, 4, 5]) 1 0)
theorem tinyS_len : tinyS.length = 8 := by decide +kernel
theorem tinyS_0 : tinyS[0]? = some 4 := by decide +kernel
set_option maxRecDepth 100000 in
theorem kWorked_any (w : World) : Calls Try.prog 15 #[] w fun e w' => e = .returned (.bool true) ∧ Below w.heap.size w w' := by
  suffices hgoal : ∀ Post : Ending → World → Prop, (∀ w', Below w.heap.size w w' → Post (.returned (.bool true)) w') → Calls Try.prog 15 #[] w Post from hgoal _ fun w' h => ⟨rfl, h⟩
  intro Post hp
  have HP := Lib.hid hp
  clear hp
  go_enter Try.func15, Try.ntmps15
  go_wp2_with fail
  refine (kTiny_any _).mono ?_
  rintro e W1 ⟨v, rfl, hc, hb⟩
  obtain ⟨W2, hW2⟩ : ∃ W2, W2 = (W1.alloc (.cells #[.int .u64 3, .int .u64 4] 39)).alloc (.cells #[.int .u64 1, .int .u64 2, .int .u64 3, .int .u64 4, .int .u64 5] 39) := ⟨_, rfl⟩
  have b1 : Below W1.heap.size W1 (W1.alloc (.cells #[.int .u64 3, .int .u64 4] 39)) := (Below.refl _ _).alloc (Nat.le_refl _) _
  have b2 : Below W1.heap.size W1 W2 := by rw [hW2]; exact b1.alloc b1.size _
  have k1 : IsNums W2 (.slice (some ⟨W1.heap.size, 0, none⟩) 2 2) [3, 4] := by
    rw [hW2]
    exact (lit_nums W1 [3, 4] (by unfold U64; simp) (by simp)).below ((Below.refl _ _).alloc (Nat.le_refl _) _)
  have k2 : IsNums W2 (.slice (some ⟨W1.heap.size + 1, 0, none⟩) 5 5) [1, 2, 3, 4, 5] := by
    rw [hW2]
    have h := lit_nums (W1.alloc (.cells #[.int .u64 3, .int .u64 4] 39)) [1, 2, 3, 4, 5] (by unfold U64; simp) (by simp)
    rw [size_alloc] at h
    exact h
  have C := Lib.hid (show Calls Try.prog 11 #[v, .int .i64 3, .int .i64 1, .slice (some ⟨W1.heap.size, 0, none⟩) 2 2, .slice (some ⟨W1.heap.size + 1, 0, none⟩) 5 5] W2 _ from eRun_ok v _ _ tinyG [4] [3, 4] [1, 2, 3, 4, 5] 3 1 W2 (hc.below b2) k1 k2 tinyG_crew rfl tinyG_dat.symm)
  rw [tinyG_out] at C
  have BEL := Lib.hid (hb.trans (b2.mono hb.size))
  clear hc hb b1 b2 k1 k2
  try dsimp only
  go_wp2_with (rw [← hW2]; refine C.out.mono ?_; rintro e W3 ⟨vo, g, vss, rfl, ho, hg, _, hb3⟩; have KO := Lib.hid ho; have KG := Lib.hid hg; have B3 := Lib.hid (below_trans BEL.out hb3 BEL.out.size); clear ho hg hb3; try dsimp only)
  obtain ⟨x, hx⟩ : ∃ x, vss[0]? = some x := ⟨_, List.getElem?_eq_getElem (by rw [KG.out.vlen, rowsN_length]; omega)⟩
  have hrow : OwnNums W3 W2.heap.size x tinyS := KG.out.row 0 x _ hx (rowsN_get _ (by omega))
  have hcx := KG.out.cell hx
  have hgl := (KG.out.outer.lt g rfl).2
  obtain ⟨gx, cx, hvx, _, hgx⟩ := own_slice hrow.1 (by rw [tinyS_len]; omega)
  rw [tinyS_len] at hvx
  subst hvx
  have hc0 := hrow.cell tinyS_0
  have L1 := lit_nums W3 [19] (by unfold U64; simp) (by simp)
  refine (equal_any _ _ [19] [19] _ (KO.out.is.alloc _) L1).mono ?_
  rintro e W4 ⟨rfl, m, hW4⟩
  have b4 : Below W3.heap.size W3 W4 := by rw [hW4]; exact below_drewN ((Below.refl _ _).alloc (Nat.le_refl _) _) _
  have hcx4 := (b4.cell (p := ⟨g, 0, none⟩) hgl).trans hcx
  have hc04 := (b4.cell (p := ⟨gx, 0, none⟩) hgx).trans hc0
  have B4 := Lib.hid (below_trans B3.out b4 B3.out.size)
  have h21 : decide ([(19 : Int)] = [19]) = true := rfl
  rw [h21]
  clear hx hrow hcx L1 b4 hW4 h21 hgl hc0
  try dsimp only
  go_wp2_with fail
  exact HP.out _ B4.out
end Go.Proofs.Ytknjcdlknnfhaaa
