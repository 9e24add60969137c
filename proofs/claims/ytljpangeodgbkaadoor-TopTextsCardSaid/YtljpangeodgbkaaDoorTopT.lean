/- What parties reckon together: the small example; crews. -/
import Derived.Test.YtljpangeodgbkaaDoorEngU
import Derived.Test.YtljpangeodgbkaaDoorCircX
import Derived.Test.YtljpangeodgbkaaDoorKeepW
namespace Go.Proofs.YtljpangeodgbkaaDoor
open Go.RowKit Croft

def tinyT : List Gt := [⟨1, 1, 0, 0⟩, ⟨1, 2, 0, 0⟩, ⟨6, 0, 0, 3⟩, ⟨3, 2, 1, 0⟩]
theorem gcs_tinyT : (gcs tinyT) = [.int .i64 1, .int .i64 1, .int .i64 0, .int .u64 0, .int .i64 1, .int .i64 2, .int .i64 0, .int .u64 0, .int .i64 6, .int .i64 0, .int .i64 0, .int .u64 3, .int .i64 3, .int .i64 2, .int .i64 1, .int .u64 0] := rfl
theorem tTiny_any (w : World) : Calls Tryd.prog 37 #[] w fun e w' => ∃ v, e = .returned v ∧ IsCirc w' v tinyT [3] ∧ Below w.heap.size w w' := by
  have k1 := (lit_gates (w.alloc (.cells #[.slice (some ⟨w.heap.size + 1, 0, none⟩) 4 4, .slice (some ⟨w.heap.size + 1 + 1, 0, none⟩) 1 1] 25)) tinyT (by unfold tinyT GateOk I64 U64; simp) (by simp [tinyT])).below ((Below.refl _ _).alloc (Nat.le_refl _) (.cells #[.int .i64 3] 3))
  have k2 := lit_ints ((w.alloc (.cells #[.slice (some ⟨w.heap.size + 1, 0, none⟩) 4 4, .slice (some ⟨w.heap.size + 1 + 1, 0, none⟩) 1 1] 25)).alloc (.cells (gcs tinyT).toArray 62)) [3] (by unfold I64; simp) (by simp)
  have kb := (((Below.refl w.heap.size w).alloc (Nat.le_refl _) (.cells #[.slice (some ⟨w.heap.size + 1, 0, none⟩) 4 4, .slice (some ⟨w.heap.size + 1 + 1, 0, none⟩) 1 1] 25)).alloc (by simp) (.cells (gcs tinyT).toArray 62)).alloc (by simp; omega) (.cells #[.int .i64 3] 3)
  rw [gcs_tinyT, size_alloc] at k1
  rw [gcs_tinyT, size_alloc, size_alloc] at k2
  rw [gcs_tinyT] at kb
  have K1 := Lib.hid k1
  have K2 := Lib.hid k2
  have KB := Lib.hid kb
  clear k1 k2 kb
  go_enter Tryd.func37, Tryd.ntmps37
  go_wp2_with fail
  exact bodyPost_ret (v := .agg #[.slice (some ⟨w.heap.size + 1, 0, none⟩) 4 4, .slice (some ⟨w.heap.size + 1 + 1, 0, none⟩) 1 1]) (by simp [results, Tryd.results37, go_sem]) rfl ⟨_, rfl, ⟨_, _, rfl, K1.out, K2.out⟩, KB.out⟩
theorem tiny_crew : crewE tinyT [3] (3 : Nat) (1 : Nat) = 0 := by decide +kernel
theorem tiny_dat : dat 3 1 tinyT 4 = 2 := by decide +kernel
theorem tiny_out : ofFs (couts tinyT [3] (toFs [5, 6])) = [21] := by decide +kernel
theorem tiny_seen : ofFs (eo 3 1 tinyT [3] (toFs [5, 6]) (toFs [1, 2]) 1 1) = [7, 10, 26, 31, 36] := by decide +kernel
set_option maxRecDepth 100000 in
theorem tSaid_any (w : World) : Calls Tryd.prog 11 #[] w fun e w' => e = .returned (.bool true) ∧ Below w.heap.size w w' := by
  suffices hgoal : ∀ Post : Ending → World → Prop, (∀ w', Below w.heap.size w w' → Post (.returned (.bool true)) w') → Calls Tryd.prog 11 #[] w Post from hgoal _ fun w' h => ⟨rfl, h⟩
  intro Post hp
  have HP := Lib.hid hp
  clear hp
  go_enter Tryd.func11, Tryd.ntmps11
  go_wp2_with fail
  refine (tTiny_any _).mono ?_
  rintro e W1 ⟨v, rfl, hc, hb⟩
  obtain ⟨W2, hW2⟩ : ∃ W2, W2 = (W1.alloc (.cells #[.int .u64 5, .int .u64 6] 46)).alloc (.cells #[.int .u64 1, .int .u64 2] 46) := ⟨_, rfl⟩
  have b1 : Below W1.heap.size W1 (W1.alloc (.cells #[.int .u64 5, .int .u64 6] 46)) := (Below.refl _ _).alloc (Nat.le_refl _) _
  have b2 : Below W1.heap.size W1 W2 := by rw [hW2]; exact b1.alloc b1.size _
  have k1 : IsNums W2 (.slice (some ⟨W1.heap.size, 0, none⟩) 2 2) [5, 6] := by
    rw [hW2]
    exact (lit_nums W1 [5, 6] (by unfold U64; simp) (by simp)).below ((Below.refl _ _).alloc (Nat.le_refl _) _)
  have k2 : IsNums W2 (.slice (some ⟨W1.heap.size + 1, 0, none⟩) 2 2) [1, 2] := by
    rw [hW2]
    have h := lit_nums (W1.alloc (.cells #[.int .u64 5, .int .u64 6] 46)) [1, 2] (by unfold U64; simp) (by simp)
    rw [size_alloc] at h
    exact h
  have C := Lib.hid (show Calls Tryd.prog 14 #[v, .int .i64 3, .int .i64 1, .slice (some ⟨W1.heap.size, 0, none⟩) 2 2, .slice (some ⟨W1.heap.size + 1, 0, none⟩) 2 2] W2 _ from eRun_ok v _ _ tinyT [3] [5, 6] [1, 2] 3 1 W2 (hc.below b2) k1 k2 tiny_crew rfl tiny_dat.symm)
  rw [tiny_out] at C
  have BEL := Lib.hid (hb.trans (b2.mono hb.size))
  clear hc hb b1 b2 k1 k2
  try dsimp only
  go_wp2_with (rw [← hW2]; refine C.out.mono ?_; rintro e W3 ⟨vo, g, vss, rfl, ho, hg, _, hb3⟩; have KO := Lib.hid ho; have KG := Lib.hid hg; have B3 := Lib.hid (below_trans BEL.out hb3 BEL.out.size); clear ho hg hb3; try dsimp only)
  obtain ⟨x, hx⟩ : ∃ x, vss[1]? = some x := ⟨_, List.getElem?_eq_getElem (by rw [KG.out.vlen, rowsN_length]; omega)⟩
  have hrow := KG.out.row 1 x _ hx (rowsN_get _ (by omega))
  rw [List.length_singleton, tiny_seen] at hrow
  have hcx := KG.out.cell hx
  have hgl := (KG.out.outer.lt g rfl).2
  have L1 := lit_nums W3 [21] (by unfold U64; simp) (by simp)
  refine (equal_any _ _ [21] [21] _ (KO.out.is.alloc _) L1).mono ?_
  rintro e W4 ⟨rfl, m, hW4⟩
  have b4 : Below W3.heap.size W3 W4 := by rw [hW4]; exact below_drewN ((Below.refl _ _).alloc (Nat.le_refl _) _) _
  have hcx4 := (b4.cell (p := ⟨g, 1, none⟩) hgl).trans hcx
  have K4 := Lib.hid (hrow.is.below b4)
  have B4 := Lib.hid (below_trans B3.out b4 B3.out.size)
  have h21 : decide ([(21 : Int)] = [21]) = true := rfl
  rw [h21]
  clear hx hrow hcx L1 b4 hW4 h21 hgl
  try dsimp only
  go_wp2_with fail
  have L2 := lit_nums W4 [7, 10, 26, 31, 36] (by unfold U64; simp) (by simp)
  refine (equal_any _ _ [7, 10, 26, 31, 36] [7, 10, 26, 31, 36] _ (K4.out.alloc _) L2).mono ?_
  rintro e W5 ⟨rfl, m, hW5⟩
  have h21 : decide ([(7 : Int), 10, 26, 31, 36] = [7, 10, 26, 31, 36]) = true := rfl
  rw [h21]
  have B5 := Lib.hid (show Below w.heap.size w W5 by rw [hW5]; exact below_drewN (B4.out.alloc B4.out.size _) _)
  clear hW5 L2 h21
  try dsimp only
  go_wp2_with fail
  exact HP.out _ B5.out
end Go.Proofs.YtljpangeodgbkaaDoor
namespace Go.Proofs.YtljpangeodgbkaaDoor
open Go.RowKit Go.Maps Croft

end Go.Proofs.YtljpangeodgbkaaDoor
