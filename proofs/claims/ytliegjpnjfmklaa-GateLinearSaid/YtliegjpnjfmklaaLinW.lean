/- The closure of the law GateLinear: what it does. -/
import Derived.Test.YtliegjpnjfmklaaShamK
import Derived.Test.YtliegjpnjfmklaaKeepW
import Derived.Test.YtliegjpnjfmklaaBox
import Derived.Deep.RegionHeld3
namespace Go.Proofs.Ytliegjpnjfmklaa
open Go.RowKit Croft

set_option maxRecDepth 100000 in
set_option maxHeartbeats 2000000 in
theorem linIs_any (v : Value) (M : List F) (z : F) (T N bt bo : Nat) (w : World) (h1 : IsNums w v (ofFs M)) (hS : Shared N T M z) (hT : T ≤ 4) (hN1 : 2 * T + 1 ≤ N) (hN2 : N ≤ 9) (hl : (ofFs M).length = N)
    (ht : Box w bt 3 [.int .i64 T]) (ho : Box w bo 4 [.bool true]) :
    Calls Try.prog 56 #[v, .int .i64 0, .int .u64 (ofF z), .pointer (some ⟨bt, 0, none⟩), .pointer (some ⟨bo, 0, none⟩)] w fun e w' => e = .returned (.tuple #[]) ∧ ∃ W6, Below w.heap.size w W6 ∧ w' = W6.setCell ⟨bo, 0, none⟩ (.bool true) := by
  have BT := Lib.hid ht
  have BO := Lib.hid ho
  have hct := ht.cell (i := 0) rfl
  obtain ⟨Q, hQ, hQl, hQ0⟩ := open_shared hS (show T + 1 ≤ N by omega)
  have HX := Lib.hid (show openX T Q = ofF z by unfold openX; rw [if_neg (by omega), hQ0])
  have HE := Lib.hid (show openE T Q = 0 from if_neg (by omega))
  have HQ := Lib.hid (show Interp (ptsF (shL (ofFs M))) Q by rw [shL_pts, hl, toFs_ofFs]; exact hQ)
  have HC := Lib.hid (shL_ok (zs := ofFs M) hT (by omega) (by omega))
  have HL := Lib.hid hl
  have hd := below_drewN (Below.refl w.heap.size w) 1
  have KA1 := Lib.hid (h1.below hd)
  have BD := Lib.hid hd
  clear hQ hQl hQ0 h1 hS hl ht ho hd
  go_enter Try.func56, Try.ntmps56
  go_wp2_with fail
  go_region_held3 (fun w' => w'.cell? ⟨bt, 0, none⟩ = some (.int .i64 T)) (go_keep) (first | (go_at_call 40; refine (kShares_any _ _ _ KA1.out (by rw [HL.out]; omega)).mono ?_; rintro e w5 ⟨vs, rfl, ho5, hb5⟩; have q0 := ((BT.out.below BD.out).below hb5).cell (i := 0) rfl) | (go_at_call 41; refine (sOpen_ok T _ _ Q _ ho5.is HC.out HQ.out).mono ?_; rintro e w6 ⟨rfl, hb6⟩; have q1 := (((BT.out.below BD.out).below hb5).below hb6).cell (i := 0) rfl; rw [HX.out, HE.out]))
  have hb := below_trans BD.out (below_trans hb5 hb6 hb5.size) BD.out.size
  have BO6 := Lib.hid (BO.out.below hb)
  have hco := BO6.out.cell (i := 0) rfl
  have hcf := BO6.out.frozen 0
  have HB := Lib.hid hb
  clear hb ho5 hb5 hb6 q0 q1 hct
  go_wp2_with fail
  refine bodyPost_end (results_none rfl _ _ _) rfl ?_
  exact ⟨rfl, w6, HB.out, rfl⟩
end Go.Proofs.Ytliegjpnjfmklaa
