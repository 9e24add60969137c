/- Words of a circuit's text: what the calls return. -/
import Derived.Test.YtljpangeodgbkaaDoorFmtD
import Derived.Test.YtljpangeodgbkaaDoorTextP
import Derived.Test.YtljpangeodgbkaaDoorCircW
namespace Go.Proofs.YtljpangeodgbkaaDoor
open Go.RowKit Go.Sort Croft

/-- a string of these bytes -/
def bs (l : List UInt8) : ByteArray := ⟨l.toArray⟩
theorem bs_size (l : List UInt8) : (bs l).size = l.length := by simp [bs, ByteArray.size]
theorem bs_append (a b : List UInt8) : bs a ++ bs b = bs (a ++ b) := by
  unfold bs
  apply ByteArray.ext
  simp
set_option maxRecDepth 100000 in
theorem cWord_any (k : Int) (w : World) (h1 : 1 ≤ k) (h6 : k ≤ 6) :
    Calls Tryd.prog 31 #[.int .i64 k] w fun e w' => e = .returned (.string (bs (wordL k))) ∧ w = w' := by
  obtain rfl | rfl | rfl | rfl | rfl | rfl : k = 1 ∨ k = 2 ∨ k = 3 ∨ k = 4 ∨ k = 5 ∨ k = 6 := by omega
  · have hix : ∀ W, (Instr.index 60 (.agg #[.string ⟨#[]⟩, .string ⟨#[105, 110, 112, 117, 116]⟩, .string ⟨#[99, 111, 110, 115, 116]⟩, .string ⟨#[97, 100, 100]⟩, .string ⟨#[115, 117, 98]⟩, .string ⟨#[109, 117, 108]⟩, .string ⟨#[115, 99, 97, 108, 101]⟩]) (.int .i64 1)).run Tryd.prog W = .ok (.string ⟨#[105, 110, 112, 117, 116]⟩) W := fun W => by kernel_rfl
    go_enter Tryd.func31, Tryd.ntmps31
    go_wp2_with fail
    go_ret
    exact ⟨rfl, rfl⟩
  · have hix : ∀ W, (Instr.index 60 (.agg #[.string ⟨#[]⟩, .string ⟨#[105, 110, 112, 117, 116]⟩, .string ⟨#[99, 111, 110, 115, 116]⟩, .string ⟨#[97, 100, 100]⟩, .string ⟨#[115, 117, 98]⟩, .string ⟨#[109, 117, 108]⟩, .string ⟨#[115, 99, 97, 108, 101]⟩]) (.int .i64 2)).run Tryd.prog W = .ok (.string ⟨#[99, 111, 110, 115, 116]⟩) W := fun W => by kernel_rfl
    go_enter Tryd.func31, Tryd.ntmps31
    go_wp2_with fail
    go_ret
    exact ⟨rfl, rfl⟩
  · have hix : ∀ W, (Instr.index 60 (.agg #[.string ⟨#[]⟩, .string ⟨#[105, 110, 112, 117, 116]⟩, .string ⟨#[99, 111, 110, 115, 116]⟩, .string ⟨#[97, 100, 100]⟩, .string ⟨#[115, 117, 98]⟩, .string ⟨#[109, 117, 108]⟩, .string ⟨#[115, 99, 97, 108, 101]⟩]) (.int .i64 3)).run Tryd.prog W = .ok (.string ⟨#[97, 100, 100]⟩) W := fun W => by kernel_rfl
    go_enter Tryd.func31, Tryd.ntmps31
    go_wp2_with fail
    go_ret
    exact ⟨rfl, rfl⟩
  · have hix : ∀ W, (Instr.index 60 (.agg #[.string ⟨#[]⟩, .string ⟨#[105, 110, 112, 117, 116]⟩, .string ⟨#[99, 111, 110, 115, 116]⟩, .string ⟨#[97, 100, 100]⟩, .string ⟨#[115, 117, 98]⟩, .string ⟨#[109, 117, 108]⟩, .string ⟨#[115, 99, 97, 108, 101]⟩]) (.int .i64 4)).run Tryd.prog W = .ok (.string ⟨#[115, 117, 98]⟩) W := fun W => by kernel_rfl
    go_enter Tryd.func31, Tryd.ntmps31
    go_wp2_with fail
    go_ret
    exact ⟨rfl, rfl⟩
  · have hix : ∀ W, (Instr.index 60 (.agg #[.string ⟨#[]⟩, .string ⟨#[105, 110, 112, 117, 116]⟩, .string ⟨#[99, 111, 110, 115, 116]⟩, .string ⟨#[97, 100, 100]⟩, .string ⟨#[115, 117, 98]⟩, .string ⟨#[109, 117, 108]⟩, .string ⟨#[115, 99, 97, 108, 101]⟩]) (.int .i64 5)).run Tryd.prog W = .ok (.string ⟨#[109, 117, 108]⟩) W := fun W => by kernel_rfl
    go_enter Tryd.func31, Tryd.ntmps31
    go_wp2_with fail
    go_ret
    exact ⟨rfl, rfl⟩
  · have hix : ∀ W, (Instr.index 60 (.agg #[.string ⟨#[]⟩, .string ⟨#[105, 110, 112, 117, 116]⟩, .string ⟨#[99, 111, 110, 115, 116]⟩, .string ⟨#[97, 100, 100]⟩, .string ⟨#[115, 117, 98]⟩, .string ⟨#[109, 117, 108]⟩, .string ⟨#[115, 99, 97, 108, 101]⟩]) (.int .i64 6)).run Tryd.prog W = .ok (.string ⟨#[115, 99, 97, 108, 101]⟩) W := fun W => by kernel_rfl
    go_enter Tryd.func31, Tryd.ntmps31
    go_wp2_with fail
    go_ret
    exact ⟨rfl, rfl⟩
/-- strconv.Itoa at a number that isn't negative -/
theorem itoa_nat (z : Int) (w : World) (h0 : 0 ≤ z) (h1 : z ≤ 9223372036854775807) (htab : Lib.TabIs Tryd.prog w "internal/strconv.uint64pow10" .u64 Lib.pow10Tab) :
    Calls Tryd.prog 32 #[.int .i64 z] w fun e w' => e = .returned (.string (bs (numL z))) ∧ ∃ k os, w' = grow (w.drewN k) os := by
  obtain ⟨u, rfl⟩ : ∃ u : Nat, z = u := ⟨z.toNat, by omega⟩
  refine (sh_strconv_Itoa u (by omega) h1 w htab).mono fun e w' hh => ?_
  obtain ⟨rfl, hw⟩ := hh
  rw [Lib.itoa_nonneg]
  exact ⟨rfl, hw⟩
theorem fmt_nat (z : Int) (w : World) (h0 : 0 ≤ z) (h1 : z < 18446744073709551616) (htab : Lib.TabIs Tryd.prog w "internal/strconv.uint64pow10" .u64 Lib.pow10Tab) :
    Calls Tryd.prog 33 #[.int .u64 z, .int .i64 10] w fun e w' => e = .returned (.string (bs (numL z))) ∧ ∃ k os, w' = grow (w.drewN k) os := by
  obtain ⟨u, rfl⟩ : ∃ u : Nat, z = u := ⟨z.toNat, by omega⟩
  refine (fmtUint_any u (by omega) w htab).mono fun e w' hh => ?_
  obtain ⟨rfl, hw⟩ := hh
  exact ⟨rfl, hw⟩
/-- new blocks and draws leave what was -/
theorem below_grow (w : World) (k : Nat) (os : Array Obj) : Below w.heap.size w (grow (w.drewN k) os) := by
  refine ⟨rfl, rfl, rfl, ?_, fun i hi => ?_⟩
  · simp [grow]
  · simp [grow, Array.getElem?_append_left hi]
/-- a listed table stands -/
theorem tab_below {w w' : World} {name : String} {k : IntKind} {zs : List Int} (h : Lib.TabIs Tryd.prog w name k zs) (hb : Below w.heap.size w w') : Lib.TabIs Tryd.prog w' name k zs := by
  unfold Lib.TabIs World.var? at *
  cases hg : Tryd.prog.globalNamed name with
  | none => simp [hg] at h
  | some g =>
    simp only [hg, Option.bind_some] at h ⊢
    have hlt : g < w.heap.size := by
      rcases Nat.lt_or_ge g w.heap.size with h' | h'
      · exact h'
      · rw [Array.getElem?_eq_none h'] at h; simp at h
    rw [hb.block g hlt]
    exact h
end Go.Proofs.YtljpangeodgbkaaDoor
