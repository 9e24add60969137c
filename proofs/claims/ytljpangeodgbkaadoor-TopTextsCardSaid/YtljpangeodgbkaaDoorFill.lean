/- A list filled up to a length: what the helpers return. -/
import Derived.Test.YtljpangeodgbkaaDoorBox
import Derived.Test.YtljpangeodgbkaaDoorThroughW
import Derived.Laws.CopyOwn
namespace Go.Proofs.YtljpangeodgbkaaDoor
open Go.RowKit Croft

def fillL (xs : List Int) (n : Nat) : List Int := xs.take n ++ List.replicate (n - xs.length) 0
theorem fillL_length (xs : List Int) (n : Nat) : (fillL xs n).length = n := by simp [fillL]; omega
theorem fillL_u64 {xs : List Int} (h : ∀ z ∈ xs, U64 z) (n : Nat) : ∀ z ∈ fillL xs n, U64 z := by
  intro z hz
  rcases List.mem_append.1 hz with h1 | h1
  · exact h z (List.mem_of_mem_take h1)
  · rw [List.eq_of_mem_replicate h1]; exact u64_zero
theorem OwnNums.box {w : World} {base g n : Nat} {zs : List Int} (h : OwnNums w base (.slice (some ⟨g, 0, none⟩) n n) zs) : Box w g 46 (u64s zs) := by
  rcases h.1.2 with ⟨hv, _⟩ | ⟨g', cap, cur, hv, hb, hg, hn, hc, hs, ht⟩
  · simp at hv
  · injection hv with h1 h2 h3
    injection h1 with h1
    injection h1 with h1
    subst h1
    have hcl : cur.toList = u64s zs := by
      rw [← ht, List.take_of_length_le]
      simp only [Array.length_toList]
      omega
    unfold Box
    rw [hg, ← hcl]
theorem Box.own {w : World} {base g : Nat} {zs : List Int} (h : Box w g 46 (u64s zs)) (hb : base ≤ g) (hl : zs.length ≤ 17592186043904) (hz : ∀ z ∈ zs, U64 z) : OwnNums w base (.slice (some ⟨g, 0, none⟩) zs.length zs.length) zs := by
  refine ⟨⟨by rw [u64s_length]; omega, .inr ⟨g, zs.length, (u64s zs).toArray, rfl, hb, h, Nat.le_refl _, by unfold maxLen; omega, by simp [u64s_length], ?_⟩⟩, hl, hz⟩
  exact List.take_of_length_le (by simp [u64s_length])
/-- make([]uint64, m), as an equation -/
theorem mk_nums (m : Nat) (hm : m ≤ 1000) : ∃ Z : Array Value, (∀ W : World, (Instr.makeSlice 35 (.int .i64 m) (.int .i64 m)).run Tryd.prog W = .ok (.slice (some ⟨W.heap.size, 0, none⟩) m m) (W.alloc (.cells Z 46))) ∧
    ∀ (W : World) (base : Nat), base ≤ W.heap.size → OwnNums (W.alloc (.cells Z 46)) base (.slice (some ⟨W.heap.size, 0, none⟩) m m) (List.replicate m 0) := by
  obtain ⟨i0, hi, hz0, hz1, hz2⟩ := info_parts uinfo
  refine ⟨madeCells (Value.cells (.int .u64 0)) (m * 1), fun W => ?_, fun W base hb => ?_⟩
  · have h := run_make (P := Tryd.prog) W 35 46 i0 (.int .u64 0) Tryd.underlying35 hi hz0 .i64 .i64 m m (by omega) (by omega) (by rw [hz2]; omega) (by omega)
    rw [Int.toNat_natCast, hz1] at h
    exact h
  · have e : madeCells (Value.cells (.int .u64 0)) (m * 1) = (u64s (List.replicate m 0)).toArray := by
      apply Array.ext'
      apply List.ext_getElem
      · simp [madeCells, u64s]
      · intro j h1 h2
        simp [madeCells, Value.cells, u64s, Nat.mod_one]
    rw [e]
    have h := lit_own W base (List.replicate m 0) (fun z hz => by rw [List.eq_of_mem_replicate hz]; exact u64_zero) (by simp; omega) hb
    rw [List.length_replicate] at h
    exact h
theorem size_one : (Tryd.prog.info? 46).map (·.size) = some 1 := by kernel_rfl
theorem splice_fill (xs : List Int) (n : Nat) : splice (u64s (List.replicate n 0)) 0 (u64s (xs.take n)) = u64s (fillL xs n) := by
  unfold splice fillL u64s
  simp only [List.take_zero, List.nil_append, Nat.zero_add, List.length_map, List.map_append]
  congr 1
  rw [← List.map_drop, List.drop_replicate, List.length_take]
  congr 2
  omega
set_option maxRecDepth 100000 in
theorem tFilled_any (va : Value) (xs : List Int) (n : Nat) (w : World) (h1 : IsNums w va xs) (hn : n ≤ 4000) :
    Calls Tryd.prog 15 #[va, .int .i64 n] w fun e w' => ∃ v, e = .returned v ∧ OwnNums w' w.heap.size v (fillL xs n) ∧ Below w.heap.size w w' := by
  have KA := Lib.hid h1
  obtain ⟨A1, c1, rfl, hc1, hm1, hl1, hu1, hr1⟩ := h1
  have HU := Lib.hid hu1
  clear hu1 hr1 hm1
  go_enter Tryd.func15, Tryd.ntmps15
  go_wp2_with (refine wpList_make_nums rfl _ _ rfl w.heap.size _ n rfl rfl rfl (by omega) (Nat.le_refl _) ?_)
  intro W1 ho hb
  have BX := Lib.hid ho.box
  have BEL := Lib.hid hb
  have KA1 := Lib.hid (KA.out.below hb)
  obtain ⟨Z, hZ⟩ : ∃ Z, Z = u64s (List.replicate n 0) := ⟨_, rfl⟩
  obtain ⟨C, hC⟩ : ∃ C, C = u64s (xs.take n) := ⟨_, rfl⟩
  rw [← hZ] at BX
  have HZ := Lib.hid hZ
  have HC := Lib.hid hC
  have HCL := Lib.hid (show C.length = Nat.min xs.length n by rw [hC, u64s_length, List.length_take]; exact Nat.min_comm _ _)
  clear ho hb hZ hC
  go_wp2_with (refine wpList_copy_splice (o := ⟨some 10, _, _, _, _, _⟩) rfl _ _ _ _ rfl 46 Tryd.underlying35 size_one (some ⟨w.heap.size, 0, none⟩) A1 n n xs.length c1 rfl rfl w.heap.size 0 Z 46 BX.out C HCL.out ?c1 ?c2 ?c3 w.heap.size w BEL.out (Nat.le_refl _) ?_)
  case c1 =>
    intro h0
    obtain ⟨A, c, hA, _, _, _, hu, hr⟩ := KA1.out
    injection hA with hA1 hA2 hA3
    subst hA1
    have hxl : 0 < xs.length := by
      rw [HCL.out] at h0
      exact Nat.lt_of_lt_of_le h0 (Nat.min_le_left _ _)
    obtain ⟨b, o, rfl, hb, hc⟩ := hr.at_ (j := 0) (by rw [u64s_length]; exact hxl)
    refine ⟨_, rfl, fun j v hj => ?_⟩
    have hj2 := (List.getElem?_eq_some_iff.1 hj).1
    rw [HCL.out] at hj2
    have hjx : j < xs.length := Nat.lt_of_lt_of_le hj2 (Nat.min_le_left _ _)
    have hjn : j < n := Nat.lt_of_lt_of_le hj2 (Nat.min_le_right _ _)
    rw [add_addr, hc j (by rw [u64s_length]; exact hjx), ← hj, HC.out, u64s_get, u64s_get, List.getElem?_take, if_pos hjn]
  case c2 => rw [HCL.out, HZ.out, u64s_length, List.length_replicate, Nat.zero_add]; exact Nat.min_le_right _ _
  case c3 => rw [HC.out]; exact u64s_one _
  intro W2 hB hBel
  have KB := Lib.hid (show Box W2 w.heap.size 46 (u64s (fillL xs n)) from by
    have h := hB.out
    rw [HZ.out, HC.out, splice_fill] at h
    exact h)
  have B2 := Lib.hid hBel
  clear hB hBel
  go_wp2_with fail
  go_ret
  have h := KB.out.own (Nat.le_refl _) (by rw [fillL_length]; omega) (fillL_u64 HU.out n)
  rw [fillL_length] at h
  exact ⟨_, rfl, h, B2.out⟩
end Go.Proofs.YtljpangeodgbkaaDoor
