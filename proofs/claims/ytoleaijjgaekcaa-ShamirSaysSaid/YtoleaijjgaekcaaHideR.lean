/- The document's words on who is blind: what they return. -/
import Derived.Test.YtoleaijjgaekcaaHideS
import Derived.Test.YtoleaijjgaekcaaSomeW
namespace Go.Proofs.Ytoleaijjgaekcaa
open Go.RowKit Croft

set_option maxRecDepth 100000 in
theorem slice_ints_run (A : Option Addr) (m c hi : Nat) (h2 : hi ≤ c) (W : World) :
    (Instr.sliceAt 60 (.slice A m c) none (some (.int .i64 (hi : Int))) none).run Try.prog W = .ok (.slice A hi c) W := by
  have hU : Program.underlying Try.prog 60 = some (.slice (Program.elem Try.prog 60)) := by kernel_rfl
  have hs : ∀ W, (sizeOf (Program.elem Try.prog 60)).run Try.prog W = .ok 1 W := fun W => by kernel_rfl
  rw [run_sliceAt_slice _ _ _ _ _ _ hU, run_slice_h W _ A m c hU .i64 _ (by omega) (by omega), hs]
  simp only [Result.andThen, sliced, Nat.zero_mul, Nat.sub_zero, Int.toNat_natCast]
  congr 2
  split
  · rfl
  · cases A with
    | none => rfl
    | some a =>
      simp only [Option.map]
      obtain ⟨b, o, sp⟩ := a
      unfold Addr.add
      simp
theorem IsInts.take {w : World} {A : Option Addr} {len c : Nat} {zs : List Int} (h : IsInts w (.slice A len c) zs) (k : Nat) (hk : k ≤ zs.length) : IsInts w (.slice A k c) (zs.take k) := by
  obtain ⟨A1, c1, e1, e2, e3, e4, e5, e6⟩ := h
  injection e1 with e1a e1b e1c
  subst e1a e1b e1c
  have hl : (zs.take k).length = k := by simp; omega
  refine ⟨_, _, by rw [hl], by rw [hl]; omega, e3, by rw [hl]; omega, fun z hz => e5 z (List.mem_of_mem_take hz), ?_⟩
  rcases e6 with e6 | ⟨b, o, rfl, hb, hc⟩
  · have h0 : zs = [] := by simpa [i64s] using e6
    subst h0
    exact .inl (by simp [i64s])
  · refine .inr ⟨b, o, rfl, hb, fun j hj => ?_⟩
    rw [i64s_length, hl] at hj
    rw [hc j (by rw [i64s_length]; omega), i64s_get, i64s_get, List.getElem?_take, if_pos hj]
set_option maxRecDepth 100000 in
set_option maxHeartbeats 1000000 in
theorem rParties_any (va : Value) (zs : List Int) (w : World) (h1 : IsInts w va zs) :
    Calls Try.prog 58 #[va] w fun e w' => e = .returned (.bool (partyB zs && decide (0 < zs.length))) ∧ ∃ n, w' = w.drewN n := by
  have KA := Lib.hid h1
  obtain ⟨A1, c1, rfl, hc1, hm1, hl1, hu1, hr1⟩ := h1
  have hcl : c1 ≤ 9223372036854775807 := by unfold maxLen at hm1; exact hm1
  clear hu1 hr1 hm1
  go_enter Try.func58, Try.ntmps58
  go_wp2_with fail
  go_loopw [3] (fun i wr => ∃ k n : Nat, k ≤ zs.length ∧ i = .int .i64 k ∧ partyB (zs.take k) = true ∧ wr = w.drewN n) (fun i _ => zs.length - (intOf i).toNat)
  case atStart => exact ⟨0, 0, Nat.zero_le _, rfl, by simp [partyB], rfl⟩
  case round =>
    obtain ⟨k, n, hk, rfl, hpb, hw⟩ := hrel
    have HPB := Lib.hid hpb
    have HW := Lib.hid hw
    clear hpb hw
    by_cases hlt : k < zs.length
    · have KAr := Lib.hid (KA.out.drewn HW.out)
      obtain ⟨A, c, hA, _, _, _, hu, hr⟩ := KAr.out
      injection hA with hA1 hA2 hA3
      subst hA1 hA3
      clear hA2
      obtain ⟨b1, o1, z, rfl, hb1, hgk, hz64, hca⟩ := ints_at hr hu hlt
      have HN := Lib.hid (partyB_next hgk)
      have KT := Lib.hid (KAr.out.take k hk)
      have hsl := slice_ints_run (some ⟨b1, o1, none⟩) zs.length c1 k (by omega)
      have hdk : decide ((k : Int) < (zs.length : Int)) = true := by simp; omega
      clear hu hr hgk hb1
      by_cases hin : 1 ≤ z ∧ z ≤ 9
      · have hdi : decide (1 ≤ z ∧ z ≤ 9) = true := decide_eq_true hin
        have HIN := Lib.hid (show ∀ W, Calls Try.prog 92 #[.int .i64 z, .int .i64 1, .int .i64 9] W fun e w' => e = .returned (.bool true) ∧ W = w' from fun W => by have h := rIn_any z 1 9 W; rw [hdi] at h; exact h)
        by_cases hmem : z ∈ zs.take k
        · have hdm : decide (z ∈ zs.take k) = true := decide_eq_true hmem
          have HCO := Lib.hid (show ∀ m, Calls Try.prog 117 #[.slice (some ⟨b1, o1, none⟩) k c1, .int .i64 z] (wr.drewN m) fun e w' => e = .returned (.bool true) ∧ wr.drewN m = w' from fun m => by have h := iContains_any _ (zs.take k) z _ (KT.out.drewN m); rw [hdm] at h; exact h)
          have hF := Lib.hid (show partyB zs = false from partyB_mono (k + 1) (by rw [HN.out]; simp [hmem]))
          clear hin hmem hdi hdm
          go_wp2_with fail
          go_quiet ((first | exact quietL (HIN.out _) | exact quietL (HCO.out _)))
          go_wp2_with fail
          go_ret
          exact ⟨by rw [hF.out]; rfl, _, drewn_more HW.out _⟩
        · have hdm : decide (z ∈ zs.take k) = false := decide_eq_false hmem
          have HCO := Lib.hid (show ∀ m, Calls Try.prog 117 #[.slice (some ⟨b1, o1, none⟩) k c1, .int .i64 z] (wr.drewN m) fun e w' => e = .returned (.bool false) ∧ wr.drewN m = w' from fun m => by have h := iContains_any _ (zs.take k) z _ (KT.out.drewN m); rw [hdm] at h; exact h)
          have HM := Lib.hid (show partyB (zs.take (k + 1)) = true by rw [HN.out, HPB.out, hdi]; simp [hmem])
          clear hin hmem hdi hdm
          go_wp2_with fail
          go_quiet ((first | exact quietL (HIN.out _) | exact quietL (HCO.out _)))
          go_wp2_with fail
          exact ⟨⟨k + 1, _, by omega, by go_num, HM.out, drewn_more HW.out _⟩, by simp [intOf] <;> omega⟩
      · have hdi : decide (1 ≤ z ∧ z ≤ 9) = false := decide_eq_false hin
        have HIN := Lib.hid (show ∀ W, Calls Try.prog 92 #[.int .i64 z, .int .i64 1, .int .i64 9] W fun e w' => e = .returned (.bool false) ∧ W = w' from fun W => by have h := rIn_any z 1 9 W; rw [hdi] at h; exact h)
        have hF := Lib.hid (show partyB zs = false from partyB_mono (k + 1) (by rw [HN.out, hdi]; simp))
        clear hin hdi
        go_wp2_with fail
        go_quiet (exact quietL (HIN.out _))
        go_wp2_with fail
        go_ret
        exact ⟨by rw [hF.out]; rfl, _, drewn_more HW.out _⟩
    · obtain rfl : k = zs.length := by omega
      have HT := Lib.hid (show partyB zs = true by have := HPB.out; rwa [List.take_length] at this)
      go_wp2_with fail
      go_ret
      refine ⟨?_, _, HW.out⟩
      rw [HT.out]
      simp
end Go.Proofs.Ytoleaijjgaekcaa
