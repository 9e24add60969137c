/- The document's test of a solution: what it returns where the equations hold. -/
import Derived.Test.YtoleaijjgaekcaaSolK
import Derived.Test.YtoleaijjgaekcaaKeepW
namespace Go.Proofs.Ytoleaijjgaekcaa
open Go.RowKit Croft

set_option maxRecDepth 100000 in
set_option maxHeartbeats 1000000 in
theorem rHolds_ok (va vb : Value) (rows : List (List Int)) (xs : List Int) (n : Nat) (w : World) (h1 : IsNumss w va rows) (h2 : IsNums w vb xs) (hn : xs.length = n) (hn2 : n ≤ 100) (hm : rows.length ≤ 100) (hlen : ∀ r ∈ rows, r.length = n + 1)
    (h : ∀ r ∈ rows, fsum n (fun k => co (toFs r) k * co (toFs xs) k) = co (toFs r) n) :
    Calls Try.prog 19 #[va, vb] w fun e w' => e = .returned (.bool true) ∧ ∃ d, w' = w.drewN d := by
  have KA := Lib.hid h1
  have KB := Lib.hid h2
  have HH := Lib.hid h
  have HLEN := Lib.hid hlen
  have HN := Lib.hid hn
  obtain ⟨A1, c1, vs, rfl, hc1, hm1, hl1, hr1, ha1⟩ := h1
  obtain ⟨A2, c2, rfl, hc2, hm2, hl2, hu2, hr2⟩ := h2
  rw [hn] at hc2 hl2 KB ⊢
  clear hr1 ha1 hm1 hu2 hr2 hm2 h hlen hn
  go_enter Try.func19, Try.ntmps19
  go_wp2_with fail
  go_loopw [5] (fun x wr => ∃ i d : Nat, i ≤ rows.length ∧ x = .int .i64 i ∧ wr = w.drewN d) (fun x _ => rows.length - (intOf x).toNat)
  case atStart => exact ⟨0, 0, Nat.zero_le _, rfl, rfl⟩
  case round =>
    obtain ⟨i, d, hi, rfl, hw⟩ := hrel
    have HW := Lib.hid hw
    clear hw
    by_cases hlt : i < rows.length
    · have hdi : decide ((i : Int) < (rows.length : Int)) = true := by simp; omega
      go_wp2_with fail
      go_loopw [6, 7] (fun s x wq => ∃ k d : Nat, k ≤ n ∧ x = .int .i64 k ∧ s = .int .u64 (ofF (fsum k fun q => co (toFs (rows.getD i [])) q * co (toFs xs) q)) ∧ wq = w.drewN d) (fun _ x _ => n - (intOf x).toNat)
      case atStart => exact ⟨0, d, Nat.zero_le _, rfl, rfl, HW.out⟩
      case round =>
        obtain ⟨k, d2, hk, rfl, rfl, hw⟩ := hrel
        have HV := Lib.hid hw
        clear hw
        obtain ⟨A, c, vs1, hA, _, _, _, hr, ha⟩ := KA.out.drewN d2
        injection hA with hA1 hA2 hA3
        subst hA1 hA3
        clear hA2
        obtain ⟨b1, o1, x, r, rfl, hb1, hx, hgk, hnr, hc0⟩ := numss_at hr ha hlt
        have hrl := HLEN.out r (List.mem_of_getElem? hgk)
        have HGD := Lib.hid (show rows.getD i [] = r by simp [List.getD, hgk])
        have HR := Lib.hid (HH.out r (List.mem_of_getElem? hgk))
        obtain ⟨Ar, cr, hxr, _, _, _, hur, hrr⟩ := hnr
        rw [hrl] at hxr
        subst hxr
        have hc : wr.cell? ⟨b1, o1 + i, none⟩ = some (.slice Ar (n + 1) cr) := by rw [HV.out]; exact hc0
        rw [HGD.out]
        by_cases hlt2 : k < n
        · obtain ⟨b2, o2, z, rfl, hb2, hgz, hz64, hcz0⟩ := nums_at hrr hur (k := k) (by omega)
          have hcz : wr.cell? ⟨b2, o2 + k, none⟩ = some (.int .u64 z) := by rw [HV.out]; exact hcz0
          obtain ⟨A, c, hA, _, _, _, hu, hs⟩ := KB.out.drewN d2
          rw [HN.out] at hA
          injection hA with hA1 hA2 hA3
          subst hA1 hA3
          clear hA2
          obtain ⟨b3, o3, y, rfl, hb3, hgy, hy64, hcy0⟩ := nums_at hs hu (k := k) (by rw [HN.out]; exact hlt2)
          have hcy : wr.cell? ⟨b3, o3 + k, none⟩ = some (.int .u64 y) := by rw [HV.out]; exact hcy0
          have HZ := Lib.hid (co_toFs hgz)
          have HY := Lib.hid (co_toFs hgy)
          have hdk : decide ((k : Int) < (n : Int)) = true := by simp; omega
          clear hr ha hb1 hx hgk hur hrr hb2 hgz hu hs hb3 hgy hc0 hcz0 hcy0 hrl
          go_wp2_with fail
          go_quiet ((first | exact quietL (rMul_any _ _ _ hz64 hy64) | exact quietL (rAdd_any _ _ _ (U64.of_ofF _) (U64.of_ofF _))))
          go_wp2_with fail
          refine ⟨⟨k + 1, _, by omega, by go_num, ?_, drewn_more HV.out _⟩, by simp [intOf] <;> omega⟩
          rw [fsum, HZ.out, HY.out]
          simp only [toF_ofF]
        · obtain rfl : k = n := by omega
          obtain ⟨b2, o2, z, rfl, hb2, hgz, hz64, hcz0⟩ := nums_at hrr hur (k := k) (by omega)
          have hcz : wr.cell? ⟨b2, o2 + k, none⟩ = some (.int .u64 z) := by rw [HV.out]; exact hcz0
          have HZ := Lib.hid (co_toFs hgz)
          rw [HR.out, HZ.out]
          have hdk : decide ((k : Int) < (k : Int)) = false := by simp
          clear hr ha hb1 hx hgk hur hrr hb2 hgz hc0 hcz0 hrl
          go_wp2_with fail
          refine (rNorm_any _ _ hz64).mono ?_
          rintro e w' ⟨rfl, rfl⟩
          have hbe : (ofF (toF z) != ofF (toF z)) = false := by rw [bne_self_eq_false]
          try dsimp only
          go_wp2_with fail
          exact ⟨⟨i + 1, d2, by omega, by go_num, HV.out⟩, by simp [intOf] <;> omega⟩
    · obtain rfl : i = rows.length := by omega
      have hdi : decide ((rows.length : Int) < (rows.length : Int)) = false := by simp
      go_wp2_with fail
      go_ret
      exact ⟨rfl, d, HW.out⟩
end Go.Proofs.Ytoleaijjgaekcaa
