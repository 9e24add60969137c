/- croftkeep.twined: true. -/
import Derived.Test.YtbgfgkegcchaoaaTwM
import Derived.Test.YtbgfgkegcchaoaaKeepW
import Derived.Test.YtbgfgkegcchaoaaClone
namespace Go.Proofs.Ytbgfgkegcchaoaa
open Go.RowKit Go.Maps Croft

theorem tw_small : dRows [5, 2, 3] 1 3 = [(1, [7, 5]), (2, [9, 8]), (3, [11, 11])] := by decide +kernel
theorem tw_five : ofF (toF (([5, 2, 3] : List Int).getD 0 0)) = 5 := by decide +kernel
set_option maxRecDepth 100000 in
set_option maxHeartbeats 2000000 in
theorem kTwined_any (w : World) : Calls Try.prog 47 #[] w fun e w' => e = .returned (.bool true) ∧ Below w.heap.size w w' := by
  have BEL := Lib.hid (Below.refl w.heap.size w)
  go_enter Try.func47, Try.ntmps47
  go_wp2_with fail
  have L20 := lit_nums (w) [2, 3] (by intro z hz; simp only [List.mem_cons, List.not_mem_nil, or_false] at hz; rcases hz with rfl | rfl <;> exact ⟨by omega, by omega⟩) (by simp)
  simp only [u64s, List.map_cons, List.map_nil, List.length_cons, List.length_nil] at L20
  have hb := (Below.refl (w).heap.size (w)).alloc (Nat.le_refl _) (.cells #[Value.int .u64 2, Value.int .u64 3] 31)
  replace BEL := Lib.hid (below_trans BEL.out hb BEL.out.size)
  clear hb
  have L2 := Lib.hid L20
  clear L20
  generalize hW : (w).alloc (.cells #[Value.int .u64 2, Value.int .u64 3] 31) = W1 at *
  clear hW
  refine (pDeal2_ok 5 1 3 _ [2, 3] _ (by unfold U64; omega) L2.out (by omega) (by rfl) (by omega) (by omega)).mono ?_
  rintro e W2 ⟨vl, vs, rfl, ho, hb⟩
  replace BEL := Lib.hid (below_trans BEL.out hb BEL.out.size)
  obtain ⟨R, hR⟩ : ∃ R, R = dRows [5, 2, 3] 1 3 := ⟨_, rfl⟩
  rw [← hR] at ho
  have HON := Lib.hid (show OnTw [5, 2, 3] 1 R by rw [hR]; exact dRows_on _ _ _ (by omega))
  have HRL := Lib.hid (show R.length = 3 by rw [hR, tw_small]; rfl)
  have HR0 := Lib.hid (show R[0]? = some (1, [7, 5]) by rw [hR, tw_small]; rfl)
  have KL := Lib.hid ho.is
  obtain ⟨A, cap, hv, _, _⟩ := own_form ho.outer
  rw [HRL.out] at hv
  subst hv
  clear hR ho hb L2
  try dsimp only
  go_wp2_with fail
  refine (pJoin_tw [5, 2, 3] 1 _ R _ KL.out (by omega) HON.out (by rw [HRL.out]; omega)).mono ?_
  rintro e W3 ⟨rfl, hb⟩
  rw [tw_five]
  replace BEL := Lib.hid (below_trans BEL.out hb BEL.out.size)
  replace KL := Lib.hid (KL.out.below hb)
  clear hb
  obtain ⟨A2, c2, vs2, hA, _, _, _, hi, hr, ha⟩ := KL.out
  rw [HRL.out] at hA
  injection hA with hA1 hA2 hA3
  subst hA1 hA3
  clear hA2
  obtain ⟨b1, o1, z, x, r, rfl, hb1, hvx, hgk, hz64, hxr, hca, hcb⟩ := row_at hr ha hi (k := 0) (by rw [HRL.out]; omega)
  rw [HR0.out] at hgk
  obtain ⟨rfl, rfl⟩ := Prod.mk.inj (Option.some.inj hgk)
  simp only [Nat.zero_mul, Nat.add_zero] at hca hcb
  have HX := Lib.hid hxr
  clear hr ha hi hgk hb1 hvx hxr
  try dsimp only
  go_wp2_with fail
  have L70 := lit_nums (W3) [7, 5] (by intro z hz; simp only [List.mem_cons, List.not_mem_nil, or_false] at hz; rcases hz with rfl | rfl <;> exact ⟨by omega, by omega⟩) (by simp)
  simp only [u64s, List.map_cons, List.map_nil, List.length_cons, List.length_nil] at L70
  have hb := (Below.refl (W3).heap.size (W3)).alloc (Nat.le_refl _) (.cells #[Value.int .u64 7, Value.int .u64 5] 31)
  replace BEL := Lib.hid (below_trans BEL.out hb BEL.out.size)
  replace HX := Lib.hid (HX.out.below hb)
  clear hb hca hcb
  have L7 := Lib.hid L70
  clear L70
  generalize hW : (W3).alloc (.cells #[Value.int .u64 7, Value.int .u64 5] 31) = W5 at *
  clear hW
  refine (equal_any _ _ _ _ _ HX.out L7.out).mono ?_
  rintro e w' ⟨rfl, nd, rfl⟩
  rw [decide_eq_true rfl]
  try dsimp only
  replace BEL := Lib.hid (below_drewN BEL.out nd)
  generalize hW : W5.drewN nd = W6 at *
  clear hW
  go_wp2_with fail
  go_ret
  exact ⟨rfl, BEL.out⟩
/-- who is picked -/
theorem picked_ats {N : Nat} {P L : List (Int × Int)} (h : (P ++ L).Perm (shL (List.replicate N 0))) (hN : N ≤ 9) : (∀ s ∈ P, ∃ i : Nat, i < N ∧ s.1 = (i : Int) + 1) ∧ (P.map (·.1)).Nodup := by
  have h1 := (h.map (·.1)).nodup_iff
  rw [shL_ats, List.map_append, List.length_replicate] at h1
  have h2 : (atsN N).Nodup := by
    have h3 := atsN_party hN
    unfold partyB at h3
    exact (of_decide_eq_true h3).2
  refine ⟨fun s hs => ?_, (List.nodup_append.1 (h1.2 h2)).1⟩
  have hm : s.1 ∈ (shL (List.replicate N 0)).map (·.1) := List.mem_map.2 ⟨s, h.mem_iff.1 (List.mem_append.2 (.inl hs)), rfl⟩
  rw [shL_ats, List.length_replicate] at hm
  unfold atsN at hm
  obtain ⟨i, hi, he⟩ := List.mem_map.1 hm
  exact ⟨i, List.mem_range.1 hi, he.symm⟩
def rowsOf (D : List Int) (t : Nat) (P : List (Int × Int)) : List (Int × List Int) := P.map fun s => (s.1, rowL (dMat D t) s.1)
theorem rowsOf_on {D : List Int} {t N : Nat} {P : List (Int × Int)} (h1 : ∀ s ∈ P, ∃ i : Nat, i < N ∧ s.1 = (i : Int) + 1) (h2 : (P.map (·.1)).Nodup) (hN : N ≤ 9) : OnTw D t (rowsOf D t P) := by
  refine ⟨fun r hr => ?_, ?_, fun r hr => ?_⟩
  · obtain ⟨s, hs, rfl⟩ := List.mem_map.1 hr
    obtain ⟨i, hi, he⟩ := h1 s hs
    show 1 ≤ s.1 ∧ s.1 ≤ 9
    omega
  · unfold rowsOf
    rw [List.map_map]
    exact h2
  · obtain ⟨s, hs, rfl⟩ := List.mem_map.1 hr
    rfl
theorem rowsOf_next {D : List Int} {t : Nat} {P : List (Int × Int)} {k : Nat} {a y : Int} (h : P[k]? = some (a, y)) : rowsOf D t (P.take (k + 1)) = rowsOf D t (P.take k) ++ [(a, rowL (dMat D t) a)] := by
  rw [List.take_add_one, h]; simp [rowsOf]
theorem dRows_get (D : List Int) (t n i : Nat) (hi : i < n) : (dRows D t n)[i]? = some ((i : Int) + 1, rowL (dMat D t) ((i : Int) + 1)) := by
  unfold dRows
  rw [List.getElem?_map, List.getElem?_range hi]
  rfl
end Go.Proofs.Ytbgfgkegcchaoaa
