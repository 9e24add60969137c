/- The law SolveSays, walked. -/
import Derived.Test.YtbonkdfainngkaaLeads
import Derived.Test.YtbonkdfainngkaaSolT
import Derived.Test.YtbonkdfainngkaaHolds
import Derived.Test.YtbonkdfainngkaaSomeW
namespace Go.Proofs.Ytbonkdfainngkaa
open Go.RowKit Croft

theorem rank_any (va : Value) (rows : List (List Int)) (vars : Int) (w : World) (h1 : IsNumss w va rows) (h : solE rows vars ≠ 0) :
    Calls Try.prog 4 #[va, .int .i64 vars] w fun e w' => e = .returned (.bool true) ∧ Below w.heap.size w w' := by
  have KA := Lib.hid h1
  have HE := Lib.hid h
  have hb1 : (solE rows vars != solE rows vars) = false := by rw [bne_self_eq_false]
  have hb2 : (solE rows vars != 0) = true := by rw [bne_iff_ne]; exact h
  have hb3 : (solE rows vars == solE rows vars) = true := by rw [beq_self_eq_true]
  clear h1 h
  go_enter Try.func4, Try.ntmps4
  go_wp2_with fail
  refine (rEquations_any _ rows vars _ KA.out).mono ?_
  rintro e w' ⟨rfl, rfl⟩
  try dsimp only
  go_wp2_with fail
  refine (sRank_bad _ rows vars _ KA.out HE.out).mono ?_
  rintro e W1 ⟨rfl, hb⟩
  have B1 := Lib.hid hb
  have K1 := Lib.hid (KA.out.below hb)
  clear hb
  try dsimp only
  go_wp2_with fail
  refine (sSolve_bad _ rows vars _ K1.out HE.out).mono ?_
  rintro e W2 ⟨v, rfl, ho, hb⟩
  obtain ⟨A, c, rfl, _, _⟩ := own_form ho.1
  have B2 := Lib.hid (below_trans B1.out hb B1.out.size)
  have K2 := Lib.hid (K1.out.below hb)
  clear ho hb
  try dsimp only
  go_wp2_with fail
  refine (sSolCheck_any _ rows vars _ K2.out).mono ?_
  rintro e W3 ⟨rfl, hb⟩
  have B3 := Lib.hid (below_trans B2.out hb B2.out.size)
  clear hb
  try dsimp only
  go_wp2_with fail
  go_ret
  exact ⟨rfl, B3.out⟩
set_option maxRecDepth 100000 in
set_option maxHeartbeats 2000000 in
theorem solve_ok (va : Value) (rows : List (List Int)) (v : Nat) (w : World) (h1 : IsNumss w va rows) (h0 : solE rows v = 0) (hv1 : 1 ≤ v) (hv20 : v ≤ 20) (hm20 : rows.length ≤ 20) (hlen : ∀ r ∈ rows, r.length = v + 1) :
    Calls Try.prog 4 #[va, .int .i64 v] w fun e w' => e = .returned (.bool true) ∧ Below w.heap.size w w' := by
  have KA := Lib.hid h1
  have HE := Lib.hid h0
  have HLEN := Lib.hid hlen
  suffices hgoal : ∀ Post : Ending → World → Prop, (∀ e w', (e = .returned (.bool true) ∧ Below w.heap.size w w') → Post e w') → Calls Try.prog 4 #[va, .int .i64 v] w Post from hgoal _ fun e w' h => h
  intro Post hpo
  have HPO := Lib.hid hpo
  clear h1 h0 hlen hpo
  go_enter Try.func4, Try.ntmps4
  go_wp2_with fail
  refine (rEquations_any _ rows v _ KA.out).mono ?_
  rintro e w' ⟨rfl, rfl⟩
  rw [HE.out]
  try dsimp only
  go_wp2_with fail
  refine (sRank_ok _ rows v _ KA.out HE.out hv1 hv20 hm20 HLEN.out).mono ?_
  rintro e W1 ⟨R1, l1, rfl, hred1, hb⟩
  have B1 := Lib.hid hb
  have K1 := Lib.hid (KA.out.below hb)
  have RED1 := Lib.hid hred1
  clear hb hred1
  try dsimp only
  go_wp2_with fail
  refine (sSolve_ok _ rows v _ K1.out HE.out hv1 hv20 hm20 HLEN.out).mono ?_
  rintro e W2 ⟨R2, l2, hred2, hres⟩
  have RED2 := Lib.hid hred2
  clear hred2
  have H2 : ∃ vv zs g, e = .returned (.tuple #[vv, .int .i64 g]) ∧ OwnNums W2 W1.heap.size vv zs ∧ Below W1.heap.size W1 W2 ∧ (¬ Dep rows.length (mx rows) v ∧ zs = [] ∧ g = 4 ∨ (∀ r, l2.length ≤ r → r < rows.length → mx R2 r v = 0) ∧ Dep rows.length (mx rows) v ∧ zs = ofFs (solF (mx R2) l2 v) ∧ g = 0) := by
    rcases hres with ⟨⟨r, h1, h2, h3⟩, vv, rfl, ho, hb⟩ | ⟨hz, vv, rfl, ho, hb⟩
    · exact ⟨vv, _, _, rfl, ho, hb, .inl ⟨fun hd => h3 (RED2.out.last.1 hd r h1 h2), rfl, rfl⟩⟩
    · exact ⟨vv, _, _, rfl, ho, hb, .inr ⟨hz, RED2.out.last.2 hz, rfl, rfl⟩⟩
  clear hres
  obtain ⟨vv, zs, g, rfl, ho, hb, hcase⟩ := H2
  have HC := Lib.hid hcase
  have KV := Lib.hid ho
  have B2 := Lib.hid (below_trans B1.out hb B1.out.size)
  have K2 := Lib.hid (K1.out.below hb)
  obtain ⟨A, c, hvv, _, _⟩ := own_form ho.1
  subst hvv
  clear ho hb hcase
  try dsimp only
  go_wp2_with fail
  refine (sSolCheck_any _ rows v _ K2.out).mono ?_
  rintro e W3 ⟨rfl, hb⟩
  rw [HE.out]
  have B3 := Lib.hid (below_trans B2.out hb B2.out.size)
  have K3 := Lib.hid (K2.out.below hb)
  have KV3 := Lib.hid (KV.out.below hb)
  clear hb KV
  try dsimp only
  go_wp2_with fail
  refine (rLeads_ok _ rows v rows.length _ K3.out rfl hm20 hv20 HLEN.out).mono ?_
  rintro e W4 ⟨vl, ls, B, at_, ok, rfl, ho, hbas, hok, hb⟩
  have HS1 := Lib.hid (RED1.out.same hbas)
  have HS2 := Lib.hid (RED2.out.same hbas)
  have HOK := Lib.hid hok
  have KL := Lib.hid ho
  have B4 := Lib.hid (below_trans B3.out hb B3.out.size)
  have K4 := Lib.hid (K3.out.below hb)
  have KV4 := Lib.hid (KV3.out.below hb)
  obtain ⟨Al, cl, hvl, _, _⟩ := own_form ho.1
  rw [nats_length] at hvl
  subst hvl
  have hs1 := HS1.out
  subst hs1
  have hln : ((l1.length : Int) != (l1.length : Int)) = false := by rw [bne_self_eq_false]
  clear ho hb hok hbas KV3
  try dsimp only
  rcases HC.out with ⟨hd, rfl, rfl⟩ | ⟨hz, hd, rfl, rfl⟩
  · obtain rfl : ok = false := by
      cases ok with
      | false => rfl
      | true => exact absurd (HOK.out.1 rfl) hd
    clear hd
    go_wp2_with fail
    exact HPO.out _ _ ⟨rfl, B4.out⟩
  · obtain rfl : ok = true := HOK.out.2 hd
    have HZ := Lib.hid hz
    have hl2 : l2 = l1 := HS2.out
    subst hl2
    have hzl : (ofFs (solF (mx R2) l2 v)).length = v := by rw [ofFs_length]; simp [solF]
    have HZL := Lib.hid hzl
    rw [hzl] at KV4 ⊢
    have hlv : ((v : Int) != (v : Int)) = false := by rw [bne_self_eq_false]
    have HH := Lib.hid (show ∀ r ∈ rows, fsum v (fun k => co (toFs r) k * co (toFs (ofFs (solF (mx R2) l2 v))) k) = co (toFs r) v from fun r hr => by
      obtain ⟨i, hi, he⟩ := List.getElem_of_mem hr
      have hg : rows[i]? = some r := by rw [List.getElem?_eq_getElem hi, he]
      have h := RED2.out.solves HZ.out i hi
      rw [toFs_ofFs, ← mx_get hg v, ← h]
      refine fsum_congr fun k hk => ?_
      rw [← mx_get hg k]
      congr 1
      exact co_get (by simp [solF, hk]))
    clear hz hd hzl
    go_wp2_with fail
    refine (rHolds_ok _ _ rows _ v _ K4.out (by have h := KV4.out.is; exact h) HZL.out (by omega) (by omega) HLEN.out HH.out).mono ?_
    rintro e w5 ⟨rfl, d, rfl⟩
    have B5 := Lib.hid (below_trans B4.out (below_drewN (Below.refl _ _) d) B4.out.size)
    have KV5 := Lib.hid (KV4.out.drewN d)
    have KL5 := Lib.hid (KL.out.drewN d)
    clear KV4 KL K4 B4
    generalize hWW : W4.drewN d = W5 at *
    clear hWW
    try dsimp only
    go_wp2_with fail
    go_loop [92] (fun x => ∃ i : Nat, i ≤ v ∧ x = .int .i64 i) (fun x => v - (intOf x).toNat)
    case atStart => exact ⟨0, Nat.zero_le _, rfl⟩
    case round =>
      obtain ⟨i, hi, rfl⟩ := hrel
      by_cases hlt : i < v
      · have hdi : decide ((i : Int) < (v : Int)) = true := by simp; omega
        obtain ⟨A', c', hA, _, _, _, hu, hr⟩ := KV5.out.is
        rw [HZL.out] at hA
        injection hA with hA1 hA2 hA3
        subst hA1 hA3
        clear hA2
        obtain ⟨b1, o1, z, rfl, hb1, hgz, hz64, hcz⟩ := nums_at hr hu (k := i) (by rw [HZL.out]; exact hlt)
        obtain ⟨y, hy⟩ : ∃ y, y = ySol (mx R2) l2 v i := ⟨_, rfl⟩
        have HY := Lib.hid hy
        have hze : z = ofF y := by
          have h := ofFs_get (l := solF (mx R2) l2 v) (j := i) (a := y) (by rw [hy]; simp [solF, hlt])
          exact Option.some.inj (hgz.symm.trans h)
        subst hze
        have hP : decide (ofF y ≥ 2147483647) = false := by
          have := ofF_lt y
          simp
          omega
        clear hr hu hb1 hgz hy
        by_cases hzero : y = 0
        · have hbz : (ofF y != 0) = false := by rw [hzero, ofF_zero]; rfl
          clear hzero
          go_wp2_with fail
          exact ⟨⟨i + 1, by omega, by go_num⟩, by simp [intOf] <;> omega⟩
        · have hbz : (ofF y != 0) = true := by rw [bne_iff_ne]; intro e; exact hzero (ofF_eq_zero.1 e)
          have HIN := Lib.hid (show decide ((i : Int) ∈ nats l2) = true by
            rw [decide_eq_true_eq]
            by_cases hm : i ∈ l2
            · exact List.mem_map.2 ⟨i, hm, rfl⟩
            · exact absurd (by rw [HY.out]; exact ySol_out hm) hzero)
          clear hzero
          go_wp2_with fail
          refine (iContains_any _ (nats l2) i _ (by have h := KL5.out.is; exact h)).mono ?_
          rintro e w' ⟨rfl, rfl⟩
          rw [HIN.out]
          try dsimp only
          go_wp2_with fail
          exact ⟨⟨i + 1, by omega, by go_num⟩, by simp [intOf] <;> omega⟩
      · obtain rfl : i = v := by omega
        have hdi : decide ((i : Int) < (i : Int)) = false := by simp
        go_wp2_with fail
        exact HPO.out _ _ ⟨rfl, B5.out⟩
theorem solveSays_any (va : Value) (rows : List (List Int)) (vars : Int) (w : World) (h1 : IsNumss w va rows) :
    Calls Try.prog 4 #[va, .int .i64 vars] w fun e w' => e = .returned (.bool true) ∧ Below w.heap.size w w' := by
  by_cases h0 : solE rows vars = 0
  · obtain ⟨v, rfl, h2, h3, h4, h5⟩ := solE_zero h0
    exact solve_ok va rows v w h1 h0 h2 h3 h4 h5
  · exact rank_any va rows vars w h1 h0
end Go.Proofs.Ytbonkdfainngkaa
