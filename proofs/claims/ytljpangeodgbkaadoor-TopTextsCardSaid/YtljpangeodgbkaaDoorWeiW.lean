/- Package shamir's weights: what the call returns. -/
import Derived.Test.YtljpangeodgbkaaDoorShamW
namespace Go.Proofs.YtljpangeodgbkaaDoor
open Go.RowKit Croft

theorem others_snoc (xs : List F) (a b : F) : others (xs ++ [b]) a = if b = a then others xs a else others xs a ++ [b] := by
  unfold others
  rw [List.filter_append]
  by_cases h : b = a
  · rw [if_pos h, h]; simp
  · rw [if_neg h]; simp [h]
theorem toFs_snoc (l : List Int) (z : Int) : toFs (l ++ [z]) = toFs l ++ [toF z] := by simp [toFs]
def upL (l : List Int) (a : Int) : F := lprod (others (toFs l) (toF a))
def unL (l : List Int) (a : Int) : F := lprod ((others (toFs l) (toF a)).map fun b => b - toF a)
theorem upL_same {l : List Int} {a b : Int} (h : toF b = toF a) : upL (l ++ [b]) a = upL l a ∧ unL (l ++ [b]) a = unL l a := by
  unfold upL unL
  rw [toFs_snoc, others_snoc, if_pos h]
  exact ⟨rfl, rfl⟩
theorem upL_other {l : List Int} {a b : Int} (h : toF b ≠ toF a) : upL (l ++ [b]) a = upL l a * toF b ∧ unL (l ++ [b]) a = unL l a * (toF b - toF a) := by
  unfold upL unL
  rw [toFs_snoc, others_snoc, if_neg h, lprod_snoc, List.map_append, List.map_cons, List.map_nil, lprod_snoc]
  exact ⟨rfl, rfl⟩
def wtL (ats : List Int) (k : Nat) : List Int := (ats.take k).map fun a => ofF (wtF (toFs ats) (toF a))
theorem wtL_next {ats : List Int} {k : Nat} {a : Int} (h : ats[k]? = some a) : wtL ats (k + 1) = wtL ats k ++ [ofF (upL ats a * inv (unL ats a))] := by
  unfold wtL
  rw [List.take_add_one, h]
  simp [wtF, upL, unL]
theorem sWeights_bad (va : Value) (ats : List Int) (w : World) (h1 : IsInts w va ats) (h : ¬ (ats ≠ [] ∧ partyB ats = true)) :
    Calls Tryd.prog 94 #[va] w fun e w' => ListRes w e w' [] 5 := by
  have KA := Lib.hid h1
  obtain ⟨A1, c1, rfl, hc1, hm1, hl1, hu1, hr1⟩ := h1
  clear hu1 hr1 hm1
  by_cases h0 : ats = []
  · have b0 : ((ats.length : Int) == 0) = true := by rw [h0]; rfl
    have H0 := Lib.hid h0
    clear h h0
    go_enter Tryd.func94, Tryd.ntmps94
    go_wp2_with fail
    go_ret2
    exact ⟨_, rfl, OwnNums.nil _ _, Below.refl _ _⟩
  · have b0 : ((ats.length : Int) == 0) = false := by rw [beq_eq_false_iff_ne]; intro e; exact h0 (List.eq_nil_of_length_eq_zero (by omega))
    have hp : partyB ats = false := by
      cases hp : partyB ats with
      | false => rfl
      | true => exact absurd ⟨h0, hp⟩ h
    have HP := Lib.hid hp
    clear h h0 hp
    go_enter Tryd.func94, Tryd.ntmps94
    go_wp2_with fail
    refine (sParties_any _ _ _ KA.out).mono ?_
    rintro e w' ⟨rfl, rfl⟩
    rw [HP.out]
    try dsimp only
    go_wp2_with fail
    go_ret2
    exact ⟨_, rfl, OwnNums.nil _ _, Below.refl _ _⟩
set_option maxRecDepth 100000 in
set_option maxHeartbeats 1000000 in
theorem sWeights_ok (va : Value) (ats : List Int) (w : World) (h1 : IsInts w va ats) (h0 : ats ≠ []) (hp : partyB ats = true) (h9 : ats.length ≤ 9) :
    Calls Tryd.prog 94 #[va] w fun e w' => ListRes w e w' (wtL ats ats.length) 0 := by
  have KA := Lib.hid h1
  suffices hgoal : ∀ Post : Ending → World → Prop, (∀ e w', ListRes w e w' (wtL ats ats.length) 0 → Post e w') → Calls Tryd.prog 94 #[va] w Post from hgoal _ fun e w' h => h
  intro Post hp'
  have HPP := Lib.hid hp'
  obtain ⟨A1, c1, rfl, hc1, hm1, hl1, hu1, hr1⟩ := h1
  have b0 : ((ats.length : Int) == 0) = false := by rw [beq_eq_false_iff_ne]; intro e; exact h0 (List.eq_nil_of_length_eq_zero (by omega))
  have HP := Lib.hid hp
  have HIN := Lib.hid (of_decide_eq_true hp).1
  clear h0 hp hp' hu1 hr1 hm1
  go_enter Tryd.func94, Tryd.ntmps94
  go_wp2_with fail
  refine (sParties_any _ _ _ KA.out).mono ?_
  rintro e w' ⟨rfl, rfl⟩
  rw [HP.out]
  try dsimp only
  go_wp2_with fail
  go_loopw [4, 23] (fun v i wr => ∃ k : Nat, k ≤ ats.length ∧ i = .int .i64 k ∧ OwnNums wr w.heap.size v (wtL ats k) ∧ Below w.heap.size w wr) (fun _ i _ => ats.length - (intOf i).toNat)
  case atStart => exact ⟨0, Nat.zero_le _, rfl, OwnNums.nil _ _, Below.refl _ _⟩
  case round =>
    obtain ⟨k, hk, rfl, hown, hbel⟩ := hrel
    have KO := Lib.hid hown
    have BEL := Lib.hid hbel
    have hsz := hbel.size
    clear hown hbel
    by_cases hlt : k < ats.length
    · have hdk : decide ((k : Int) < (ats.length : Int)) = true := by simp; omega
      have KA2 := Lib.hid (KA.out.below BEL.out)
      obtain ⟨A, c, hA, _, _, _, hu, hr⟩ := KA2.out
      injection hA with hA1 hA2 hA3
      subst hA1 hA3
      have HU := Lib.hid hu
      have HR := Lib.hid hr
      obtain ⟨b1, o1, a, rfl, hb1, hga, ha64, hca⟩ := ints_at hr hu hlt
      have HGA := Lib.hid hga
      have hain := HIN.out a (List.mem_of_getElem? hga)
      obtain ⟨ha1, ha2⟩ := hain
      clear hu hr hga hb1
      go_wp2_with fail
      obtain ⟨wo, hwo⟩ : ∃ wo, wo = wr := ⟨_, rfl⟩
      subst hwo
      go_loop [7, 8, 29] (fun u n j => ∃ q : Nat, q ≤ ats.length ∧ j = .int .i64 q ∧ u = .int .u64 (ofF (upL (ats.take q) a)) ∧ n = .int .u64 (ofF (unL (ats.take q) a))) (fun _ _ j => ats.length - (intOf j).toNat)
      case atStart => exact ⟨0, Nat.zero_le _, rfl, rfl, rfl⟩
      case round =>
        obtain ⟨q, hq, rfl, rfl, rfl⟩ := hrel
        clear hca
        by_cases hlt2 : q < ats.length
        · obtain ⟨b2, o2, b, hA2, hb2, hgb, hb64, hcb⟩ := ints_at HR.out HU.out hlt2
          injection hA2 with hA2
          injection hA2 with hA3 hA4
          subst hA3 hA4
          have hbin := HIN.out b (List.mem_of_getElem? hgb)
          obtain ⟨hb3, hb4⟩ := hbin
          have HT := Lib.hid (show ats.take (q + 1) = ats.take q ++ [b] by rw [List.take_add_one, hgb]; rfl)
          clear hgb hb2
          by_cases hab : a = b
          · subst hab
            obtain ⟨e1, e2⟩ := upL_same (l := ats.take q) (a := a) (b := a) rfl
            have E1 := Lib.hid e1
            have E2 := Lib.hid e2
            have hne : (a != a) = false := by simp
            clear e1 e2
            go_wp2_with fail
            exact ⟨⟨q + 1, by omega, by go_num, by rw [HT.out, E1.out], by rw [HT.out, E2.out]⟩, by simp [intOf] <;> omega⟩
          · have hne : (a != b) = true := by rw [bne_iff_ne]; exact hab
            obtain ⟨e1, e2⟩ := upL_other (l := ats.take q) (a := a) (b := b) (fun e => hab (toF_small ⟨by omega, by omega⟩ ⟨by omega, by omega⟩ e.symm))
            have E1 := Lib.hid e1
            have E2 := Lib.hid e2
            clear hab e1 e2
            go_wp2_with fail
            refine (fMul_any _ _ _ (ofF_nonneg _) (by omega)).mono ?_
            rintro e w' ⟨rfl, rfl⟩
            rw [toF_ofF]
            try dsimp only
            go_wp2_with fail
            refine (fSub_any _ _ _ (by omega) (by omega)).mono ?_
            rintro e w' ⟨rfl, rfl⟩
            try dsimp only
            go_wp2_with fail
            refine (fMul_any _ _ _ (ofF_nonneg _) (ofF_nonneg _)).mono ?_
            rintro e w' ⟨rfl, rfl⟩
            rw [toF_ofF, toF_ofF]
            try dsimp only
            go_wp2_with fail
            exact ⟨⟨q + 1, by omega, by go_num, by rw [HT.out, E1.out], by rw [HT.out, E2.out]⟩, by simp [intOf] <;> omega⟩
        · have hqe : q = ats.length := by omega
          have HQE := Lib.hid (show ats.take q = ats by rw [hqe, List.take_length])
          clear hqe
          rw [HQE.out]
          go_wp2_with fail
          refine (fInv_any _ _ (ofF_nonneg _)).mono ?_
          rintro e w' ⟨rfl, rfl⟩
          rw [toF_ofF]
          try dsimp only
          go_wp2_with fail
          refine (fMul_any _ _ _ (ofF_nonneg _) (ofF_nonneg _)).mono ?_
          rintro e w' ⟨rfl, rfl⟩
          rw [toF_ofF, toF_ofF]
          try dsimp only
          have hwl : (wtL ats k).length ≤ 9 := by unfold wtL; rw [List.length_map, List.length_take]; omega
          have HWL := Lib.hid hwl
          clear hwl
          go_wp2_with (at_builtin; go_loud (refine wpList_push rfl _ _ rfl w.heap.size _ _ (ofF (upL ats a * inv (unL ats a))) wo.heap.size 1 rfl (KO.out.alloc _) rfl (new_cell _ _ _) (U64.of_ofF _) (by have := HWL.out; omega) (by rw [size_alloc]; omega) ?_))
          intro v' w5 hown' hbel'
          rw [← wtL_next HGA.out] at hown'
          have K5 := Lib.hid hown'
          have B5 := Lib.hid ((BEL.out.alloc hsz (.cells #[.int .u64 (ofF (upL ats a * inv (unL ats a)))] 46)).trans hbel')
          clear hown' hbel'
          go_wp2_with fail
          exact ⟨⟨k + 1, by omega, by go_num, K5.out, B5.out⟩, by simp [intOf] <;> omega⟩
    · obtain rfl : k = ats.length := by omega
      go_wp2_with fail
      exact HPP.out _ _ ⟨_, rfl, KO.out, BEL.out⟩
end Go.Proofs.YtljpangeodgbkaaDoor
