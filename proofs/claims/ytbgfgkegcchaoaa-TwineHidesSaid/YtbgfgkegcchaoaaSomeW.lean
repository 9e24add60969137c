/- Numbers in a list, and some of the parties: what the calls return. -/
import Derived.Test.YtbgfgkegcchaoaaShamK
namespace Go.Proofs.Ytbgfgkegcchaoaa
open Go.RowKit Croft

theorem iIndex_any (va : Value) (zs : List Int) (x : Int) (w : World) (h1 : IsInts w va zs) :
    Calls Try.prog 122 #[va, .int .i64 x] w fun e w' => (∃ r : Int, e = .returned (.int .i64 r) ∧ ((0 ≤ r) ↔ x ∈ zs)) ∧ w = w' := by
  obtain ⟨A1, c1, rfl, hc1, hm1, hl1, hu1, hr1⟩ := h1
  have HU := Lib.hid hu1
  have HR := Lib.hid hr1
  clear hu1 hr1 hm1
  go_enter Try.func122, Try.ntmps122
  go_wp2_with fail
  go_loop [8] (fun i => ∃ k : Nat, k ≤ zs.length ∧ i = .int .i64 k ∧ x ∉ zs.take k) (fun i => zs.length - (intOf i).toNat)
  case atStart => exact ⟨0, Nat.zero_le _, rfl, by simp⟩
  case round =>
    obtain ⟨k, hk, rfl, hn⟩ := hrel
    have HN := Lib.hid hn
    clear hn
    by_cases hlt : k < zs.length
    · obtain ⟨b1, o1, z, rfl, hb1, hgk, hz64, hca⟩ := ints_at HR.out HU.out hlt
      have HG := Lib.hid hgk
      clear hgk hb1
      by_cases hxz : x = z
      · subst hxz
        have hbe : (x == x) = true := by simp
        go_wp2_with fail
        go_ret
        exact ⟨⟨_, rfl, by simp only [Int.natCast_nonneg, true_iff]; exact List.mem_of_getElem? HG.out⟩, rfl⟩
      · have hbe : (x == z) = false := by rw [beq_eq_false_iff_ne]; exact hxz
        have HX := Lib.hid hxz
        clear hxz
        go_wp2_with fail
        refine ⟨⟨k + 1, by omega, by go_num, ?_⟩, by simp [intOf] <;> omega⟩
        rw [List.take_add_one, HG.out]
        intro hm
        rcases List.mem_append.1 hm with h | h
        · exact HN.out h
        · simp at h; exact HX.out h
    · obtain rfl : zs.length = k := by omega
      go_wp2_with fail
      go_ret
      refine ⟨⟨_, rfl, ?_⟩, rfl⟩
      have := HN.out
      rw [List.take_length] at this
      exact ⟨fun h => by omega, fun h => absurd h this⟩
theorem iContains_any (va : Value) (zs : List Int) (x : Int) (w : World) (h1 : IsInts w va zs) :
    Calls Try.prog 63 #[va, .int .i64 x] w fun e w' => e = .returned (.bool (decide (x ∈ zs))) ∧ w = w' := by
  have KA := Lib.hid h1
  clear h1
  go_enter Try.func63, Try.ntmps63
  go_wp2_with fail
  refine (iIndex_any _ zs x _ KA.out).mono ?_
  rintro e w' ⟨⟨r, rfl, hr⟩, rfl⟩
  have hd : decide (r ≥ 0) = decide (x ∈ zs) := by rw [Bool.eq_iff_iff, decide_eq_true_iff, decide_eq_true_iff]; exact hr
  clear hr
  try dsimp only
  cases hc : decide (x ∈ zs) with
  | true =>
    rw [hc] at hd
    have HC := Lib.hid hc
    clear hc
    go_wp2_with fail
    go_ret
    exact ⟨by rw [HC.out]; rfl, rfl⟩
  | false =>
    rw [hc] at hd
    have HC := Lib.hid hc
    clear hc
    go_wp2_with fail
    go_ret
    exact ⟨by rw [HC.out]; rfl, rfl⟩
/-- parties, none twice, at most so many -/
structure Some_ (T N : Nat) (who : List Int) : Prop where
  len : who.length ≤ T
  in_ : ∀ k ∈ who, 1 ≤ k ∧ k ≤ (N : Int)
  nodup : who.Nodup
theorem Some_.nil (T N : Nat) : Some_ T N [] := ⟨by simp, by simp, by simp⟩
theorem Some_.add {T N : Nat} {who : List Int} (h : Some_ T N who) {k : Int} (hl : who.length < T) (h1 : 1 ≤ k ∧ k ≤ (N : Int)) (h2 : k ∉ who) : Some_ T N (who ++ [k]) := by
  refine ⟨by simp; omega, fun y hy => ?_, ?_⟩
  · rcases List.mem_append.1 hy with h3 | h3
    · exact h.in_ y h3
    · simp at h3; subst h3; exact h1
  · rw [List.nodup_append]
    refine ⟨h.nodup, by simp, fun a ha b hb e => ?_⟩
    simp at hb
    subst hb e
    exact h2 ha
theorem Some_.party {T N : Nat} {who : List Int} (h : Some_ T N who) (hN : N ≤ 9) : partyB who = true := by
  unfold partyB
  exact decide_eq_true ⟨fun z hz => by have := h.in_ z hz; omega, h.nodup⟩
set_option maxRecDepth 100000 in
set_option maxHeartbeats 1000000 in
theorem kSome_any (va : Value) (ps : List Int) (T N : Nat) (w : World) (h1 : IsInts w va ps) (hT : T ≤ 4) (hN : 0 < N) (hN9 : N ≤ 9) :
    Calls Try.prog 61 #[va, .int .i64 T, .int .i64 N] w fun e w' => ∃ v who, e = .returned v ∧ Some_ T N who ∧ OwnInts w' w.heap.size v who ∧ Below w.heap.size w w' := by
  have KA := Lib.hid h1
  obtain ⟨A1, c1, rfl, hc1, hm1, hl1, hu1, hr1⟩ := h1
  clear hu1 hr1 hm1
  go_enter Try.func61, Try.ntmps61
  go_wp2_with fail
  go_loopw [7, 13] (fun v i wr => ∃ (k : Nat) (who : List Int), k ≤ ps.length ∧ i = .int .i64 k ∧ Some_ T N who ∧ OwnInts wr w.heap.size v who ∧ Below w.heap.size w wr) (fun _ i _ => ps.length - (intOf i).toNat)
  case atStart => exact ⟨0, [], Nat.zero_le _, rfl, Some_.nil _ _, OwnInts.nil _ _, Below.refl _ _⟩
  case round =>
    obtain ⟨k, who, hk, rfl, hsome, hown, hbel⟩ := hrel
    have KO := Lib.hid hown
    have HS := Lib.hid hsome
    have BEL := Lib.hid hbel
    have hsz := hbel.size
    obtain ⟨Ao, co_, hv, hco, _⟩ := own_form hown.1
    subst hv
    have hwl := hsome.len
    clear hown hbel hsome
    by_cases hlt : k < ps.length
    · obtain ⟨A, c, hA, _, _, _, hu, hr⟩ := KA.out.below BEL.out
      injection hA with hA1 hA2 hA3
      subst hA1 hA3
      obtain ⟨b1, o1, z, rfl, hb1, hgk, hz64, hca⟩ := ints_at hr hu hlt
      clear hu hr hgk hb1
      go_wp2_with fail
      refine (rRest_any z N _ hN (by omega)).mono ?_
      rintro e w' ⟨⟨r, hr, rfl⟩, rfl⟩
      clear hca
      try dsimp only
      by_cases hfull : who.length < T
      · have hdf : decide (who.length < T) = true := by simpa using hfull
        have hdf2 : decide ((who.length : Int) < (T : Int)) = true := by simp; omega
        go_wp2_with fail
        refine (iContains_any _ who (1 + (r : Int)) _ KO.out.is).mono ?_
        rintro e w' ⟨rfl, rfl⟩
        try dsimp only
        by_cases hmem : (1 + (r : Int)) ∈ who
        · rw [decide_eq_true hmem]
          clear hmem
          go_wp2_with fail
          exact ⟨⟨k + 1, who, by omega, by go_num, HS.out, KO.out, BEL.out⟩, by simp [intOf] <;> omega⟩
        · rw [decide_eq_false hmem]
          have HS2 := Lib.hid (HS.out.add hfull (k := 1 + (r : Int)) (by omega) hmem)
          clear hmem
          go_wp2_with (at_builtin; go_loud (refine wpList_push_int rfl _ _ rfl w.heap.size _ who (1 + (r : Int)) wr.heap.size 1 rfl (KO.out.alloc _) rfl (new_cell _ _ _) (by unfold I64; omega) (by omega) (by rw [size_alloc]; omega) ?_))
          intro v' w5 hown' hbel'
          have K5 := Lib.hid hown'
          have B5 := Lib.hid ((BEL.out.alloc hsz (.cells #[.int .i64 (1 + (r : Int))] 3)).trans hbel')
          clear hown' hbel'
          go_wp2_with fail
          exact ⟨⟨k + 1, _, by omega, by go_num, HS2.out, K5.out, B5.out⟩, by simp [intOf] <;> omega⟩
      · have hdf : decide (who.length < T) = false := by simpa using hfull
        have hdf2 : decide ((who.length : Int) < (T : Int)) = false := by simp; omega
        go_wp2_with fail
        exact ⟨⟨k + 1, who, by omega, by go_num, HS.out, KO.out, BEL.out⟩, by simp [intOf] <;> omega⟩
    · obtain rfl : ps.length = k := by omega
      go_wp2_with fail
      go_ret
      exact ⟨_, who, rfl, HS.out, KO.out, BEL.out⟩
end Go.Proofs.Ytbgfgkegcchaoaa
