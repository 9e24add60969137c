/- Numbers in a list, and some of the parties: what the calls return. -/
import Derived.Test.YtcdeoccpbdncmaaShamK
namespace Go.Proofs.Ytcdeoccpbdncmaa
open Go.RowKit Croft

theorem iIndex_any (va : Value) (zs : List Int) (x : Int) (w : World) (h1 : IsInts w va zs) :
    Calls Try.prog 88 #[va, .int .i64 x] w fun e w' => (∃ r : Int, e = .returned (.int .i64 r) ∧ ((0 ≤ r) ↔ x ∈ zs)) ∧ w = w' := by
  obtain ⟨A1, c1, rfl, hc1, hm1, hl1, hu1, hr1⟩ := h1
  have HU := Lib.hid hu1
  have HR := Lib.hid hr1
  clear hu1 hr1 hm1
  go_enter Try.func88, Try.ntmps88
  go_wp2_with fail
  go_loop [8] (fun i => ∃ k : Nat, k ≤ zs.length ∧ i = .int .i64 k ∧ x ∉ zs.take k) (fun i => zs.length - (intOf i).toNat)
  case atStart => exact ⟨0, Nat.zero_le _, rfl, by simp⟩
  case round =>
    obtain ⟨k, hk, rfl, hn⟩ := hrel
    have HN := Lib.hid hn
    clear hn
    by_cases hlt : k < zs.length
    · obtain ⟨b1, o1, z, rfl, hb1, hgk, hz64, hca⟩ := ints_at HR.out HU.out hlt
      have HG := Lib.hid hgk
      clear hgk hb1
      by_cases hxz : x = z
      · subst hxz
        have hbe : (x == x) = true := by simp
        go_wp2_with fail
        go_ret
        exact ⟨⟨_, rfl, by simp only [Int.natCast_nonneg, true_iff]; exact List.mem_of_getElem? HG.out⟩, rfl⟩
      · have hbe : (x == z) = false := by rw [beq_eq_false_iff_ne]; exact hxz
        have HX := Lib.hid hxz
        clear hxz
        go_wp2_with fail
        refine ⟨⟨k + 1, by omega, by go_num, ?_⟩, by simp [intOf] <;> omega⟩
        rw [List.take_add_one, HG.out]
        intro hm
        rcases List.mem_append.1 hm with h | h
        · exact HN.out h
        · simp at h; exact HX.out h
    · obtain rfl : zs.length = k := by omega
      go_wp2_with fail
      go_ret
      refine ⟨⟨_, rfl, ?_⟩, rfl⟩
      have := HN.out
      rw [List.take_length] at this
      exact ⟨fun h => by omega, fun h => absurd h this⟩
theorem iContains_any (va : Value) (zs : List Int) (x : Int) (w : World) (h1 : IsInts w va zs) :
    Calls Try.prog 34 #[va, .int .i64 x] w fun e w' => e = .returned (.bool (decide (x ∈ zs))) ∧ w = w' := by
  have KA := Lib.hid h1
  clear h1
  go_enter Try.func34, Try.ntmps34
  go_wp2_with fail
  refine (iIndex_any _ zs x _ KA.out).mono ?_
  rintro e w' ⟨⟨r, rfl, hr⟩, rfl⟩
  have hd : decide (r ≥ 0) = decide (x ∈ zs) := by rw [Bool.eq_iff_iff, decide_eq_true_iff, decide_eq_true_iff]; exact hr
  clear hr
  try dsimp only
  cases hc : decide (x ∈ zs) with
  | true =>
    rw [hc] at hd
    have HC := Lib.hid hc
    clear hc
    go_wp2_with fail
    go_ret
    exact ⟨by rw [HC.out]; rfl, rfl⟩
  | false =>
    rw [hc] at hd
    have HC := Lib.hid hc
    clear hc
    go_wp2_with fail
    go_ret
    exact ⟨by rw [HC.out]; rfl, rfl⟩
/-- parties, none twice, at most so many -/
structure Some_ (T N : Nat) (who : List Int) : Prop where
  len : who.length ≤ T
  in_ : ∀ k ∈ who, 1 ≤ k ∧ k ≤ (N : Int)
  nodup : who.Nodup
theorem Some_.nil (T N : Nat) : Some_ T N [] := ⟨by simp, by simp, by simp⟩
theorem Some_.add {T N : Nat} {who : List Int} (h : Some_ T N who) {k : Int} (hl : who.length < T) (h1 : 1 ≤ k ∧ k ≤ (N : Int)) (h2 : k ∉ who) : Some_ T N (who ++ [k]) := by
  refine ⟨by simp; omega, fun y hy => ?_, ?_⟩
  · rcases List.mem_append.1 hy with h3 | h3
    · exact h.in_ y h3
    · simp at h3; subst h3; exact h1
  · rw [List.nodup_append]
    refine ⟨h.nodup, by simp, fun a ha b hb e => ?_⟩
    simp at hb
    subst hb e
    exact h2 ha
theorem Some_.party {T N : Nat} {who : List Int} (h : Some_ T N who) (hN : N ≤ 9) : partyB who = true := by
  unfold partyB
  exact decide_eq_true ⟨fun z hz => by have := h.in_ z hz; omega, h.nodup⟩
end Go.Proofs.Ytcdeoccpbdncmaa
