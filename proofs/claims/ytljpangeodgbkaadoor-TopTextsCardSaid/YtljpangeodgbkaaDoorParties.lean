/- Numbers of parties, none twice: what the program's check returns. -/
import Derived.Test.YtljpangeodgbkaaDoorInts
import Derived.Test.YtljpangeodgbkaaDoorThroughW
namespace Go.Proofs.YtljpangeodgbkaaDoor
open Go.RowKit Croft
theorem i64_and_nat (a b : Nat) (ha : a < 9223372036854775808) (hb : b < 9223372036854775808) : bits .and .i64 (a : Int) (b : Int) = ((a &&& b : Nat) : Int) := by
  have hx : a &&& b < 2 ^ 63 := Nat.and_lt_two_pow _ (by omega)
  have h1 : (BitVec.ofInt 64 (a : Int)).toNat = a := by
    rw [BitVec.ofInt_natCast, BitVec.toNat_ofNat]; exact Nat.mod_eq_of_lt (by omega)
  have h2 : (BitVec.ofInt 64 (b : Int)).toNat = b := by
    rw [BitVec.ofInt_natCast, BitVec.toNat_ofNat]; exact Nat.mod_eq_of_lt (by omega)
  show IntKind.i64.wrap ((BitVec.ofInt 64 (a : Int) &&& BitVec.ofInt 64 (b : Int)).toNat : Int) = _
  rw [BitVec.toNat_and, h1, h2, IntKind.wrap_i64]
  omega
theorem i64_or_nat (a b : Nat) (ha : a < 9223372036854775808) (hb : b < 9223372036854775808) : bits .or .i64 (a : Int) (b : Int) = ((a ||| b : Nat) : Int) := by
  have hx : a ||| b < 2 ^ 63 := Nat.or_lt_two_pow (by omega) (by omega)
  have h1 : (BitVec.ofInt 64 (a : Int)).toNat = a := by
    rw [BitVec.ofInt_natCast, BitVec.toNat_ofNat]; exact Nat.mod_eq_of_lt (by omega)
  have h2 : (BitVec.ofInt 64 (b : Int)).toNat = b := by
    rw [BitVec.ofInt_natCast, BitVec.toNat_ofNat]; exact Nat.mod_eq_of_lt (by omega)
  show IntKind.i64.wrap ((BitVec.ofInt 64 (a : Int) ||| BitVec.ofInt 64 (b : Int)).toNat : Int) = _
  rw [BitVec.toNat_or, h1, h2, IntKind.wrap_i64]
  omega
/-- a list as a mask -/
def Mask (M : Nat) (l : List Int) : Prop := M < 1024 ∧ ∀ b : Nat, b ≤ 9 → (M.testBit b = true ↔ (b : Int) ∈ l)
theorem Mask.nil : Mask 0 [] := ⟨by omega, fun b _ => by simp⟩
theorem Mask.add {M : Nat} {l : List Int} {a : Nat} (h : Mask M l) (ha : a ≤ 9) : Mask (M ||| 2 ^ a) (l ++ [(a : Int)]) := by
  refine ⟨Nat.or_lt_two_pow (n := 10) h.1 (Nat.pow_lt_pow_right (by omega) (by omega)), fun b hb => ?_⟩
  rw [Nat.testBit_or, Nat.testBit_two_pow, Bool.or_eq_true, h.2 b hb, List.mem_append, List.mem_singleton]
  constructor
  · rintro (h1 | h1)
    · exact .inl h1
    · exact .inr (by have := of_decide_eq_true h1; omega)
  · rintro (h1 | h1)
    · exact .inl h1
    · exact .inr (by simp; omega)
theorem Mask.bit {M : Nat} {l : List Int} {a : Nat} (h : Mask M l) (ha : a ≤ 9) : bits .and .i64 ((M : Int) / 2 ^ a) 1 = if (a : Int) ∈ l then 1 else 0 := by
  have h1 := h.1
  have hs : M >>> a ≤ M := by rw [Nat.shiftRight_eq_div_pow]; exact Nat.div_le_self _ _
  rw [show ((M : Int) / 2 ^ a) = ((M >>> a : Nat) : Int) by rw [Nat.shiftRight_eq_div_pow]; simp]
  have e := i64_and_nat (M >>> a) 1 (by omega) (by omega)
  rw [show ((1 : Nat) : Int) = 1 from rfl] at e
  rw [e, Nat.and_one_is_mod]
  have ht := h.2 a ha
  rw [Nat.testBit_eq_decide_div_mod_eq, decide_eq_true_eq, ← Nat.shiftRight_eq_div_pow] at ht
  split
  · next hm => have := ht.2 hm; omega
  · next hm => have : ¬ (M >>> a) % 2 = 1 := fun hh => hm (ht.1 hh)
               omega
def partyB (zs : List Int) : Bool := decide ((∀ z ∈ zs, 1 ≤ z ∧ z ≤ 9) ∧ zs.Nodup)
theorem sParties_any (va : Value) (zs : List Int) (w : World) (h1 : IsInts w va zs) :
    Calls Tryd.prog 95 #[va] w fun e w' => e = .returned (.bool (partyB zs)) ∧ w = w' := by
  obtain ⟨A1, c1, rfl, hc1, hm1, hl1, hu1, hr1⟩ := h1
  have HU := Lib.hid hu1
  have HR := Lib.hid hr1
  clear hu1 hr1 hm1
  go_enter Tryd.func95, Tryd.ntmps95
  go_wp2_with fail
  go_loop [3, 8] (fun s i => ∃ k M : Nat, k ≤ zs.length ∧ i = .int .i64 k ∧ s = .int .i64 M ∧ Mask M (zs.take k) ∧ (∀ z ∈ zs.take k, 1 ≤ z ∧ z ≤ 9) ∧ (zs.take k).Nodup) (fun _ i => zs.length - (intOf i).toNat)
  case atStart => exact ⟨0, 0, Nat.zero_le _, rfl, rfl, Mask.nil, by simp, by simp⟩
  case round =>
    obtain ⟨k, M, hk, rfl, rfl, hmk, hin, hnd⟩ := hrel
    have HM := Lib.hid hmk
    have HIN := Lib.hid hin
    have HND := Lib.hid hnd
    have hM := hmk.1
    clear hmk hin hnd
    by_cases hlt : k < zs.length
    · obtain ⟨b1, o1, z, rfl, hb1, hz, huz, hc⟩ := ints_at HR.out HU.out hlt
      have HZ := Lib.hid hz
      have HT := Lib.hid (show zs.take (k + 1) = zs.take k ++ [z] by rw [List.take_add_one, hz]; rfl)
      clear hz hb1
      by_cases hr : 1 ≤ z ∧ z ≤ 9
      · obtain ⟨a, rfl⟩ := Int.eq_ofNat_of_zero_le (show 0 ≤ z by omega)
        have hr2 : (a : Int) ≤ 9 := hr.2
        have hd1 : decide ((a : Int) < 1) = false := by simp; omega
        have hd2 : decide ((a : Int) > 9) = false := by simp; omega
        have e2 := HM.out.bit (show a ≤ 9 by omega)
        by_cases hm : (a : Int) ∈ zs.take k
        · have hbb : (bits .and .i64 ((M : Int) / 2 ^ a) 1 == 1) = true := by rw [e2, if_pos hm]; rfl
          have HMM := Lib.hid hm
          clear e2 hm
          go_wp2_with fail
          go_ret
          refine ⟨?_, rfl⟩
          have : partyB zs = false := decide_eq_false fun hh => by
            have h2 := hh.2.sublist (List.take_sublist (k + 1) zs)
            rw [HT.out, List.nodup_append] at h2
            exact h2.2.2 _ HMM.out _ (by simp) rfl
          rw [this]; rfl
        · have hbb : (bits .and .i64 ((M : Int) / 2 ^ a) 1 == 1) = false := by rw [e2, if_neg hm]; rfl
          have HMM := Lib.hid hm
          clear e2 hm
          go_wp2_with fail
          refine ⟨⟨k + 1, M ||| 2 ^ a, by omega, by go_num, ?_, ?_, ?_, ?_⟩, by simp [intOf] <;> omega⟩
          · have hp : (2 : Nat) ^ a ≤ 512 := Nat.pow_le_pow_right (by omega) (show a ≤ 9 by omega)
            have h2 : wrap64 ((2 : Int) ^ a) = ((2 ^ a : Nat) : Int) := by
              have : ((2 : Int) ^ a) = ((2 ^ a : Nat) : Int) := by simp
              rw [this]
              unfold wrap64
              generalize (2 : Nat) ^ a = q at *
              omega
            rw [h2, i64_or_nat _ _ (by omega) (by omega)]
          · rw [HT.out]; exact HM.out.add (by omega)
          · rw [HT.out]
            intro x hx
            rcases List.mem_append.1 hx with h3 | h3
            · exact HIN.out x h3
            · simp at h3; subst h3; exact hr
          · rw [HT.out, List.nodup_append]
            refine ⟨HND.out, by simp, fun x hx y hy he => ?_⟩
            simp at hy
            subst hy he
            exact HMM.out hx
      · have HF := Lib.hid (show partyB zs = false from decide_eq_false fun hh => hr (hh.1 z (List.mem_of_getElem? HZ.out)))
        by_cases h1 : z < 1
        · clear hr
          go_wp2_with fail
          go_ret
          exact ⟨by rw [HF.out]; rfl, rfl⟩
        · have h2 : z > 9 := by omega
          have hd1 : decide (z < 1) = false := by simp; omega
          clear hr
          go_wp2_with fail
          go_ret
          exact ⟨by rw [HF.out]; rfl, rfl⟩
    · obtain rfl : k = zs.length := by omega
      go_wp2_with fail
      go_ret
      have h1 := HIN.out
      have h2 := HND.out
      rw [List.take_length] at h1 h2
      rw [show partyB zs = true from decide_eq_true ⟨h1, h2⟩]
      exact ⟨rfl, rfl⟩
end Go.Proofs.YtljpangeodgbkaaDoor
