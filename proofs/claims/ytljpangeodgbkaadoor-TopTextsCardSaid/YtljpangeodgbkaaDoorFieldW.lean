/- The calls of package field and of the reference's numbers: what each returns. -/
import Derived.Test.YtljpangeodgbkaaDoorProg
import Derived.Test.YtljpangeodgbkaaDoorPlain
import Derived.Test.YtljpangeodgbkaaDoorShift
import Derived.WalkKit
import Derived.Deep.QuietTactic
import Derived.BigQuiet
import Derived.Lib.Hide
namespace Go.Proofs.YtljpangeodgbkaaDoor
open Go.RowKit Croft

theorem ret_int {k : IntKind} {a b : Int} (h : a = b) : Ending.returned (.int k a) = .returned (.int k b) := by rw [h]
theorem fNorm_any (a : Int) (w : World) (ha : 0 ≤ a) :
    Calls Tryd.prog 34 #[.int .u64 a] w fun e w' => e = .returned (.int .u64 (ofF (toF a))) ∧ w = w' := by
  rw [ofF_toF, P_val]
  go_enter Tryd.func34, Tryd.ntmps34
  go_wp2
  go_ret
  exact ⟨rfl, rfl⟩
theorem ofF_add' (a b : F) : (ofF a + ofF b) % 2147483647 = ofF (a + b) := by
  rw [← toF_ofF a, ← toF_ofF b, ← toF_add, toF_ofF, toF_ofF, ofF_toF, P_val]; rfl
theorem ofF_sub' (a b : F) : (ofF a + 2147483647 - ofF b) % 2147483647 = ofF (a - b) := by
  rw [← toF_ofF a, ← toF_ofF b, ← toF_sub, toF_ofF, toF_ofF, ofF_toF, P_val]
  have : ((2147483647 : Nat) : Int) = 2147483647 := rfl
  rw [this]; omega
theorem ofF_mul' (a b : F) : (ofF a * ofF b) % 2147483647 = ofF (a * b) := by
  rw [← toF_ofF a, ← toF_ofF b, ← toF_mul, toF_ofF, toF_ofF, ofF_toF, P_val]; rfl
theorem ofF_prod (a b : F) : 0 ≤ ofF a * ofF b ∧ ofF a * ofF b ≤ 4611686009837453316 := by
  have h1 := ofF_nonneg a; have h2 := ofF_lt a; have h3 := ofF_nonneg b; have h4 := ofF_lt b
  refine ⟨Int.mul_nonneg h1 h3, ?_⟩
  have := Int.mul_le_mul (a := ofF a) (c := 2147483646) (b := ofF b) (d := 2147483646) (by omega) (by omega) h3 (by omega)
  omega
theorem fAdd_any (a b : Int) (w : World) (ha : 0 ≤ a) (hb : 0 ≤ b) :
    Calls Tryd.prog 73 #[.int .u64 a, .int .u64 b] w fun e w' => e = .returned (.int .u64 (ofF (toF a + toF b))) ∧ w = w' := by
  have h1 := ofF_nonneg (toF a); have h2 := ofF_lt (toF a); have h3 := ofF_nonneg (toF b); have h4 := ofF_lt (toF b)
  go_enter Tryd.func73, Tryd.ntmps73
  go_wp2_with fail
  refine (fNorm_any _ _ ha).mono ?_
  rintro e w' ⟨rfl, rfl⟩
  go_wp2_with fail
  refine (fNorm_any _ _ hb).mono ?_
  rintro e w' ⟨rfl, rfl⟩
  go_wp2
  go_ret
  exact ⟨ret_int (ofF_add' _ _), rfl⟩
theorem fSub_any (a b : Int) (w : World) (ha : 0 ≤ a) (hb : 0 ≤ b) :
    Calls Tryd.prog 74 #[.int .u64 a, .int .u64 b] w fun e w' => e = .returned (.int .u64 (ofF (toF a - toF b))) ∧ w = w' := by
  have h1 := ofF_nonneg (toF a); have h2 := ofF_lt (toF a); have h3 := ofF_nonneg (toF b); have h4 := ofF_lt (toF b)
  go_enter Tryd.func74, Tryd.ntmps74
  go_wp2_with fail
  refine (fNorm_any _ _ ha).mono ?_
  rintro e w' ⟨rfl, rfl⟩
  go_wp2_with fail
  refine (fNorm_any _ _ hb).mono ?_
  rintro e w' ⟨rfl, rfl⟩
  go_wp2
  go_ret
  exact ⟨ret_int (ofF_sub' _ _), rfl⟩
theorem fMul_any (a b : Int) (w : World) (ha : 0 ≤ a) (hb : 0 ≤ b) :
    Calls Tryd.prog 77 #[.int .u64 a, .int .u64 b] w fun e w' => e = .returned (.int .u64 (ofF (toF a * toF b))) ∧ w = w' := by
  obtain ⟨h1, h2⟩ := ofF_prod (toF a) (toF b)
  go_enter Tryd.func77, Tryd.ntmps77
  go_wp2_with fail
  refine (fNorm_any _ _ ha).mono ?_
  rintro e w' ⟨rfl, rfl⟩
  go_wp2_with fail
  refine (fNorm_any _ _ hb).mono ?_
  rintro e w' ⟨rfl, rfl⟩
  go_wp2
  go_ret
  exact ⟨ret_int (ofF_mul' _ _), rfl⟩
def fpow (a : F) (n : Int) : F := a ^ n.toNat
def zErr (a : F) : Int := if a = 0 then 1 else 0
theorem fpow_inv (a : F) : fpow a 2147483645 = inv a := rfl
def U64 (n : Int) : Prop := 0 ≤ n ∧ n < 18446744073709551616
theorem and_one {n : Int} (h : U64 n) : bits .and .u64 n 1 = n % 2 := by
  rw [u64_and n 1 h.1 h.2 (by omega) (by omega)]
  have : (1 : Int).toNat = 1 := rfl
  rw [this, Nat.and_one_is_mod]
  have := h.1
  omega
theorem U64.half {n : Int} (h : U64 n) : U64 (n / 2) := by unfold U64 at *; omega
theorem pow_half {u : F} {k : Int} (hk : 0 ≤ k) (h1 : k % 2 = 0) : fpow (u * u) (k / 2) = fpow u k := by
  unfold fpow
  have : k.toNat = (k / 2).toNat + (k / 2).toNat := by omega
  rw [this, pow_add, mul_pow]
theorem pow_odd {u : F} {k : Int} (hk : 0 ≤ k) (h1 : k % 2 = 1) : u * fpow (u * u) (k / 2) = fpow u k := by
  unfold fpow
  have : k.toNat = ((k / 2).toNat + (k / 2).toNat) + 1 := by omega
  rw [this, pow_succ, pow_add, mul_pow]; grind
theorem fPow_any (a n : Int) (w : World) (ha : 0 ≤ a) (hn : U64 n) :
    Calls Tryd.prog 104 #[.int .u64 a, .int .u64 n] w fun e w' => e = .returned (.int .u64 (ofF (fpow (toF a) n))) ∧ w = w' := by
  go_enter Tryd.func104, Tryd.ntmps104
  go_wp2_with fail
  refine (fNorm_any _ _ ha).mono ?_
  rintro e w' ⟨rfl, rfl⟩
  go_wp2_with fail
  go_loop [0, 1, 5] (fun x i o => ∃ (u v : F) (k : Int), U64 k ∧ x = .int .u64 (ofF u) ∧ i = .int .u64 k ∧ o = .int .u64 (ofF v) ∧ v * fpow u k = fpow (toF a) n) (fun _ i _ => (intOf i).toNat)
  case atStart => exact ⟨toF a, 1, n, hn, rfl, rfl, rfl, F_om _⟩
  case round =>
    obtain ⟨u, v, k, hk, rfl, rfl, rfl, hr⟩ := hrel
    have H := Lib.hid hr
    clear hr
    have hk0 := hk.1
    rcases (show k = 0 ∨ (0 < k ∧ k % 2 = 0) ∨ k % 2 = 1 by omega) with h0 | ⟨hp, h0⟩ | h0
    · subst h0
      go_wp2_with fail
      go_ret
      have h := H.out
      rw [show fpow u 0 = 1 from Croft.pow_zero u, F_mo] at h
      exact ⟨ret_int (by rw [h]), rfl⟩
    · have hb : bits .and .u64 k 1 = 0 := by rw [and_one hk, h0]
      have HA := Lib.hid h0
      clear h0
      go_wp2_with fail
      refine (fMul_any _ _ _ (ofF_nonneg _) (ofF_nonneg _)).mono ?_
      rintro e w' ⟨rfl, rfl⟩
      go_wp2_with fail
      simp only [toF_ofF]
      refine ⟨⟨u * u, v, k / 2, hk.half, rfl, rfl, rfl, ?_⟩, by simp [intOf]; omega⟩
      rw [← H.out, pow_half hk0 HA.out]
    · have hb : bits .and .u64 k 1 = 1 := by rw [and_one hk, h0]
      have hp : 0 < k := by omega
      have HA := Lib.hid h0
      clear h0
      go_wp2_with fail
      refine (fMul_any _ _ _ (ofF_nonneg _) (ofF_nonneg _)).mono ?_
      rintro e w' ⟨rfl, rfl⟩
      go_wp2_with fail
      refine (fMul_any _ _ _ (ofF_nonneg _) (ofF_nonneg _)).mono ?_
      rintro e w' ⟨rfl, rfl⟩
      go_wp2_with fail
      simp only [toF_ofF]
      refine ⟨⟨u * u, v * u, k / 2, hk.half, rfl, rfl, rfl, ?_⟩, by simp [intOf]; omega⟩
      rw [← H.out, ← pow_odd hk0 HA.out]; grind
theorem fInv_any (a : Int) (w : World) (ha : 0 ≤ a) :
    Calls Tryd.prog 96 #[.int .u64 a] w fun e w' => e = .returned (.tuple #[.int .u64 (ofF (inv (toF a))), .int .i64 (zErr (toF a))]) ∧ w = w' := by
  by_cases h : toF a = 0
  · have h0 : ofF (toF a) = 0 := by rw [h]; rfl
    have h1 : zErr (toF a) = 1 := by rw [h]; rfl
    have h2 : ofF (inv (toF a)) = 0 := by rw [h, inv_zero]; rfl
    rw [h1, h2]
    clear h h1 h2
    go_enter Tryd.func96, Tryd.ntmps96
    go_wp2_with fail
    refine (fNorm_any _ _ ha).mono ?_
    rintro e w' ⟨rfl, rfl⟩
    rw [h0]
    go_wp2_with fail
    go_ret2
    exact ⟨rfl, rfl⟩
  · have h0 : (ofF (toF a) == 0) = false := by rw [beq_eq_false_iff_ne]; exact fun hh => h (ofF_inj hh)
    have h1 : zErr (toF a) = 0 := by unfold zErr; rw [if_neg h]
    rw [h1]
    clear h h1
    go_enter Tryd.func96, Tryd.ntmps96
    go_wp2_with fail
    refine (fNorm_any _ _ ha).mono ?_
    rintro e w' ⟨rfl, rfl⟩
    try dsimp only
    go_wp2_with fail
    refine (fPow_any _ _ _ ha ⟨by omega, by omega⟩).mono ?_
    rintro e w' ⟨rfl, rfl⟩
    try dsimp only
    go_wp2_with fail
    go_ret2
    exact ⟨by rw [fpow_inv]; rfl, rfl⟩

/-! the reference's -/
/-- the upper bits of a number, from bit k on -/
def topF (b : F) (k : Int) : F := toF (ofF b / 2 ^ k.toNat)
theorem topF_0 (b : F) : topF b 0 = b := by
  unfold topF
  rw [show ((2 : Int) ^ (0 : Int).toNat) = 1 from rfl, Int.ediv_one, toF_ofF]
theorem topF_31 (b : F) : topF b (30 + 1) = 0 := by
  unfold topF
  rw [show ((2 : Int) ^ (30 + 1 : Int).toNat) = 2147483648 from rfl, Int.ediv_eq_zero_of_lt (ofF_nonneg b) (by have := ofF_lt b; omega), toF_zero]
theorem topF_step (b : F) (k : Int) (hk : 0 ≤ k) : topF b k = topF b (k + 1) + topF b (k + 1) + toF (ofF b / 2 ^ k.toNat % 2) := by
  unfold topF
  rw [show (k + 1).toNat = k.toNat + 1 by omega, Int.pow_succ, ← Int.ediv_ediv_of_nonneg (by exact Int.pow_nonneg (by omega)), ← toF_add, ← toF_add]
  congr 1
  omega

theorem rNorm_any (a : Int) (w : World) (ha : U64 a) :
    Calls Tryd.prog 30 #[.int .u64 a] w fun e w' => e = .returned (.int .u64 (ofF (toF a))) ∧ w = w' := by
  rw [ofF_toF, P_val]
  obtain ⟨h1, h2⟩ := ha
  have h3 : 0 ≤ a / 2147483647 * 2147483647 := by omega
  have h4 : a / 2147483647 * 2147483647 ≤ a := by omega
  go_enter Tryd.func30, Tryd.ntmps30
  go_wp2
  go_ret
  exact ⟨ret_int (by have : ((2147483647 : Nat) : Int) = 2147483647 := rfl
                     rw [this]; omega), rfl⟩
theorem U64.of_ofF (a : F) : U64 (ofF a) := by have := ofF_nonneg a; have := ofF_lt a; unfold U64; omega
theorem toF_two (u v : F) : toF (ofF u + ofF v) = u + v := by rw [toF_add, toF_ofF, toF_ofF]
/-- what of the power is reckoned when bits from k on are -/
theorem fpow_top (a : F) (n k : Int) (hn : 0 ≤ n) (hk : 0 ≤ k) : fpow a (shrN n k) = fpow a (shrN n (k + 1)) * fpow a (shrN n (k + 1)) * fpow a (shrN n k % 2) := by
  have h1 := shrN_nonneg hn k
  have h2 : shrN n (k + 1) = shrN n k / 2 := by
    unfold shrN
    rw [show (k + 1).toNat = k.toNat + 1 by omega, Int.pow_succ, ← Int.ediv_ediv_of_nonneg (by exact Int.pow_nonneg (by omega))]
  rw [h2]
  generalize shrN n k = m at *
  unfold fpow
  rw [← pow_add, ← pow_add]
  congr 1
  omega
theorem shrN_64 {n : Int} (h : U64 n) : shrN n (63 + 1) = 0 := by
  obtain ⟨h1, h2⟩ := h
  unfold shrN
  exact Int.ediv_eq_zero_of_lt h1 (by have : (2 : Int) ^ (63 + 1 : Int).toNat = 18446744073709551616 := by decide +kernel
                                      omega)
theorem shrN_0 (n : Int) : shrN n 0 = n := by unfold shrN; rw [show ((2 : Int) ^ (0 : Int).toNat) = 1 from rfl, Int.ediv_one]
theorem euclid_step {r m : Int} (hr : 0 ≤ r) (hm : 0 ≤ m) : Int.gcd m (r - r / m * m) = Int.gcd r m := by
  rw [show r - r / m * m = r % m by rw [Int.emod_def, Int.mul_comm]]
  obtain ⟨r, rfl⟩ := Int.eq_ofNat_of_zero_le hr
  obtain ⟨m, rfl⟩ := Int.eq_ofNat_of_zero_le hm
  rw [← Int.natCast_emod, Int.gcd_natCast_natCast, Int.gcd_natCast_natCast, Nat.gcd_comm, ← Nat.gcd_rec, Nat.gcd_comm]
theorem euclid_facts (r n : Int) (hr : 0 ≤ r) (hn : 0 < n) : ∃ q, r / n = q ∧ 0 ≤ q * n ∧ q * n ≤ r ∧ r - q * n < n ∧ (0 ≤ q ∧ q ≤ r) ∧ Int.gcd n (r - q * n) = Int.gcd r n :=
  ⟨r / n, rfl, Int.mul_nonneg (Int.ediv_nonneg hr (by omega)) (by omega), Int.ediv_mul_le r (by omega), by rw [show r - r / n * n = r % n by rw [Int.emod_def, Int.mul_comm]]; exact Int.emod_lt_of_pos _ hn,
    ⟨Int.ediv_nonneg hr (by omega), Int.ediv_le_self _ hr⟩, euclid_step hr (by omega)⟩
theorem P_int : (2147483647 : Int) = ((P : Nat) : Int) := rfl
theorem toF_P : toF 2147483647 = 0 := by rw [toF_eq_zero]; rfl
theorem gcd_P {a : F} (h : a ≠ 0) : Int.gcd 2147483647 (ofF a) = 1 := by
  have : ¬ P ∣ a.val := fun hd => by
    have h1 := a.isLt
    rcases Nat.eq_zero_or_pos a.val with h2 | h2
    · exact h (Fin.ext h2)
    · exact absurd (Nat.le_of_dvd h2 hd) (by omega)
  unfold ofF
  rw [P_int, Int.gcd_natCast_natCast]
  exact coprime this
end Go.Proofs.YtljpangeodgbkaaDoor
