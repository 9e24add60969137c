/- Parts of the proof, put together by a program: FieldW Tail. No condition. -/
import Derived.Test.YtploomncapiloaaGreatDoorDAA
import Derived.BigQuiet
import Derived.Deep.QuietTactic
import Derived.Lib.Hide
import Derived.StillTail
import Derived.Test.YtploomncapiloaaGreatDoorProg
namespace Go.Proofs.YtploomncapiloaaGreatDoor
open Go.RowKit Croft
theorem ret_int {k : IntKind} {a b : Int} (h : a = b) : Ending.returned (.int k a) = .returned (.int k b) := by rw [h]
theorem fNorm_any (a : Int) (w : World) (ha : 0 ≤ a) :
    Calls Tryz.prog 148 #[.int .u64 a] w fun e w' => e = .returned (.int .u64 (ofF (toF a))) ∧ w = w' := by
  rw [ofF_toF, P_val]
  go_enter Tryz.func148, Tryz.ntmps148
  go_wp2
  go_ret
  exact ⟨rfl, rfl⟩
theorem ofF_add' (a b : F) : (ofF a + ofF b) % 2147483647 = ofF (a + b) := by
  rw [← toF_ofF a, ← toF_ofF b, ← toF_add, toF_ofF, toF_ofF, ofF_toF, P_val]; rfl
theorem ofF_sub' (a b : F) : (ofF a + 2147483647 - ofF b) % 2147483647 = ofF (a - b) := by
  rw [← toF_ofF a, ← toF_ofF b, ← toF_sub, toF_ofF, toF_ofF, ofF_toF, P_val]
  have : ((2147483647 : Nat) : Int) = 2147483647 := rfl
  rw [this]; omega
theorem ofF_mul' (a b : F) : (ofF a * ofF b) % 2147483647 = ofF (a * b) := by
  rw [← toF_ofF a, ← toF_ofF b, ← toF_mul, toF_ofF, toF_ofF, ofF_toF, P_val]; rfl
theorem ofF_prod (a b : F) : 0 ≤ ofF a * ofF b ∧ ofF a * ofF b ≤ 4611686009837453316 := by
  have h1 := ofF_nonneg a; have h2 := ofF_lt a; have h3 := ofF_nonneg b; have h4 := ofF_lt b
  refine ⟨Int.mul_nonneg h1 h3, ?_⟩
  have := Int.mul_le_mul (a := ofF a) (c := 2147483646) (b := ofF b) (d := 2147483646) (by omega) (by omega) h3 (by omega)
  omega
theorem fAdd_any (a b : Int) (w : World) (ha : 0 ≤ a) (hb : 0 ≤ b) :
    Calls Tryz.prog 152 #[.int .u64 a, .int .u64 b] w fun e w' => e = .returned (.int .u64 (ofF (toF a + toF b))) ∧ w = w' := by
  have h1 := ofF_nonneg (toF a); have h2 := ofF_lt (toF a); have h3 := ofF_nonneg (toF b); have h4 := ofF_lt (toF b)
  go_enter Tryz.func152, Tryz.ntmps152
  go_wp2_with fail
  refine (fNorm_any _ _ ha).mono ?_
  rintro e w' ⟨rfl, rfl⟩
  go_wp2_with fail
  refine (fNorm_any _ _ hb).mono ?_
  rintro e w' ⟨rfl, rfl⟩
  go_wp2
  go_ret
  exact ⟨ret_int (ofF_add' _ _), rfl⟩
theorem fSub_any (a b : Int) (w : World) (ha : 0 ≤ a) (hb : 0 ≤ b) :
    Calls Tryz.prog 157 #[.int .u64 a, .int .u64 b] w fun e w' => e = .returned (.int .u64 (ofF (toF a - toF b))) ∧ w = w' := by
  have h1 := ofF_nonneg (toF a); have h2 := ofF_lt (toF a); have h3 := ofF_nonneg (toF b); have h4 := ofF_lt (toF b)
  go_enter Tryz.func157, Tryz.ntmps157
  go_wp2_with fail
  refine (fNorm_any _ _ ha).mono ?_
  rintro e w' ⟨rfl, rfl⟩
  go_wp2_with fail
  refine (fNorm_any _ _ hb).mono ?_
  rintro e w' ⟨rfl, rfl⟩
  go_wp2
  go_ret
  exact ⟨ret_int (ofF_sub' _ _), rfl⟩
theorem fMul_any (a b : Int) (w : World) (ha : 0 ≤ a) (hb : 0 ≤ b) :
    Calls Tryz.prog 153 #[.int .u64 a, .int .u64 b] w fun e w' => e = .returned (.int .u64 (ofF (toF a * toF b))) ∧ w = w' := by
  obtain ⟨h1, h2⟩ := ofF_prod (toF a) (toF b)
  go_enter Tryz.func153, Tryz.ntmps153
  go_wp2_with fail
  refine (fNorm_any _ _ ha).mono ?_
  rintro e w' ⟨rfl, rfl⟩
  go_wp2_with fail
  refine (fNorm_any _ _ hb).mono ?_
  rintro e w' ⟨rfl, rfl⟩
  go_wp2
  go_ret
  exact ⟨ret_int (ofF_mul' _ _), rfl⟩
def fpow (a : F) (n : Int) : F := a ^ n.toNat
def zErr (a : F) : Int := if a = 0 then 1 else 0
theorem fpow_inv (a : F) : fpow a 2147483645 = inv a := rfl
def U64 (n : Int) : Prop := 0 ≤ n ∧ n < 18446744073709551616
theorem and_one {n : Int} (h : U64 n) : bits .and .u64 n 1 = n % 2 := by
  rw [u64_and n 1 h.1 h.2 (by omega) (by omega)]
  have : (1 : Int).toNat = 1 := rfl
  rw [this, Nat.and_one_is_mod]
  have := h.1
  omega
theorem U64.half {n : Int} (h : U64 n) : U64 (n / 2) := by unfold U64 at *; omega
theorem pow_half {u : F} {k : Int} (hk : 0 ≤ k) (h1 : k % 2 = 0) : fpow (u * u) (k / 2) = fpow u k := by
  unfold fpow
  have : k.toNat = (k / 2).toNat + (k / 2).toNat := by omega
  rw [this, pow_add, mul_pow]
theorem pow_odd {u : F} {k : Int} (hk : 0 ≤ k) (h1 : k % 2 = 1) : u * fpow (u * u) (k / 2) = fpow u k := by
  unfold fpow
  have : k.toNat = ((k / 2).toNat + (k / 2).toNat) + 1 := by omega
  rw [this, pow_succ, pow_add, mul_pow]; grind
theorem fPow_any (a n : Int) (w : World) (ha : 0 ≤ a) (hn : U64 n) :
    Calls Tryz.prog 199 #[.int .u64 a, .int .u64 n] w fun e w' => e = .returned (.int .u64 (ofF (fpow (toF a) n))) ∧ w = w' := by
  go_enter Tryz.func199, Tryz.ntmps199
  go_wp2_with fail
  refine (fNorm_any _ _ ha).mono ?_
  rintro e w' ⟨rfl, rfl⟩
  go_wp2_with fail
  go_loop [0, 1, 5] (fun x i o => ∃ (u v : F) (k : Int), U64 k ∧ x = .int .u64 (ofF u) ∧ i = .int .u64 k ∧ o = .int .u64 (ofF v) ∧ v * fpow u k = fpow (toF a) n) (fun _ i _ => (intOf i).toNat)
  case atStart => exact ⟨toF a, 1, n, hn, rfl, rfl, rfl, F_om _⟩
  case round =>
    obtain ⟨u, v, k, hk, rfl, rfl, rfl, hr⟩ := hrel
    have H := Lib.hid hr
    clear hr
    have hk0 := hk.1
    rcases (show k = 0 ∨ (0 < k ∧ k % 2 = 0) ∨ k % 2 = 1 by omega) with h0 | ⟨hp, h0⟩ | h0
    · subst h0
      go_wp2_with fail
      go_ret
      have h := H.out
      rw [show fpow u 0 = 1 from Croft.pow_zero u, F_mo] at h
      exact ⟨ret_int (by rw [h]), rfl⟩
    · have hb : bits .and .u64 k 1 = 0 := by rw [and_one hk, h0]
      have HA := Lib.hid h0
      clear h0
      go_wp2_with fail
      refine (fMul_any _ _ _ (ofF_nonneg _) (ofF_nonneg _)).mono ?_
      rintro e w' ⟨rfl, rfl⟩
      go_wp2_with fail
      simp only [toF_ofF]
      refine ⟨⟨u * u, v, k / 2, hk.half, rfl, rfl, rfl, ?_⟩, by simp [intOf]; omega⟩
      rw [← H.out, pow_half hk0 HA.out]
    · have hb : bits .and .u64 k 1 = 1 := by rw [and_one hk, h0]
      have hp : 0 < k := by omega
      have HA := Lib.hid h0
      clear h0
      go_wp2_with fail
      refine (fMul_any _ _ _ (ofF_nonneg _) (ofF_nonneg _)).mono ?_
      rintro e w' ⟨rfl, rfl⟩
      go_wp2_with fail
      refine (fMul_any _ _ _ (ofF_nonneg _) (ofF_nonneg _)).mono ?_
      rintro e w' ⟨rfl, rfl⟩
      go_wp2_with fail
      simp only [toF_ofF]
      refine ⟨⟨u * u, v * u, k / 2, hk.half, rfl, rfl, rfl, ?_⟩, by simp [intOf]; omega⟩
      rw [← H.out, ← pow_odd hk0 HA.out]; grind
theorem fInv_any (a : Int) (w : World) (ha : 0 ≤ a) :
    Calls Tryz.prog 181 #[.int .u64 a] w fun e w' => e = .returned (.tuple #[.int .u64 (ofF (inv (toF a))), .int .i64 (zErr (toF a))]) ∧ w = w' := by
  by_cases h : toF a = 0
  · have h0 : ofF (toF a) = 0 := by rw [h]; rfl
    have h1 : zErr (toF a) = 1 := by rw [h]; rfl
    have h2 : ofF (inv (toF a)) = 0 := by rw [h, inv_zero]; rfl
    rw [h1, h2]
    clear h h1 h2
    go_enter Tryz.func181, Tryz.ntmps181
    go_wp2_with fail
    refine (fNorm_any _ _ ha).mono ?_
    rintro e w' ⟨rfl, rfl⟩
    rw [h0]
    go_wp2_with fail
    go_ret2
    exact ⟨rfl, rfl⟩
  · have h0 : (ofF (toF a) == 0) = false := by rw [beq_eq_false_iff_ne]; exact fun hh => h (ofF_inj hh)
    have h1 : zErr (toF a) = 0 := by unfold zErr; rw [if_neg h]
    rw [h1]
    clear h h1
    go_enter Tryz.func181, Tryz.ntmps181
    go_wp2_with fail
    refine (fNorm_any _ _ ha).mono ?_
    rintro e w' ⟨rfl, rfl⟩
    try dsimp only
    go_wp2_with fail
    refine (fPow_any _ _ _ ha ⟨by omega, by omega⟩).mono ?_
    rintro e w' ⟨rfl, rfl⟩
    try dsimp only
    go_wp2_with fail
    go_ret2
    exact ⟨by rw [fpow_inv]; rfl, rfl⟩
def topF (b : F) (k : Int) : F := toF (ofF b / 2 ^ k.toNat)
theorem topF_0 (b : F) : topF b 0 = b := by
  unfold topF
  rw [show ((2 : Int) ^ (0 : Int).toNat) = 1 from rfl, Int.ediv_one, toF_ofF]
theorem topF_31 (b : F) : topF b (30 + 1) = 0 := by
  unfold topF
  rw [show ((2 : Int) ^ (30 + 1 : Int).toNat) = 2147483648 from rfl, Int.ediv_eq_zero_of_lt (ofF_nonneg b) (by have := ofF_lt b; omega), toF_zero]
theorem topF_step (b : F) (k : Int) (hk : 0 ≤ k) : topF b k = topF b (k + 1) + topF b (k + 1) + toF (ofF b / 2 ^ k.toNat % 2) := by
  unfold topF
  rw [show (k + 1).toNat = k.toNat + 1 by omega, Int.pow_succ, ← Int.ediv_ediv_of_nonneg (by exact Int.pow_nonneg (by omega)), ← toF_add, ← toF_add]
  congr 1
  omega
theorem rNorm_any (a : Int) (w : World) (ha : U64 a) :
    Calls Tryz.prog 83 #[.int .u64 a] w fun e w' => e = .returned (.int .u64 (ofF (toF a))) ∧ w = w' := by
  rw [ofF_toF, P_val]
  obtain ⟨h1, h2⟩ := ha
  have h3 : 0 ≤ a / 2147483647 * 2147483647 := by omega
  have h4 : a / 2147483647 * 2147483647 ≤ a := by omega
  go_enter Tryz.func83, Tryz.ntmps83
  go_wp2
  go_ret
  have hP : ((2147483647 : Nat) : Int) = 2147483647 := rfl
  exact ⟨ret_int (by rw [hP]; omega), rfl⟩
theorem U64.of_ofF (a : F) : U64 (ofF a) := by have := ofF_nonneg a; have := ofF_lt a; unfold U64; omega
theorem toF_two (u v : F) : toF (ofF u + ofF v) = u + v := by rw [toF_add, toF_ofF, toF_ofF]
theorem rAdd_any (a b : Int) (w : World) (ha : U64 a) (hb : U64 b) :
    Calls Tryz.prog 167 #[.int .u64 a, .int .u64 b] w fun e w' => e = .returned (.int .u64 (ofF (toF a + toF b))) ∧ w = w' := by
  have h1 := ofF_nonneg (toF a); have h2 := ofF_lt (toF a); have h3 := ofF_nonneg (toF b); have h4 := ofF_lt (toF b)
  go_enter Tryz.func167, Tryz.ntmps167
  go_wp2_with fail
  refine (rNorm_any _ _ ha).mono ?_
  rintro e w' ⟨rfl, rfl⟩
  try dsimp only
  go_wp2_with fail
  refine (rNorm_any _ _ hb).mono ?_
  rintro e w' ⟨rfl, rfl⟩
  try dsimp only
  go_wp2_with fail
  refine (rNorm_any _ _ ⟨by omega, by omega⟩).mono ?_
  rintro e w' ⟨rfl, rfl⟩
  try dsimp only
  go_wp2_with fail
  go_ret
  exact ⟨ret_int (by rw [toF_two]), rfl⟩
theorem rNeg_any (a : Int) (w : World) (ha : U64 a) :
    Calls Tryz.prog 171 #[.int .u64 a] w fun e w' => e = .returned (.int .u64 (ofF (- toF a))) ∧ w = w' := by
  have h1 := ofF_nonneg (toF a); have h2 := ofF_lt (toF a)
  go_enter Tryz.func171, Tryz.ntmps171
  go_wp2_with fail
  refine (rNorm_any _ _ ha).mono ?_
  rintro e w' ⟨rfl, rfl⟩
  try dsimp only
  go_wp2_with fail
  refine (rNorm_any _ _ ⟨by omega, by omega⟩).mono ?_
  rintro e w' ⟨rfl, rfl⟩
  try dsimp only
  go_wp2_with fail
  go_ret
  exact ⟨ret_int (by rw [toF_sub, toF_ofF, show toF 2147483647 = 0 from ofF_inj (by rw [ofF_toF]; rfl)]; grind), rfl⟩
set_option maxRecDepth 100000 in
theorem rMul_any (a b : Int) (w : World) (ha : U64 a) (hb : U64 b) :
    Calls Tryz.prog 168 #[.int .u64 a, .int .u64 b] w fun e w' => e = .returned (.int .u64 (ofF (toF a * toF b))) ∧ w = w' := by
  go_enter Tryz.func168, Tryz.ntmps168
  go_wp2_with fail
  refine (rNorm_any _ _ ha).mono ?_
  rintro e w' ⟨rfl, rfl⟩
  try dsimp only
  go_wp2_with fail
  refine (rNorm_any _ _ hb).mono ?_
  rintro e w' ⟨rfl, rfl⟩
  try dsimp only
  go_wp2_with fail
  have ha1 := ofF_nonneg (toF a); have ha2 := ofF_lt (toF a)
  have hp := ofF_nonneg (toF b)
  go_loop [5, 6] (fun o i => ∃ (u : F) (k : Int), -1 ≤ k ∧ k ≤ 30 ∧ o = .int .u64 (ofF u) ∧ i = .int .i64 k ∧ u = toF a * topF (toF b) (k + 1)) (fun _ i => (intOf i + 1).toNat)
  case atStart => exact ⟨0, 30, by omega, by omega, rfl, rfl, by rw [topF_31, F_mz]⟩
  case round =>
    obtain ⟨u, k, hk1, hk2, rfl, rfl, hr⟩ := hrel
    have H := Lib.hid hr
    clear hr
    by_cases hk : 0 ≤ k
    · have h1 := ofF_nonneg u; have h2 := ofF_lt u
      have h3 := ofF_nonneg (u + u); have h4 := ofF_lt (u + u)
      have HS := Lib.hid (topF_step (toF b) k hk)
      go_wp2_with fail
      refine (rNorm_any _ _ ⟨by omega, by omega⟩).mono ?_
      rintro e w' ⟨rfl, rfl⟩
      rw [toF_two]
      have hn := shrN_nonneg hp k
      have hb : shrN (ofF (toF b)) k % 2 = 0 ∨ shrN (ofF (toF b)) k % 2 = 1 := by omega
      rcases hb with hb | hb
      · go_wp2_with (refine wpList_shr .u64 _ _ _ _ _ k rfl rfl rfl rfl hk (by omega) rfl ?_)
        refine ⟨⟨u + u, k - 1, by omega, by omega, rfl, by go_num, ?_⟩, by simp [intOf]; omega⟩
        have h := HS.out
        rw [show k - 1 + 1 = k by omega, h, H.out, show ofF (toF b) / 2 ^ k.toNat % 2 = 0 from hb, toF_zero]
        grind
      · go_wp2_with (refine wpList_shr .u64 _ _ _ _ _ k rfl rfl rfl rfl hk (by omega) rfl ?_)
        refine (rNorm_any _ _ ⟨by omega, by omega⟩).mono ?_
        rintro e w' ⟨rfl, rfl⟩
        rw [toF_two]
        go_wp2_with fail
        refine ⟨⟨u + u + toF a, k - 1, by omega, by omega, rfl, by go_num, ?_⟩, by simp [intOf]; omega⟩
        have h := HS.out
        rw [show k - 1 + 1 = k by omega, h, H.out, show ofF (toF b) / 2 ^ k.toNat % 2 = 1 from hb, toF_one]
        grind
    · go_wp2_with fail
      go_ret
      obtain rfl : k = -1 := by omega
      exact ⟨ret_int (by rw [H.out, show (-1 : Int) + 1 = 0 from rfl, topF_0]), rfl⟩
theorem euclid_step {r m : Int} (hr : 0 ≤ r) (hm : 0 ≤ m) : Int.gcd m (r - r / m * m) = Int.gcd r m := by
  rw [show r - r / m * m = r % m by rw [Int.emod_def, Int.mul_comm]]
  obtain ⟨r, rfl⟩ := Int.eq_ofNat_of_zero_le hr
  obtain ⟨m, rfl⟩ := Int.eq_ofNat_of_zero_le hm
  rw [← Int.natCast_emod, Int.gcd_natCast_natCast, Int.gcd_natCast_natCast, Nat.gcd_comm, ← Nat.gcd_rec, Nat.gcd_comm]
theorem euclid_facts (r n : Int) (hr : 0 ≤ r) (hn : 0 < n) : ∃ q, r / n = q ∧ 0 ≤ q * n ∧ q * n ≤ r ∧ r - q * n < n ∧ (0 ≤ q ∧ q ≤ r) ∧ Int.gcd n (r - q * n) = Int.gcd r n :=
  ⟨r / n, rfl, Int.mul_nonneg (Int.ediv_nonneg hr (by omega)) (by omega), Int.ediv_mul_le r (by omega), by rw [show r - r / n * n = r % n by rw [Int.emod_def, Int.mul_comm]]; exact Int.emod_lt_of_pos _ hn,
    ⟨Int.ediv_nonneg hr (by omega), Int.ediv_le_self _ hr⟩, euclid_step hr (by omega)⟩
theorem P_int : (2147483647 : Int) = ((P : Nat) : Int) := rfl
theorem toF_P : toF 2147483647 = 0 := by rw [toF_eq_zero]; rfl
theorem gcd_P {a : F} (h : a ≠ 0) : Int.gcd 2147483647 (ofF a) = 1 := by
  have : ¬ P ∣ a.val := fun hd => by
    have h1 := a.isLt
    rcases Nat.eq_zero_or_pos a.val with h2 | h2
    · exact h (Fin.ext h2)
    · exact absurd (Nat.le_of_dvd h2 hd) (by omega)
  unfold ofF
  rw [P_int, Int.gcd_natCast_natCast]
  exact coprime this
theorem rInv_any (a : Int) (w : World) (ha : U64 a) :
    Calls Tryz.prog 189 #[.int .u64 a] w fun e w' => e = .returned (.int .u64 (ofF (inv (toF a)))) ∧ w = w' := by
  by_cases h : toF a = 0
  · have h0 : ofF (toF a) = 0 := by rw [h]; rfl
    have h2 : ofF (inv (toF a)) = 0 := by rw [h, inv_zero]; rfl
    rw [h2]
    clear h h2
    go_enter Tryz.func189, Tryz.ntmps189
    go_wp2_with fail
    refine (rNorm_any _ _ ha).mono ?_
    rintro e w' ⟨rfl, rfl⟩
    rw [h0]
    go_wp2_with fail
    go_loop [4, 5] (fun n x => n = .int .u64 0 ∧ x = .int .u64 0) (fun _ _ => 0)
    case atStart => exact ⟨rfl, rfl⟩
    case round =>
      obtain ⟨rfl, rfl⟩ := hrel
      go_wp2_with fail
      go_ret
      exact ⟨rfl, rfl⟩
  · have hg := gcd_P h
    have h1 := ofF_nonneg (toF a); have h2 := ofF_lt (toF a)
    have HG := Lib.hid hg
    clear h hg
    go_enter Tryz.func189, Tryz.ntmps189
    go_wp2_with fail
    refine (rNorm_any _ _ ha).mono ?_
    rintro e w' ⟨rfl, rfl⟩
    try dsimp only
    go_wp2_with fail
    go_loop [3, 4, 5, 6] (fun r n x t => ∃ (r' n' : Int) (x' t' : F), 0 ≤ n' ∧ n' < r' ∧ r' ≤ 2147483647 ∧ r = .int .u64 r' ∧ n = .int .u64 n' ∧ x = .int .u64 (ofF x') ∧ t = .int .u64 (ofF t') ∧ Int.gcd r' n' = 1 ∧ x' * toF a = toF r' ∧ t' * toF a = toF n') (fun _ n _ _ => (intOf n).toNat)
    case atStart => exact ⟨2147483647, ofF (toF a), 0, 1, h1, h2, by omega, rfl, rfl, rfl, rfl, HG.out, by rw [F_zm, toF_P], by rw [F_om, toF_ofF]⟩
    case round =>
      obtain ⟨r, n, x, t, h3, h4, h5, rfl, rfl, rfl, rfl, hg, hx, ht⟩ := hrel
      have HG := Lib.hid hg
      have HX := Lib.hid hx
      have HT := Lib.hid ht
      clear hg hx ht
      by_cases hn : n = 0
      · subst hn
        go_wp2_with fail
        go_ret
        refine ⟨ret_int ?_, rfl⟩
        have hr : r = 1 := by have := HG.out; rw [Int.gcd_zero_right] at this; omega
        have := HX.out
        rw [hr, toF_one] at this
        rw [inv_unique (a := toF a) (b := x) (by grind)]
      · have hp : 0 < n := by omega
        have h1n : 1 ≤ n := by omega
        have hr0 : 0 ≤ r := by omega
        have hne : (n != 0) = true := by rw [bne_iff_ne]; omega
        clear hn
        obtain ⟨q, hq, hq1, hq2, hq3, hq0, hstep⟩ := euclid_facts r n hr0 hp
        have HQ := Lib.hid hq
        have HE := Lib.hid hstep
        clear hq hstep
        go_wp2_with (refine wpList_quo _ _ _ _ r n q rfl rfl rfl rfl hr0 h1n (by omega) HQ.out ?_)
        refine (rMul_any _ _ _ ⟨by omega, by omega⟩ (U64.of_ofF _)).mono ?_
        rintro e w' ⟨rfl, rfl⟩
        go_wp2_with fail
        refine (rNeg_any _ _ (U64.of_ofF _)).mono ?_
        rintro e w' ⟨rfl, rfl⟩
        try dsimp only
        go_wp2_with fail
        refine (rAdd_any _ _ _ (U64.of_ofF _) (U64.of_ofF _)).mono ?_
        rintro e w' ⟨rfl, rfl⟩
        simp only [toF_ofF]
        go_wp2_with fail
        refine ⟨⟨n, r - q * n, t, _, by omega, by omega, by omega, rfl, rfl, rfl, rfl, by rw [HE.out]; exact HG.out, HT.out, ?_⟩, by simp [intOf]; omega⟩
        have hx := HX.out; have ht := HT.out
        rw [toF_sub, toF_mul, ← hx, ← ht]
        grind
section
variable {P : Program} {ops : Array Oper} {md : Region.Mode} {C : World → Prop}
def wpAnyLQ (P : Program) (md : Region.Mode) (ops : Array Oper) (C : World → Prop) (n : Nat) (L : Array Bool → Act → Prop) : Nat → Array Bool → Act → Prop
  | 0, listed, a => L listed a
  | f + 1, listed, a =>
    Region.ready md ops listed ≠ [] ∧ ∀ i ∈ Region.ready md ops listed, i < n ∧ qOp P ops C i (wpAnyLQ P md ops C n L f (listed.setIfInBounds i true)) a
theorem wpAny_of_headQ {n g : Nat} {L : Array Bool → Act → Prop} {Q' : Exit → Act → World → Prop} (hL : ∀ listed a w, C w → L listed a → wpAny P md ops Q' g listed a w) :
    ∀ (f : Nat) (listed : Array Bool) (a : Act) (w : World), C w → wpAnyLQ P md ops C n L f listed a → wpAny P md ops Q' (f + g) listed a w
  | 0, listed, a, w, hw, h => by rw [Nat.zero_add]; exact hL _ _ _ hw h
  | f + 1, listed, a, w, hw, h => by
    rw [show f + 1 + g = (f + g) + 1 by omega]
    exact ⟨fun h0 => absurd h0 h.1, fun i hi => wpOp_of_qOp hw (fun a' w' hw' h' => wpAny_of_headQ hL f _ a' w' hw' h') (h.2 i hi).2⟩
theorem wpAnyLQ_first {n i : Nat} {oi : Oper} {v : Value} {L : Array Bool → Act → Prop} (hi : ops[i]? = some oi) (hsel : ∀ (j : Nat) (o : Oper) cs b, ops[j]? = some o → o.op ≠ .select cs b)
    (hs : Region.sinkB md ops n = true) (hc : Region.chainB md ops n = true) (hn : n < ops.size) (hin : i < n)
    (hdone : ∀ listed a, L listed a → ∀ j ∈ Region.ready md ops listed, n ≤ j) :
    ∀ (f : Nat) (listed : Array Bool) (a : Act), HeadInv md ops n listed →
      (∀ j oj, ops[j]? = some oj → j ≠ i → listed.getD j true = false → (∀ e ∈ oj.after, Region.binds md e = true → e.on ≠ i) → oi.apart ops oj = true) →
      i ∈ Region.ready md ops listed → YieldsIn P ops C oi v a →
      wpAnyLQ P md ops C n L f (listed.setIfInBounds i true) (a.put oi.dst v) → wpAnyLQ P md ops C n L (f + 1) listed a := by
  intro f
  induction f with
  | zero =>
    intro listed a inv _ hr hy H
    have hun := (mem_ready.1 hr).1
    refine ⟨fun h => (by rw [h] at hr; cases hr), fun j hj => ?_⟩
    have hjn : j < n := by
      rcases Nat.lt_or_ge j n with h | h
      · exact h
      · exact absurd hj (tail_waits hs hc hn inv _ i rfl hin hun j h)
    refine ⟨hjn, ?_⟩
    by_cases hji : j = i
    · subst hji; exact hy.qOp hi H
    · have := hdone _ _ H j (ready_mono hj hji)
      omega
  | succ f ih =>
    intro listed a inv hfree hr hy H
    have hun := (mem_ready.1 hr).1
    refine ⟨fun h => (by rw [h] at hr; cases hr), fun j hj => ?_⟩
    have hjn : j < n := by
      rcases Nat.lt_or_ge j n with h | h
      · exact h
      · exact absurd hj (tail_waits hs hc hn inv _ i rfl hin hun j h)
    refine ⟨hjn, ?_⟩
    by_cases hji : j = i
    · subst hji; exact hy.qOp hi H
    · have h1 := (H.2 j (ready_mono hj hji)).2
      obtain ⟨hjun, oj, hoj, hall⟩ := mem_ready.1 hj
      have hnot : ∀ e ∈ oj.after, Region.binds md e = true → e.on ≠ i := fun e he hb heq => by
        have h1 := hall e he hb
        rw [heq, getD_both hun] at h1
        cases h1
      have h2 := qOp_put hoj (hfree j oj hoj hji hjun hnot) (fun cs b => hsel i oi cs b hi) (fun cs b => hsel j oj cs b hoj) hy h1
      have hfree' : ∀ k ok, ops[k]? = some ok → k ≠ i → (listed.setIfInBounds j true).getD k true = false →
          (∀ e ∈ ok.after, Region.binds md e = true → e.on ≠ i) → oi.apart ops ok = true := fun k ok hk hki hun hno => by
        refine hfree k ok hk hki ?_ hno
        by_cases hjk : j = k
        · subst hjk; exact hjun
        · rw [getD_set_ne true hjk] at hun; exact hun
      refine qOp_mono (fun a' h3 => ih (listed.setIfInBounds j true) a' (inv.set hj hjn) hfree' (ready_mono hr (Ne.symm hji)) h3.1 ?_) h2
      rw [Array.setIfInBounds_comm _ _ hji]
      exact h3.2
theorem wpAnyLQ_lex {n g : Nat} {Lq : Act → Prop} (hsel : Region.noSelect ops = true) (hs : Region.sinkB md ops n = true) (hc : Region.chainB md ops n = true) (hn : n < ops.size) :
    ∀ (l : List Oper) (k : Nat) (listed : Array Bool) (a : Act), (∀ j, j < l.length → l[j]? = ops[k + j]?) → k + l.length = n → HeadInv md ops n listed →
    Region.lexHead md ops g l.length k listed = true → wpQuiet P ops C Lq l a →
    wpAnyLQ P md ops C n (fun listed' a' => Region.seqB md ops g n listed' = true ∧ Lq a') l.length listed a
  | [], k, listed, a, _, hk, _, hB, h => by
    have : k = n := by simpa using hk
    subst this
    exact ⟨by simpa [Region.lexHead] using hB, h⟩
  | o :: l, k, listed, a, hl, hk, inv, hB, h => by
    have h0 : ops[k]? = some o := by simpa using (hl 0 (by simp)).symm
    simp only [List.length_cons, Region.lexHead, Bool.and_eq_true] at hB
    obtain ⟨⟨hr, hf⟩, hB'⟩ := hB
    have hkn : k < n := by simp only [List.length_cons] at hk; omega
    have hr' : k ∈ Region.ready md ops listed := by simpa using hr
    have hst : qOp P ops C k (wpQuiet P ops C Lq l) a := by unfold qOp; simp only [h0]; exact h
    obtain ⟨v, hy, hK⟩ := yieldsIn_of_qOp h0 hst
    exact wpAnyLQ_first h0 (Region.noSelect_spec hsel) hs hc hn hkn (fun listed' a' hL => seqB_ready hL.1) l.length listed a inv (Region.free_spec h0 hf) hr' hy
      (wpAnyLQ_lex hsel hs hc hn l (k + 1) _ _ (fun j hj => by have := hl (j + 1) (by simp; omega); simpa [Nat.add_assoc, Nat.add_comm 1 j] using this) (by simp only [List.length_cons] at hk; omega) (inv.set hr' hkn) hB' hK)
theorem wp_region_quiet_tail {id : Nat} {Q : Exit → Act → World → Prop} {a : Act} {w : World} {l : List Oper} (n : Nat) (hm : P.follows .mixedOrders = true) (hB : Region.lexTailB .any l.toArray n = true)
    (h : wpQuiet P l.toArray (fun w' => ∃ n, w' = w.drewN n) (fun a' => ∀ nq, wpList P l.toArray Q (l.drop n) a' (w.drewN nq)) (l.take n) a) : (Code.region id l.toArray true).wp P Q a w := by
  simp only [Region.lexTailB, Bool.and_eq_true, decide_eq_true_eq] at hB
  obtain ⟨⟨⟨⟨hsel, hn⟩, hs⟩, hc⟩, hlex⟩ := hB
  have hn' : n < l.length := by simpa using hn
  have htl : (l.take n).length = n := by simp; omega
  have hdl : (l.drop n).length = l.toArray.size - n := by simp
  have inv0 : HeadInv .any l.toArray n (Array.replicate l.toArray.size false) :=
    ⟨by simp, fun j oj _ hl => (by rw [getD_replicate_false] at hl; cases hl), fun t _ ht => getD_in (by simpa using ht) (getD_replicate_false _ _)⟩
  have H := wpAnyLQ_lex (md := .any) (g := l.toArray.size - n) hsel hs hc hn (l.take n) 0 _ a (fun j hj => by
    have hj' : j < n := by rw [htl] at hj; exact hj
    simp [hj']) (by simpa using htl) inv0 (by rw [htl]; exact hlex) h
  refine wp_region_any hm ?_
  have := wpAny_of_headQ (Q' := Q) (g := l.toArray.size - n) (fun listed a' w' hw' hL => by
    obtain ⟨nq, rfl⟩ := hw'
    have := wpAny_of_seq (md := .any) (Q' := Q) (l.drop n) n listed a' (w.drewN nq) (fun j => by simp [List.getElem?_drop]) (by rw [hdl]; exact hL.1) (hL.2 nq)
    rwa [hdl] at this) _ _ _ { w with drawn := w.drawn + 1 } ⟨1, rfl⟩ H
  rw [htl, show n + (l.toArray.size - n) = l.toArray.size by omega] at this
  exact this
def sinkFrom (md : Region.Mode) (ops : Array Oper) (m n : Nat) : Bool :=
  (List.range n).all fun i => decide (i < m) || (List.range (n + 1)).any fun j => decide (i < j) && Region.waitsFor md ops j i
theorem tail_waitsF {m n : Nat} {listed : Array Bool} (hs : sinkFrom md ops m n = true) (hc : Region.chainB md ops n = true) (hn : n < ops.size) (inv : HeadInv md ops n listed) :
    ∀ (d i : Nat), n - i = d → i < n → m ≤ i → listed.getD i true = false → ∀ t, n ≤ t → t ∉ Region.ready md ops listed := by
  intro d
  induction d using Nat.strongRecOn with
  | _ d ih =>
    intro i hd hi hmi hun t ht hr
    obtain ⟨_, ot, hot, hall⟩ := mem_ready.1 hr
    have htlt : t < ops.size := (Array.getElem?_eq_some_iff.1 hot).1
    by_cases htn : t = n
    · subst htn
      have h1 := List.all_eq_true.1 hs i (List.mem_range.2 hi)
      simp only [Bool.or_eq_true, decide_eq_true_eq] at h1
      have h1 := h1.resolve_left (by omega)
      obtain ⟨j, hj, hj2⟩ := List.any_eq_true.1 h1
      simp only [Bool.and_eq_true, decide_eq_true_eq] at hj2
      obtain ⟨oj, hoj, e, he, hb, hon⟩ := Region.waitsFor_spec hj2.2
      have hjle : j ≤ t := by have := List.mem_range.1 hj; omega
      by_cases hjt : j = t
      · subst hjt
        have : oj = ot := Option.some.inj (hoj.symm.trans hot)
        subst this
        have h2 := hall e he hb
        rw [hon, getD_both hun] at h2
        cases h2
      · cases hl : listed.getD j false with
        | true =>
          have h2 := inv.closed j oj hoj hl e he hb
          rw [hon, getD_both hun] at h2
          cases h2
        | false =>
          have hjs : j < listed.size := by rw [inv.size]; omega
          exact ih (t - j) (by omega) j rfl (by omega) (by omega) (getD_in hjs hl) t (Nat.le_refl _) hr
    · have h1 := List.all_eq_true.1 hc t (List.mem_range.2 htlt)
      simp only [Bool.or_eq_true, decide_eq_true_eq] at h1
      rcases h1 with h1 | h1
      · omega
      · obtain ⟨o', ho', e, he, hb, hon⟩ := Region.waitsFor_spec h1
        have : o' = ot := Option.some.inj (ho'.symm.trans hot)
        subst this
        have h2 := hall e he hb
        rw [hon, getD_both (inv.tail (t - 1) (by omega) (by omega))] at h2
        cases h2
theorem wpAnyLQ_firstF {m n i : Nat} {oi : Oper} {v : Value} {L : Array Bool → Act → Prop} (hi : ops[i]? = some oi) (hsel : ∀ (j : Nat) (o : Oper) cs b, ops[j]? = some o → o.op ≠ .select cs b)
    (hs : sinkFrom md ops m n = true) (hc : Region.chainB md ops n = true) (hn : n < ops.size) (hin : i < n) (him : m ≤ i)
    (hdone : ∀ listed a, L listed a → ∀ j ∈ Region.ready md ops listed, n ≤ j) :
    ∀ (f : Nat) (listed : Array Bool) (a : Act), HeadInv md ops n listed →
      (∀ j oj, ops[j]? = some oj → j ≠ i → listed.getD j true = false → (∀ e ∈ oj.after, Region.binds md e = true → e.on ≠ i) → oi.apart ops oj = true) →
      i ∈ Region.ready md ops listed → YieldsIn P ops C oi v a →
      wpAnyLQ P md ops C n L f (listed.setIfInBounds i true) (a.put oi.dst v) → wpAnyLQ P md ops C n L (f + 1) listed a := by
  intro f
  induction f with
  | zero =>
    intro listed a inv _ hr hy H
    have hun := (mem_ready.1 hr).1
    refine ⟨fun h => (by rw [h] at hr; cases hr), fun j hj => ?_⟩
    have hjn : j < n := by
      rcases Nat.lt_or_ge j n with h | h
      · exact h
      · exact absurd hj (tail_waitsF hs hc hn inv _ i rfl hin him hun j h)
    refine ⟨hjn, ?_⟩
    by_cases hji : j = i
    · subst hji; exact hy.qOp hi H
    · have := hdone _ _ H j (ready_mono hj hji)
      omega
  | succ f ih =>
    intro listed a inv hfree hr hy H
    have hun := (mem_ready.1 hr).1
    refine ⟨fun h => (by rw [h] at hr; cases hr), fun j hj => ?_⟩
    have hjn : j < n := by
      rcases Nat.lt_or_ge j n with h | h
      · exact h
      · exact absurd hj (tail_waitsF hs hc hn inv _ i rfl hin him hun j h)
    refine ⟨hjn, ?_⟩
    by_cases hji : j = i
    · subst hji; exact hy.qOp hi H
    · have h1 := (H.2 j (ready_mono hj hji)).2
      obtain ⟨hjun, oj, hoj, hall⟩ := mem_ready.1 hj
      have hnot : ∀ e ∈ oj.after, Region.binds md e = true → e.on ≠ i := fun e he hb heq => by
        have h1 := hall e he hb
        rw [heq, getD_both hun] at h1
        cases h1
      have h2 := qOp_put hoj (hfree j oj hoj hji hjun hnot) (fun cs b => hsel i oi cs b hi) (fun cs b => hsel j oj cs b hoj) hy h1
      have hfree' : ∀ k ok, ops[k]? = some ok → k ≠ i → (listed.setIfInBounds j true).getD k true = false →
          (∀ e ∈ ok.after, Region.binds md e = true → e.on ≠ i) → oi.apart ops ok = true := fun k ok hk hki hun hno => by
        refine hfree k ok hk hki ?_ hno
        by_cases hjk : j = k
        · subst hjk; exact hjun
        · rw [getD_set_ne true hjk] at hun; exact hun
      refine qOp_mono (fun a' h3 => ih (listed.setIfInBounds j true) a' (inv.set hj hjn) hfree' (ready_mono hr (Ne.symm hji)) h3.1 ?_) h2
      rw [Array.setIfInBounds_comm _ _ hji]
      exact h3.2
theorem wpAnyLQ_lexF {m n g : Nat} {Lq : Act → Prop} (hsel : Region.noSelect ops = true) (hs : sinkFrom md ops m n = true) (hc : Region.chainB md ops n = true) (hn : n < ops.size) :
    ∀ (l : List Oper) (k : Nat) (listed : Array Bool) (a : Act), (∀ j, j < l.length → l[j]? = ops[k + j]?) → k + l.length = n → m ≤ k → HeadInv md ops n listed →
    Region.lexHead md ops g l.length k listed = true → wpQuiet P ops C Lq l a →
    wpAnyLQ P md ops C n (fun listed' a' => Region.seqB md ops g n listed' = true ∧ Lq a') l.length listed a
  | [], k, listed, a, _, hk, _, _, hB, h => by
    have : k = n := by simpa using hk
    subst this
    exact ⟨by simpa [Region.lexHead] using hB, h⟩
  | o :: l, k, listed, a, hl, hk, hm, inv, hB, h => by
    have h0 : ops[k]? = some o := by simpa using (hl 0 (by simp)).symm
    simp only [List.length_cons, Region.lexHead, Bool.and_eq_true] at hB
    obtain ⟨⟨hr, hf⟩, hB'⟩ := hB
    have hkn : k < n := by simp only [List.length_cons] at hk; omega
    have hr' : k ∈ Region.ready md ops listed := by simpa using hr
    have hst : qOp P ops C k (wpQuiet P ops C Lq l) a := by unfold qOp; simp only [h0]; exact h
    obtain ⟨v, hy, hK⟩ := yieldsIn_of_qOp h0 hst
    exact wpAnyLQ_firstF h0 (Region.noSelect_spec hsel) hs hc hn hkn hm (fun listed' a' hL => seqB_ready hL.1) l.length listed a inv (Region.free_spec h0 hf) hr' hy
      (wpAnyLQ_lexF hsel hs hc hn l (k + 1) _ _ (fun j hj => by have := hl (j + 1) (by simp; omega); simpa [Nat.add_assoc, Nat.add_comm 1 j] using this) (by simp only [List.length_cons] at hk; omega) (by omega) (inv.set hr' hkn) hB' hK)
def moved (o : Oper) (a : Act) : Value := match o.op with | .move x => a.eval x | _ => undef
def putAll : List Oper → Act → Act
  | [], a => a
  | o :: l, a => putAll l (a.put o.dst (moved o a))
def marks : Nat → Nat → Array Bool → Array Bool
  | 0, _, listed => listed
  | m + 1, k, listed => marks m (k + 1) (listed.setIfInBounds k true)
def movesB (md : Region.Mode) (ops : Array Oper) : List Oper → Nat → Array Bool → Bool
  | [], _, _ => true
  | o :: l, k, listed => o.guard.isNone && (match o.op with | .move _ => true | _ => false) && o.after.isEmpty && (Region.ready md ops listed).contains k && Region.free md ops listed k && movesB md ops l (k + 1) (listed.setIfInBounds k true)
theorem take_moves {Q : Exit → Act → World → Prop} (hsel : Region.noSelect ops = true) (hQ : ∀ c (a : Act) d v w, Q (.panic c) (a.put (some d) v) w → Q (.panic c) a w) (fuel : Nat) (w : World) :
    ∀ (l : List Oper) (k : Nat) (listed : Array Bool) (a : Act), (∀ j, j < l.length → l[j]? = ops[k + j]?) → movesB md ops l k listed = true →
    wpAny P md ops Q fuel (marks l.length k listed) (putAll l a) w → wpAny P md ops Q (l.length + fuel) listed a w
  | [], k, listed, a, _, _, h => by rw [List.length_nil, Nat.zero_add]; exact h
  | o :: l, k, listed, a, hl, hB, h => by
    have h0 : ops[k]? = some o := by simpa using (hl 0 (by simp)).symm
    simp only [movesB, Bool.and_eq_true] at hB
    obtain ⟨⟨⟨⟨⟨hg, hmv⟩, _⟩, hr⟩, hf⟩, hB'⟩ := hB
    have hg' : o.guard = none := by simpa using hg
    rw [List.length_cons, show l.length + 1 + fuel = (l.length + fuel) + 1 by omega]
    refine wpAny_take h0 hsel hf hr (fun c a' w h => by cases hd : o.dst with
      | none => rw [hd] at h; exact h
      | some d => rw [hd] at h; exact hQ c a' d _ w h) (v := moved o a) (.inl ⟨by simp [Region.wanted, hg'], fun w => ?_⟩) ?_
    · unfold moved
      split at hmv
      · rename_i x hx
        simp [execOp, hx]
      · cases hmv
    · exact take_moves hsel hQ fuel w l (k + 1) _ _ (fun j hj => by have := hl (j + 1) (by simp; omega); simpa [Nat.add_assoc, Nat.add_comm 1 j] using this) hB' h
theorem marks_size : ∀ (m k : Nat) (listed : Array Bool), (marks m k listed).size = listed.size
  | 0, _, _ => rfl
  | m + 1, k, listed => by rw [marks, marks_size]; simp
theorem marks_other : ∀ (m k : Nat) (listed : Array Bool) (j : Nat) (d : Bool), (j < k ∨ k + m ≤ j) → (marks m k listed).getD j d = listed.getD j d
  | 0, _, _, _, _, _ => rfl
  | m + 1, k, listed, j, d, h => by rw [marks, marks_other m (k + 1) _ j d (by omega), getD_set_ne d (by omega)]
def preB (md : Region.Mode) (l : List Oper) (m n : Nat) : Bool :=
  Region.noSelect l.toArray && decide (n < l.length) && decide (m ≤ n) && movesB md l.toArray (l.take m) 0 (Array.replicate l.length false) && (l.take m).all (fun o => o.after.isEmpty) &&
    sinkFrom md l.toArray m n && Region.chainB md l.toArray n && Region.lexHead md l.toArray (l.length - n) (n - m) m (marks m 0 (Array.replicate l.length false))
theorem wp_region_quiet_tail_from {id : Nat} {Q : Exit → Act → World → Prop} {a : Act} {w : World} {l : List Oper} (m n : Nat) (hm : P.follows .mixedOrders = true) (hB : preB .any l m n = true)
    (hQ : ∀ c (a : Act) d v w, Q (.panic c) (a.put (some d) v) w → Q (.panic c) a w)
    (h : wpQuiet P l.toArray (fun w' => ∃ n, w' = w.drewN n) (fun a' => ∀ nq, wpList P l.toArray Q (l.drop n) a' (w.drewN nq)) ((l.take n).drop m) (putAll (l.take m) a)) : (Code.region id l.toArray true).wp P Q a w := by
  simp only [preB, Bool.and_eq_true, decide_eq_true_eq] at hB
  obtain ⟨⟨⟨⟨⟨⟨⟨hsel, hn⟩, hmn⟩, hmv⟩, hemp⟩, hs⟩, hc⟩, hlex⟩ := hB
  have hn' : n < l.toArray.size := by simpa using hn
  have htl : (l.take m).length = m := by simp; omega
  have hhl : ((l.take n).drop m).length = n - m := by simp; omega
  have hdl : (l.drop n).length = l.length - n := by simp
  have inv0 : HeadInv .any l.toArray n (marks m 0 (Array.replicate l.length false)) := by
    refine ⟨by rw [marks_size]; simp, fun j oj hj hl e he _ => ?_, fun t ht ht' => ?_⟩
    · rcases Nat.lt_or_ge j m with hjm | hjm
      · have hmem : oj ∈ l.take m := by
          have : l[j]? = some oj := by simpa using hj
          refine List.mem_of_getElem? (i := j) ?_
          rw [List.getElem?_take, if_pos hjm, this]
        have := List.all_eq_true.1 hemp oj hmem
        simp only [Array.isEmpty_iff] at this
        rw [this] at he
        simp at he
      · rw [marks_other m 0 _ j _ (by omega), getD_replicate_false] at hl
        cases hl
    · rw [marks_other m 0 _ t _ (by omega)]
      have : t < l.length := by simpa using ht'
      simp [Array.getD, this]
  refine wp_region_any hm ?_
  have H := wpAnyLQ_lexF (P := P) (C := fun w' => ∃ n, w' = w.drewN n) (md := .any) (g := l.length - n) hsel hs hc hn' ((l.take n).drop m) m _ (putAll (l.take m) a) (fun j hj => by
    rw [hhl] at hj
    rw [List.getElem?_drop, List.getElem?_take, if_pos (by omega)]
    simp) (by rw [hhl]; omega) (Nat.le_refl _) inv0 (by rw [hhl]; exact hlex) h
  have H2 := wpAny_of_headQ (Q' := Q) (g := l.length - n) (fun listed a' w' hw' hL => by
    obtain ⟨nq, rfl⟩ := hw'
    have := wpAny_of_seq (md := .any) (Q' := Q) (l.drop n) n listed a' (w.drewN nq) (fun j => by simp [List.getElem?_drop]) (by rw [hdl]; exact hL.1) (hL.2 nq)
    rwa [hdl] at this) _ _ _ { w with drawn := w.drawn + 1 } ⟨1, rfl⟩ H
  have H3 := take_moves (P := P) (md := .any) hsel hQ ((n - m) + (l.length - n)) { w with drawn := w.drawn + 1 } (l.take m) 0 (Array.replicate l.length false) a (fun j hj => by
    rw [htl] at hj
    rw [List.getElem?_take, if_pos hj]
    simp) hmv (by rw [htl]; rw [hhl] at H2; exact H2)
  rw [htl] at H3
  have e : l.toArray.size = m + (n - m + (l.length - n)) := by simp; omega
  rw [e]
  have e2 : m + (n - m + (l.length - n)) = l.length := by omega
  rw [e2] at H3 ⊢
  exact H3
end
end Go.Proofs.YtploomncapiloaaGreatDoor
