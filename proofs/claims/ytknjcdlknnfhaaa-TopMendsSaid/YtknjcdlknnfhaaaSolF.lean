/- Equations that are made of values: plain mathematics, no program. -/
import Derived.Test.YtknjcdlknnfhaaaSolP
namespace Croft
/-- values that meet the equations -/
def Meets (m n : Nat) (M : Mx) (y : Nat → F) : Prop := ∀ r, r < m → fsum n (fun j => M r j * y j) = M r n
theorem inc_few {f : Nat → Nat} {n c : Nat} (h : ∀ i j, i < j → j < n → f i < f j) (hc : ∀ i, i < n → f i < c) : n ≤ c := by
  have ge : ∀ i, i < n → i ≤ f i := by
    intro i
    induction i with
    | zero => intro _; omega
    | succ i ih => intro hi; have h1 := ih (by omega); have h2 := h i (i + 1) (by omega) hi; omega
  rcases Nat.eq_zero_or_pos n with h0 | h0
  · omega
  · have h1 := ge (n - 1) (by omega)
    have h2 := hc (n - 1) (by omega)
    omega
section
variable {M0 M M1 N1 : Mx} {m m1 n : Nat} {ls ls1 : List Nat}
theorem meets_ker {y : Nat → F} : Meets m n M0 y ↔ Ker m (n + 1) M0 (fun j => if j < n then y j else -1) := by
  have e : ∀ r, fsum (n + 1) (fun j => M0 r j * (if j < n then y j else -1)) = fsum n (fun j => M0 r j * y j) - M0 r n := fun r => by
    rw [fsum, if_neg (by omega), fsum_congr (g := fun j => M0 r j * y j) (fun i hi => by rw [if_pos hi])]
    grind
  constructor
  · intro h r hr
    rw [e, h r hr]; grind
  · intro h r hr
    have h1 := h r hr
    rw [e] at h1
    grind
theorem Red.meets (h : Red M0 M m (n + 1) n ls) {y : Nat → F} : Meets m n M0 y ↔ Meets m n M y := by
  rw [meets_ker, meets_ker, h.ker]
theorem Red.fits (h : Red M0 M m (n + 1) n ls) {y : Nat → F} (hy : Meets m n M0 y) : ∀ r, ls.length ≤ r → r < m → M r n = 0 := by
  intro r h1 h2
  rw [← (h.meets.1 hy) r h2]
  exact fsum_zero fun i hi => by rw [h.low r i h1 h2 hi, F_zm]
theorem Red.sol (h : Red M0 M m (n + 1) n ls) (hz : ∀ r, ls.length ≤ r → r < m → M r n = 0) : Meets m n M0 (ySol M ls n) := h.solves hz
theorem Red.row (h : Red M0 M m (n + 1) n ls) {z : Nat → F} (hz : ∀ j, j < n → j ∉ ls → z j = 0) {i : Nat} (hi : i < ls.length) : fsum n (fun j => M i j * z j) = z (ld ls i) := by
  have hm := h.len
  rw [fsum_one (ld ls i) (h.lt i hi), h.one i hi, F_om]
  intro j hj hne
  by_cases hjl : j ∈ ls
  · obtain ⟨k, hk, hke⟩ := ld_mem.1 hjl
    subst hke
    rw [h.zero k i hk (by omega) (fun e => hne (by rw [e])), F_zm]
  · rw [hz j hj hjl, F_mz]
theorem Red.unique (h : Red M0 M m (n + 1) n ls) {y y' : Nat → F} (hy : Meets m n M0 y) (hy' : Meets m n M0 y') (ho : ∀ j, j < n → j ∉ ls → y j = y' j) : ∀ j, j < n → y j = y' j := by
  intro j hj
  by_cases hjl : j ∈ ls
  · obtain ⟨i, hi, he⟩ := ld_mem.1 hjl
    subst he
    have hm := h.len
    have h1 := h.meets.1 hy i (by omega)
    have h2 := h.meets.1 hy' i (by omega)
    have h3 := h.row (z := fun j => y j - y' j) (fun j hj hjl => by rw [ho j hj hjl]; grind) hi
    have h4 : fsum n (fun j => M i j * (y j - y' j)) = fsum n (fun j => M i j * y j) + (-1) * fsum n (fun j => M i j * y' j) := by
      rw [← fsum_mul, ← fsum_add]
      exact fsum_congr fun k _ => by grind
    rw [h4, h1, h2] at h3
    grind
  · exact ho j hj hjl
theorem Red.full_all (h : Red M0 M m (n + 1) n ls) (hl : ls.length = n) : ∀ j, j < n → j ∈ ls := by
  have up : ∀ i, i < n → i ≤ ld ls i := by
    intro i
    induction i with
    | zero => intro _; omega
    | succ i ih => intro hi; have h1 := ih (by omega); have h2 := h.inc i (i + 1) (by omega) (by omega); omega
  have down : ∀ d i, i + d = n - 1 → i < n → ld ls i ≤ i := by
    intro d
    induction d with
    | zero => intro i hi hn; have := h.lt i (by omega); omega
    | succ d ih => intro i hi hn; have h1 := ih (i + 1) (by omega) (by omega); have h2 := h.inc i (i + 1) (by omega) (by omega); omega
  intro j hj
  have h1 := up j hj
  have h2 := down (n - 1 - j) j (by omega) hj
  exact ld_mem.2 ⟨j, by omega, by omega⟩
/-- all columns lead: there is one solution -/
theorem Red.only (h : Red M0 M m (n + 1) n ls) (hl : ls.length = n) {y : Nat → F} (hy : Meets m n M0 y) : ∀ j, j < n → ySol M ls n j = y j :=
  h.unique (h.sol (h.fits hy)) hy fun j hj hjl => absurd (h.full_all hl j hj) hjl
theorem Red.leads_eq (h : Red M0 M m (n + 1) n ls) (h1 : Red M1 N1 m1 (n + 1) n ls1) (hk : ∀ z, Ker m (n + 1) M0 z ↔ Ker m1 (n + 1) M1 z) : ls = ls1 := by
  refine ld_ext _ ls ls1 (Nat.le_refl _) h.inc h1.inc fun x => ?_
  by_cases hx : x < n
  · rw [h.lead (by omega) hx, h1.lead (by omega) hx, dep_ker (show x < n + 1 by omega), dep_ker (show x < n + 1 by omega)]
    constructor
    · rintro hh ⟨z, a, b, c⟩; exact hh ⟨z, a, b, (hk z).2 c⟩
    · rintro hh ⟨z, a, b, c⟩; exact hh ⟨z, a, b, (hk z).1 c⟩
  · constructor
    · intro hm
      obtain ⟨i, hi, he⟩ := ld_mem.1 hm
      have := h.lt i hi
      omega
    · intro hm
      obtain ⟨i, hi, he⟩ := ld_mem.1 hm
      have := h1.lt i hi
      omega
/-- equations that say the same have the same solution -/
theorem Red.sol_eq (h : Red M0 M m (n + 1) n ls) (h1 : Red M1 N1 m1 (n + 1) n ls1) (hk : ∀ z, Ker m (n + 1) M0 z ↔ Ker m1 (n + 1) M1 z) {y : Nat → F} (hy : Meets m n M0 y) : ∀ j, j < n → ySol M ls n j = ySol N1 ls1 n j := by
  have e := h.leads_eq h1 hk
  subst e
  have hy1 : Meets m1 n M1 y := meets_ker.2 ((hk _).1 (meets_ker.1 hy))
  have s1 := h1.sol (h1.fits hy1)
  have s1' : Meets m n M0 (ySol N1 ls n) := meets_ker.2 ((hk _).2 (meets_ker.1 s1))
  exact h.unique (h.sol (h.fits hy)) s1' fun j _ hjl => by rw [ySol_out hjl, ySol_out hjl]
/-- one row more -/
def moreM (M : Mx) (m : Nat) (x : Nat → F) : Mx := fun r c => if r = m then x c else M r c
theorem ker_more {M : Mx} {m i : Nat} (hi : i < m) (v : Nat) (z : Nat → F) : Ker m v M z ↔ Ker (m + 1) v (moreM M m (M i)) z := by
  unfold moreM
  constructor
  · intro h r hr
    by_cases e : r = m
    · subst e
      simp only [reduceIte]
      exact h i hi
    · simp only [if_neg e]
      exact h r (by omega)
  · intro h r hr
    have h1 := h r (by omega)
    simp only [if_neg (show ¬ r = m by omega)] at h1
    exact h1
/-- a row more that says otherwise can't be met -/
theorem more_wrong {M : Mx} {m i n : Nat} (hi : i < m) {x : Nat → F} (hx : ∀ j, j < n → x j = M i j) {y : Nat → F} (hy : Meets (m + 1) n (moreM M m x) y) : x n = M i n := by
  have h1 := hy i (by omega)
  have h2 := hy m (by omega)
  unfold moreM at h1 h2
  simp only [if_neg (show ¬ i = m by omega)] at h1
  simp only [reduceIte] at h2
  rw [← h1, ← h2]
  exact fsum_congr fun j hj => by rw [hx j hj]
end
end Croft
