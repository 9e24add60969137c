/- Division of polynomials: plain mathematics, no program. -/
import Derived.Test.YtnojmphggdndmaaPlain
namespace Croft
/-! ### division: from a number i on, c times b taken away -/
def subAt (a : List F) (i : Nat) (c : F) (b : List F) (j : Nat) : List F := (List.range a.length).map fun k => co a k - (if i ≤ k ∧ k < i + j then c * co b (k - i) else 0)
theorem subAt_length (a : List F) (i : Nat) (c : F) (b : List F) (j : Nat) : (subAt a i c b j).length = a.length := by simp [subAt]
theorem co_subAt (a : List F) (i : Nat) (c : F) (b : List F) (j k : Nat) (hk : k < a.length) : co (subAt a i c b j) k = co a k - (if i ≤ k ∧ k < i + j then c * co b (k - i) else 0) := co_get (by simp [subAt, hk])
theorem subAt_zero (a : List F) (i : Nat) (c : F) (b : List F) : subAt a i c b 0 = a := by
  apply list_ext_co (subAt_length _ _ _ _ _)
  intro k
  rcases Nat.lt_or_ge k a.length with h | h
  · rw [co_subAt _ _ _ _ _ _ h, if_neg (by omega), F_sz]
  · rw [co_of_le (by rw [subAt_length]; exact h), co_of_le h]
theorem co_set_ne (q : List F) (i p : Nat) (c : F) (h : p ≠ i) : co (q.set i c) p = co q p := by
  unfold co
  rw [List.getD_eq_getElem?_getD, List.getElem?_set_ne (by omega), ← List.getD_eq_getElem?_getD]
theorem subAt_set (a : List F) (i : Nat) (c : F) (b : List F) (j : Nat) : (subAt a i c b j).set (i + j) (co (subAt a i c b j) (i + j) - c * co b j) = subAt a i c b (j + 1) := by
  apply list_ext_co
  · rw [List.length_set, subAt_length, subAt_length]
  · intro k
    rcases Nat.lt_or_ge k a.length with hk | hk
    · rw [co_subAt _ _ _ _ _ _ hk]
      by_cases hki : k = i + j
      · subst hki
        rw [if_pos (by omega), show i + j - i = j by omega]
        have : co ((subAt a i c b j).set (i + j) (co (subAt a i c b j) (i + j) - c * co b j)) (i + j) = co (subAt a i c b j) (i + j) - c * co b j := co_get (by rw [List.getElem?_set_self (by rw [subAt_length]; exact hk)])
        rw [this, co_subAt _ _ _ _ _ _ hk, if_neg (by omega), F_sz]
      · have : co ((subAt a i c b j).set (i + j) (co (subAt a i c b j) (i + j) - c * co b j)) k = co (subAt a i c b j) k := by
          exact co_set_ne _ _ _ _ hki
        rw [this, co_subAt _ _ _ _ _ _ hk]
        congr 1
        by_cases h1 : i ≤ k ∧ k < i + j
        · rw [if_pos h1, if_pos (by omega)]
        · rw [if_neg h1, if_neg (by omega)]
    · rw [co_of_le (by rw [List.length_set, subAt_length]; exact hk), co_of_le (by rw [subAt_length]; exact hk)]
/-- what the division has come to when the numbers of q from i on are known -/
structure DivInv (a0 b q a : List F) (i : Nat) : Prop where
  la : a.length = a0.length
  lq : q.length = a0.length - b.length + 1
  zero : ∀ k, i + b.length - 1 ≤ k → co a k = 0
  sum : ∀ k, fsum (k + 1) (fun p => co q p * co b (k - p)) + co a k = co a0 k
  low : ∀ p, p < i → co q p = 0
theorem DivInv.start (a0 b : List F) (_hb : 1 ≤ b.length) (hl : b.length ≤ a0.length) : DivInv a0 b (List.replicate (a0.length - b.length + 1) 0) a0 (a0.length - b.length + 1) := by
  refine ⟨rfl, by simp, fun k hk => co_of_le (by omega), fun k => ?_, fun p _ => ?_⟩
  · rw [fsum_zero, F_za]
    intro p _
    have : co (List.replicate (a0.length - b.length + 1) (0 : F)) p = 0 := by
      simp [co, List.getElem?_replicate]; split <;> rfl
    rw [this, F_zm]
  · simp [co, List.getElem?_replicate]; split <;> rfl
theorem co_set_eq (q : List F) (i : Nat) (c : F) (h : i < q.length) : co (q.set i c) i = c := co_get (by rw [List.getElem?_set_self h])
theorem DivInv.step {a0 b q a : List F} {i : Nat} (h : DivInv a0 b q a (i + 1)) (hb : 1 ≤ b.length) (hl : b.length ≤ a0.length) (hi : i < q.length) (c v : F) (hc : c = co a (i + b.length - 1) * v) (hv : co b (b.length - 1) * v = 1) :
    DivInv a0 b (q.set i c) (subAt a i c b b.length) i := by
  have hlq := h.lq
  have hla := h.la
  refine ⟨by rw [subAt_length]; exact h.la, by rw [List.length_set]; exact h.lq, fun k hk => ?_, fun k => ?_, fun p hp => ?_⟩
  · rcases Nat.lt_or_ge k a.length with hka | hka
    · rw [co_subAt _ _ _ _ _ _ hka]
      rcases Nat.lt_or_ge k (i + b.length) with h1 | h1
      · obtain rfl : k = i + b.length - 1 := by omega
        rw [if_pos (by omega), show i + b.length - 1 - i = b.length - 1 by omega, hc]
        grind
      · rw [if_neg (by omega), F_sz]
        exact h.zero k (by omega)
    · exact co_of_le (by rw [subAt_length]; exact hka)
  · have hs := h.sum k
    rcases Nat.lt_or_ge k i with h1 | h1
    · rw [fsum_congr (g := fun p => co q p * co b (k - p)) (fun p hp => by rw [co_set_ne _ _ _ _ (by omega)])]
      rcases Nat.lt_or_ge k a.length with hka | hka
      · rw [co_subAt _ _ _ _ _ _ hka, if_neg (by omega), F_sz]; exact hs
      · rw [co_of_le (l := subAt _ _ _ _ _) (by rw [subAt_length]; exact hka), ← co_of_le hka]; exact hs
    · have e : fsum (k + 1) (fun p => co (q.set i c) p * co b (k - p)) = fsum (k + 1) (fun p => co q p * co b (k - p)) + c * co b (k - i) := by
        have e1 : ∀ p, p < k + 1 → co (q.set i c) p * co b (k - p) = co q p * co b (k - p) + (if p = i then c * co b (k - i) else 0) := by
          intro p _
          by_cases hpi : p = i
          · subst hpi
            rw [co_set_eq _ _ _ hi, if_pos rfl, h.low p (by omega), F_zm, F_za]
          · rw [co_set_ne _ _ _ _ hpi, if_neg hpi, F_az]
        rw [fsum_congr e1, fsum_add]
        congr 1
        rw [fsum_one i (by omega) (fun p _ hp => if_neg hp), if_pos rfl]
      rw [e]
      rcases Nat.lt_or_ge k a.length with hka | hka
      · rw [co_subAt _ _ _ _ _ _ hka]
        rcases Nat.lt_or_ge k (i + b.length) with h2 | h2
        · rw [if_pos ⟨h1, h2⟩]; grind
        · rw [if_neg (by omega), co_of_le (l := b) (i := k - i) (by omega), F_mz]; grind
      · rw [co_of_le (l := b) (i := k - i) (by omega), F_mz, F_az, co_of_le (l := subAt _ _ _ _ _) (by rw [subAt_length]; exact hka), ← co_of_le hka]; exact hs
  · rw [co_set_ne _ _ _ _ (by omega)]
    exact h.low p (by omega)
theorem pnorm_short (l : List F) (m : Nat) (h : ∀ k, m ≤ k → co l k = 0) : (pnorm l).length ≤ m := by
  rcases Nat.lt_or_ge m (pnorm l).length with h1 | h1
  · have hne : pnorm l ≠ [] := by intro e; rw [e] at h1; simp at h1
    have := pnorm_full (pnorm_norm l) hne
    rw [pnorm_co] at this
    exact absurd (h _ (by omega)) this
  · exact h1
/-- at the end: the rest is short, and quotient and rest make up the whole -/
theorem DivInv.done {a0 b q a : List F} (h : DivInv a0 b q a 0) (hb : 1 ≤ b.length) : (pnorm a).length < b.length ∧ pnorm (padd (pmulS (pnorm q) b) (pnorm a)) = pnorm a0 := by
  refine ⟨by have := pnorm_short a (b.length - 1) (fun k hk => h.zero k (by omega)); omega, pnorm_ext _ _ fun k => ?_⟩
  rw [co_add, co_mulS, pnorm_co, ← h.sum k]
  congr 1
  exact fsum_congr fun p _ => by rw [pnorm_co]
end Croft
