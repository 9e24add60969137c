/- Shares: weights, and what goes through dealt points: plain mathematics, no program. -/
import Derived.Test.YtljpangeodgbkaaDoorLagr
namespace Croft
def lprod : List F → F
  | [] => 1
  | a :: l => a * lprod l
theorem inv_mul (a b : F) : inv (a * b) = inv a * inv b := by
  by_cases ha : a = 0
  · subst ha; rw [F_zm, inv_zero, F_zm]
  by_cases hb : b = 0
  · subst hb; rw [F_mz, inv_zero, F_mz]
  symm
  apply inv_unique
  have h1 := mul_inv ha
  have h2 := mul_inv hb
  generalize inv a = x at *
  generalize inv b = y at *
  grind
theorem inv_one : inv (1 : F) = 1 := (inv_unique (by grind)).symm
theorem inv_neg (a : F) : inv (-a) = - inv a := by
  by_cases ha : a = 0
  · subst ha
    have : (-0 : F) = 0 := by grind
    rw [this, inv_zero]; grind
  · symm
    apply inv_unique
    have h1 := mul_inv ha
    generalize inv a = x at *
    grind
theorem lprod_append (a b : List F) : lprod (a ++ b) = lprod a * lprod b := by
  induction a with
  | nil => simp [lprod, F_om]
  | cons x a ih => simp only [List.cons_append, lprod, ih]; grind
theorem lprod_snoc (a : List F) (x : F) : lprod (a ++ [x]) = lprod a * x := by rw [lprod_append]; simp [lprod, F_mo]
theorem lprod_zero {l : List F} : lprod l = 0 ↔ 0 ∈ l := by
  induction l with
  | nil => exact ⟨fun h => absurd h one_ne, fun h => by simp at h⟩
  | cons a l ih =>
    rw [lprod, List.mem_cons]
    constructor
    · intro h
      rcases F_mul_zero h with h | h
      · exact .inl h.symm
      · exact .inr (ih.1 h)
    · rintro (h | h)
      · rw [← h, F_zm]
      · rw [ih.2 h, F_mz]
/-- of the others one by one: a polynomial that is 1 at a, 0 at each other -/
theorem lagr_exists (a : F) (bs : List F) : ∃ q : List F, q.length ≤ bs.length + 1 ∧ ∀ z, peval q z = lprod (bs.map fun b => (z - b) * inv (a - b)) := by
  induction bs with
  | nil => exact ⟨[1], by simp, fun z => by simp only [peval, List.map_nil, lprod, F_mz, F_az]⟩
  | cons b bs ih =>
    obtain ⟨q, hl, he⟩ := ih
    refine ⟨oneL' a q b, by have := oneL'_length a b q _ hl (by omega); simpa using this, fun z => ?_⟩
    rw [oneL'_eval, he z, List.map_cons, lprod]
    grind
def others (xs : List F) (a : F) : List F := xs.filter fun b => b != a
/-- what a share weighs -/
def wtF (xs : List F) (a : F) : F := lprod (others xs a) * inv (lprod ((others xs a).map fun b => b - a))
theorem lag_zero (a : F) (bs : List F) : lprod (bs.map fun b => (0 - b) * inv (a - b)) = lprod bs * inv (lprod (bs.map fun b => b - a)) := by
  induction bs with
  | nil => simp only [List.map_nil, lprod, inv_one, F_mo]
  | cons b bs ih =>
    simp only [List.map_cons, lprod, ih, inv_mul]
    have h : inv (a - b) = - inv (b - a) := by rw [← inv_neg]; congr 1; grind
    rw [h]
    grind
theorem mem_others {xs : List F} {a b : F} : b ∈ others xs a ↔ b ∈ xs ∧ b ≠ a := by simp [others]
theorem others_length {xs : List F} {a : F} (ha : a ∈ xs) : (others xs a).length + 1 ≤ xs.length := by
  have h1 : (others xs a).length < xs.length := by
    unfold others
    rw [List.length_filter_lt_length_iff_exists]
    exact ⟨a, ha, by simp⟩
  omega
theorem lag_self {a : F} {bs : List F} (h : a ∉ bs) : lprod (bs.map fun b => (a - b) * inv (a - b)) = 1 := by
  induction bs with
  | nil => rfl
  | cons b bs ih =>
    simp only [List.map_cons, lprod]
    have hne : a - b ≠ 0 := fun e => h (List.mem_cons.2 (.inl (by grind)))
    rw [ih (fun hm => h (List.mem_cons_of_mem _ hm)), mul_inv hne, F_om]
theorem lag_other {a z : F} {bs : List F} (h : z ∈ bs) : lprod (bs.map fun b => (z - b) * inv (a - b)) = 0 := by
  rw [lprod_zero, List.mem_map]
  exact ⟨z, h, by rw [F_ss, F_zm]⟩
/-- sums of such polynomials -/
theorem lag_sum (xs : List F) (_hn : xs.Nodup) (y : F → F) : ∀ k, k ≤ xs.length → ∃ q : List F, q.length ≤ xs.length ∧ ∀ z, peval q z = fsum k (fun i => y (co xs i) * lprod ((others xs (co xs i)).map fun b => (z - b) * inv (co xs i - b))) := by
  intro k
  induction k with
  | zero => intro _; exact ⟨[], by simp, fun z => rfl⟩
  | succ k ih =>
    intro hk
    obtain ⟨q, hl, he⟩ := ih (by omega)
    have hm : co xs k ∈ xs := List.mem_of_getElem? (get_co (by omega))
    obtain ⟨p, hpl, hpe⟩ := lagr_exists (co xs k) (others xs (co xs k))
    refine ⟨padd q (pscale (y (co xs k)) p), ?_, fun z => ?_⟩
    · rw [padd_length, pscale_length]
      have := others_length hm
      omega
    · rw [peval_add, peval_scale, he z, hpe z, fsum]
theorem lag_at (xs : List F) (hn : xs.Nodup) (y : F → F) {j : Nat} (hj : j < xs.length) : fsum xs.length (fun i => y (co xs i) * lprod ((others xs (co xs i)).map fun b => (co xs j - b) * inv (co xs i - b))) = y (co xs j) := by
  rw [fsum_one j hj]
  · rw [lag_self (fun h => (mem_others.1 h).2 rfl), F_mo]
  · intro i hi hij
    have hne : co xs j ≠ co xs i := fun e => hij ((List.getElem?_inj hi hn).1 (by rw [get_co hi, get_co hj, e]))
    rw [lag_other (mem_others.2 ⟨List.mem_of_getElem? (get_co hj), hne⟩), F_mz]
theorem lagrange0 (xs : List F) (hn : xs.Nodup) (p : List F) (hp : p.length ≤ xs.length) : fsum xs.length (fun i => wtF xs (co xs i) * peval p (co xs i)) = peval p 0 := by
  obtain ⟨q, hl, he⟩ := lag_sum xs hn (fun x => peval p x) xs.length (Nat.le_refl _)
  have hc := agree p q xs hn hp hl (fun x hx => by
    obtain ⟨j, hj, rfl⟩ := List.getElem_of_mem hx
    have h1 := lag_at xs hn (fun x => peval p x) hj
    have h2 : co xs j = xs[j] := co_get (List.getElem?_eq_getElem hj)
    rw [h2] at h1
    rw [he, h1])
  rw [peval_ext hc 0, he 0]
  apply fsum_congr
  intro i _
  rw [lag_zero]
  show wtF xs (co xs i) * _ = _ * wtF xs (co xs i)
  generalize wtF xs (co xs i) = u
  grind
end Croft
