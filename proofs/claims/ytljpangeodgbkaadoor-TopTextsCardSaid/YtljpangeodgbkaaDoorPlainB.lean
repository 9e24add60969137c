/- Division of polynomials: plain mathematics, no program. -/
import Derived.Test.YtljpangeodgbkaaDoorPlain
namespace Croft
/-! ### division: from a number i on, c times b taken away -/
def subAt (a : List F) (i : Nat) (c : F) (b : List F) (j : Nat) : List F := (List.range a.length).map fun k => co a k - (if i ≤ k ∧ k < i + j then c * co b (k - i) else 0)
theorem subAt_length (a : List F) (i : Nat) (c : F) (b : List F) (j : Nat) : (subAt a i c b j).length = a.length := by simp [subAt]
theorem co_subAt (a : List F) (i : Nat) (c : F) (b : List F) (j k : Nat) (hk : k < a.length) : co (subAt a i c b j) k = co a k - (if i ≤ k ∧ k < i + j then c * co b (k - i) else 0) := co_get (by simp [subAt, hk])
theorem subAt_zero (a : List F) (i : Nat) (c : F) (b : List F) : subAt a i c b 0 = a := by
  apply list_ext_co (subAt_length _ _ _ _ _)
  intro k
  rcases Nat.lt_or_ge k a.length with h | h
  · rw [co_subAt _ _ _ _ _ _ h, if_neg (by omega), F_sz]
  · rw [co_of_le (by rw [subAt_length]; exact h), co_of_le h]
theorem co_set_ne (q : List F) (i p : Nat) (c : F) (h : p ≠ i) : co (q.set i c) p = co q p := by
  unfold co
  rw [List.getD_eq_getElem?_getD, List.getElem?_set_ne (by omega), ← List.getD_eq_getElem?_getD]
theorem subAt_set (a : List F) (i : Nat) (c : F) (b : List F) (j : Nat) : (subAt a i c b j).set (i + j) (co (subAt a i c b j) (i + j) - c * co b j) = subAt a i c b (j + 1) := by
  apply list_ext_co
  · rw [List.length_set, subAt_length, subAt_length]
  · intro k
    rcases Nat.lt_or_ge k a.length with hk | hk
    · rw [co_subAt _ _ _ _ _ _ hk]
      by_cases hki : k = i + j
      · subst hki
        rw [if_pos (by omega), show i + j - i = j by omega]
        have : co ((subAt a i c b j).set (i + j) (co (subAt a i c b j) (i + j) - c * co b j)) (i + j) = co (subAt a i c b j) (i + j) - c * co b j := co_get (by rw [List.getElem?_set_self (by rw [subAt_length]; exact hk)])
        rw [this, co_subAt _ _ _ _ _ _ hk, if_neg (by omega), F_sz]
      · have : co ((subAt a i c b j).set (i + j) (co (subAt a i c b j) (i + j) - c * co b j)) k = co (subAt a i c b j) k := by
          exact co_set_ne _ _ _ _ hki
        rw [this, co_subAt _ _ _ _ _ _ hk]
        congr 1
        by_cases h1 : i ≤ k ∧ k < i + j
        · rw [if_pos h1, if_pos (by omega)]
        · rw [if_neg h1, if_neg (by omega)]
    · rw [co_of_le (by rw [List.length_set, subAt_length]; exact hk), co_of_le (by rw [subAt_length]; exact hk)]
/-- what the division has come to when the numbers of q from i on are known -/
structure DivInv (a0 b q a : List F) (i : Nat) : Prop where
  la : a.length = a0.length
  lq : q.length = a0.length - b.length + 1
  zero : ∀ k, i + b.length - 1 ≤ k → co a k = 0
  sum : ∀ k, fsum (k + 1) (fun p => co q p * co b (k - p)) + co a k = co a0 k
  low : ∀ p, p < i → co q p = 0
theorem DivInv.start (a0 b : List F) (_hb : 1 ≤ b.length) (hl : b.length ≤ a0.length) : DivInv a0 b (List.replicate (a0.length - b.length + 1) 0) a0 (a0.length - b.length + 1) := by
  refine ⟨rfl, by simp, fun k hk => co_of_le (by omega), fun k => ?_, fun p _ => ?_⟩
  · rw [fsum_zero, F_za]
    intro p _
    have : co (List.replicate (a0.length - b.length + 1) (0 : F)) p = 0 := by
      simp [co, List.getElem?_replicate]; split <;> rfl
    rw [this, F_zm]
  · simp [co, List.getElem?_replicate]; split <;> rfl
theorem co_set_eq (q : List F) (i : Nat) (c : F) (h : i < q.length) : co (q.set i c) i = c := co_get (by rw [List.getElem?_set_self h])
theorem DivInv.step {a0 b q a : List F} {i : Nat} (h : DivInv a0 b q a (i + 1)) (hb : 1 ≤ b.length) (hl : b.length ≤ a0.length) (hi : i < q.length) (c v : F) (hc : c = co a (i + b.length - 1) * v) (hv : co b (b.length - 1) * v = 1) :
    DivInv a0 b (q.set i c) (subAt a i c b b.length) i := by
  have hlq := h.lq
  have hla := h.la
  refine ⟨by rw [subAt_length]; exact h.la, by rw [List.length_set]; exact h.lq, fun k hk => ?_, fun k => ?_, fun p hp => ?_⟩
  · rcases Nat.lt_or_ge k a.length with hka | hka
    · rw [co_subAt _ _ _ _ _ _ hka]
      rcases Nat.lt_or_ge k (i + b.length) with h1 | h1
      · obtain rfl : k = i + b.length - 1 := by omega
        rw [if_pos (by omega), show i + b.length - 1 - i = b.length - 1 by omega, hc]
        grind
      · rw [if_neg (by omega), F_sz]
        exact h.zero k (by omega)
    · exact co_of_le (by rw [subAt_length]; exact hka)
  · have hs := h.sum k
    rcases Nat.lt_or_ge k i with h1 | h1
    · rw [fsum_congr (g := fun p => co q p * co b (k - p)) (fun p hp => by rw [co_set_ne _ _ _ _ (by omega)])]
      rcases Nat.lt_or_ge k a.length with hka | hka
      · rw [co_subAt _ _ _ _ _ _ hka, if_neg (by omega), F_sz]; exact hs
      · rw [co_of_le (l := subAt _ _ _ _ _) (by rw [subAt_length]; exact hka), ← co_of_le hka]; exact hs
    · have e : fsum (k + 1) (fun p => co (q.set i c) p * co b (k - p)) = fsum (k + 1) (fun p => co q p * co b (k - p)) + c * co b (k - i) := by
        have e1 : ∀ p, p < k + 1 → co (q.set i c) p * co b (k - p) = co q p * co b (k - p) + (if p = i then c * co b (k - i) else 0) := by
          intro p _
          by_cases hpi : p = i
          · subst hpi
            rw [co_set_eq _ _ _ hi, if_pos rfl, h.low p (by omega), F_zm, F_za]
          · rw [co_set_ne _ _ _ _ hpi, if_neg hpi, F_az]
        rw [fsum_congr e1, fsum_add]
        congr 1
        rw [fsum_one i (by omega) (fun p _ hp => if_neg hp), if_pos rfl]
      rw [e]
      rcases Nat.lt_or_ge k a.length with hka | hka
      · rw [co_subAt _ _ _ _ _ _ hka]
        rcases Nat.lt_or_ge k (i + b.length) with h2 | h2
        · rw [if_pos ⟨h1, h2⟩]; grind
        · rw [if_neg (by omega), co_of_le (l := b) (i := k - i) (by omega), F_mz]; grind
      · rw [co_of_le (l := b) (i := k - i) (by omega), F_mz, F_az, co_of_le (l := subAt _ _ _ _ _) (by rw [subAt_length]; exact hka), ← co_of_le hka]; exact hs
  · rw [co_set_ne _ _ _ _ (by omega)]
    exact h.low p (by omega)
theorem pnorm_short (l : List F) (m : Nat) (h : ∀ k, m ≤ k → co l k = 0) : (pnorm l).length ≤ m := by
  rcases Nat.lt_or_ge m (pnorm l).length with h1 | h1
  · have hne : pnorm l ≠ [] := by intro e; rw [e] at h1; simp at h1
    have := pnorm_full (pnorm_norm l) hne
    rw [pnorm_co] at this
    exact absurd (h _ (by omega)) this
  · exact h1
/-- at the end: the rest is short, and quotient and rest make up the whole -/
theorem DivInv.done {a0 b q a : List F} (h : DivInv a0 b q a 0) (hb : 1 ≤ b.length) : (pnorm a).length < b.length ∧ pnorm (padd (pmulS (pnorm q) b) (pnorm a)) = pnorm a0 := by
  refine ⟨by have := pnorm_short a (b.length - 1) (fun k hk => h.zero k (by omega)); omega, pnorm_ext _ _ fun k => ?_⟩
  rw [co_add, co_mulS, pnorm_co, ← h.sum k]
  congr 1
  exact fsum_congr fun p _ => by rw [pnorm_co]
/-! ### through points: Newton's and Lagrange's way -/
def baseN (xs : List F) : List F := xs.foldl (fun b x => pmulS b [-x, 1]) [1]
theorem baseN_snoc (xs : List F) (x : F) : baseN (xs ++ [x]) = pmulS (baseN xs) [-x, 1] := by simp [baseN]
theorem foldl_base (xs : List F) : ∀ b : List F, b ≠ [] → (xs.foldl (fun b x => pmulS b [-x, 1]) b).length = b.length + xs.length := by
  induction xs with
  | nil => intro b _; simp
  | cons x xs ih =>
    intro b hb
    have hl : (pmulS b [-x, 1]).length = b.length + 1 := by rw [pmulS_length, if_neg (by simp [hb])]; simp
    have hp := List.length_pos_iff.2 hb
    rw [List.foldl_cons, ih _ (by intro e; rw [e] at hl; simp at hl), hl]
    simp; omega
theorem baseN_length (xs : List F) : (baseN xs).length = xs.length + 1 := by
  unfold baseN
  rw [foldl_base xs [1] (by simp)]
  simp; omega
theorem lin_eval (x z : F) : peval [-x, 1] z = z - x := by simp only [peval, F_mz, F_az]; grind
theorem foldl_eval (xs : List F) (z : F) : ∀ b : List F, (peval (xs.foldl (fun b x => pmulS b [-x, 1]) b) z = 0) ↔ (peval b z = 0 ∨ z ∈ xs) := by
  induction xs with
  | nil => intro b; simp
  | cons x xs ih =>
    intro b
    rw [List.foldl_cons, ih, peval_mulS, lin_eval, List.mem_cons]
    constructor
    · rintro (h | h)
      · rcases F_mul_zero h with h | h
        · exact .inl h
        · exact .inr (.inl (by grind))
      · exact .inr (.inr h)
    · rintro (h | h | h)
      · left; rw [h, F_zm]
      · left; rw [h]; have : x - x = 0 := by grind
        rw [this, F_mz]
      · exact .inr h
theorem baseN_zero (xs : List F) (z : F) : peval (baseN xs) z = 0 ↔ z ∈ xs := by
  unfold baseN
  rw [foldl_eval]
  have : peval [1] z = 1 := by simp only [peval, F_mz, F_az]
  rw [this]
  exact ⟨fun h => h.resolve_left one_ne, .inr⟩
/-- c times the base added, j numbers of it -/
def accL (o : List F) (c : F) (b : List F) (j : Nat) : List F := (List.range o.length).map fun i => co o i + (if i < j then c * co b i else 0)
theorem accL_length (o : List F) (c : F) (b : List F) (j : Nat) : (accL o c b j).length = o.length := by simp [accL]
theorem co_accL (o : List F) (c : F) (b : List F) (j i : Nat) (h : i < o.length) : co (accL o c b j) i = co o i + (if i < j then c * co b i else 0) := co_get (by simp [accL, h])
theorem accL_zero (o : List F) (c : F) (b : List F) : accL o c b 0 = o := by
  apply list_ext_co (accL_length _ _ _ _)
  intro i
  rcases Nat.lt_or_ge i o.length with h | h
  · rw [co_accL _ _ _ _ _ h, if_neg (by omega), F_az]
  · rw [co_of_le (by rw [accL_length]; exact h), co_of_le h]
theorem accL_set (o : List F) (c : F) (b : List F) (j : Nat) : (accL o c b j).set j (co (accL o c b j) j + c * co b j) = accL o c b (j + 1) := by
  apply list_ext_co
  · rw [List.length_set, accL_length, accL_length]
  · intro k
    rcases Nat.lt_or_ge k o.length with hk | hk
    · rw [co_accL _ _ _ _ _ hk]
      by_cases hkj : k = j
      · subst hkj
        rw [co_set_eq _ _ _ (by rw [accL_length]; exact hk), co_accL _ _ _ _ _ hk, if_neg (by omega), if_pos (by omega), F_az]
      · rw [co_set_ne _ _ _ _ hkj, co_accL _ _ _ _ _ hk]
        congr 1
        by_cases h : k < j
        · rw [if_pos h, if_pos (by omega)]
        · rw [if_neg h, if_neg (by omega)]
    · rw [co_of_le (by rw [List.length_set, accL_length]; exact hk), co_of_le (by rw [accL_length]; exact hk)]
theorem accL_full (o : List F) (c : F) (b : List F) (h : b.length ≤ o.length) (x : F) : peval (accL o c b b.length) x = peval o x + c * peval b x := by
  rw [← peval_scale, ← peval_add]
  apply peval_ext
  intro i
  rw [co_add, co_scale]
  rcases Nat.lt_or_ge i o.length with h1 | h1
  · rw [co_accL _ _ _ _ _ h1]
    congr 1
    by_cases h2 : i < b.length
    · rw [if_pos h2]
    · rw [if_neg h2, co_of_le (l := b) (by omega), F_mz]
  · rw [co_of_le (by rw [accL_length]; exact h1), co_of_le h1, co_of_le (l := b) (by omega), F_mz, F_az]
/-- so far it goes through these -/
def Goes (o : List F) (ps : List (F × F)) : Prop := ∀ p ∈ ps, peval o p.1 = p.2
theorem goes_step {o : List F} {ps : List (F × F)} {x y c : F} (h : Goes o ps) (hl : ps.length + 1 ≤ o.length) (hx : x ∉ ps.map (·.1)) (hc : c = (y - peval o x) * inv (peval (baseN (ps.map (·.1))) x)) :
    Goes (accL o c (baseN (ps.map (·.1))) (baseN (ps.map (·.1))).length) (ps ++ [(x, y)]) := by
  have hb : (baseN (ps.map (·.1))).length ≤ o.length := by rw [baseN_length, List.length_map]; exact hl
  intro p hp
  rw [accL_full _ _ _ hb]
  rcases List.mem_append.1 hp with hp | hp
  · rw [(baseN_zero _ _).2 (List.mem_map.2 ⟨p, hp, rfl⟩), F_mz, F_az]
    exact h p hp
  · simp at hp; subst hp
    have hne : peval (baseN (ps.map (·.1))) x ≠ 0 := fun e => hx ((baseN_zero _ _).1 e)
    have hi := mul_inv hne
    simp only
    rw [hc]
    generalize peval (baseN (ps.map (·.1))) x = u at *
    generalize peval o x = v at *
    grind
theorem interp_of_goes {o : List F} {ps : List (F × F)} (h : Goes o ps) (hl : o.length ≤ ps.length) : Interp ps (pnorm o) :=
  ⟨pnorm_norm o, by have := pnorm_length o; omega, fun p hp => by rw [pnorm_eval]; exact h p hp⟩
/-! Lagrange: one polynomial a point -/
def oneL' (xi : F) (o : List F) (xk : F) : List F := pmulS (pnorm o) (pnorm [-xk * inv (xi - xk), inv (xi - xk)])
theorem oneL'_eval (xi xk : F) (o : List F) (z : F) : peval (oneL' xi o xk) z = peval o z * ((z - xk) * inv (xi - xk)) := by
  unfold oneL'
  have h : peval [-xk * inv (xi - xk), inv (xi - xk)] z = (z - xk) * inv (xi - xk) := by
    simp only [peval, F_mz, F_az]
    generalize inv (xi - xk) = u
    grind
  rw [peval_mulS, pnorm_eval, pnorm_eval, h]
theorem oneL'_length (xi xk : F) (o : List F) (m : Nat) (h : o.length ≤ m) (_hm : 1 ≤ m) : (oneL' xi o xk).length ≤ m + 1 := by
  unfold oneL'
  have h1 := pnorm_length o
  have h2 := pnorm_length [-xk * inv (xi - xk), inv (xi - xk)]
  rw [pmulS_length]
  split
  · omega
  · simp at h2; omega
end Croft
