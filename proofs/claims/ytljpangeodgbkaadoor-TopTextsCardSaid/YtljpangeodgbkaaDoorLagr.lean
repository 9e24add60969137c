/- Lagrange's way through points: plain mathematics, no program. -/
import Derived.Test.YtljpangeodgbkaaDoorPlainB
namespace Croft
theorem F_ss (x : F) : x - x = 0 := by grind
/-- the polynomial of point i, when k of the others are through -/
structure OneAt (ps : List (F × F)) (i k : Nat) (one : List F) : Prop where
  len : one.length ≤ if k ≤ i then k + 1 else k
  self : ∀ s, ps[i]? = some s → peval one s.1 = s.2
  zero : ∀ p s, p < k → p ≠ i → ps[p]? = some s → peval one s.1 = 0
theorem OneAt.start {ps : List (F × F)} {i : Nat} {y x : F} (h : ps[i]? = some (x, y)) : OneAt ps i 0 [y] :=
  ⟨by simp, fun s hs => by obtain rfl := Option.some.inj (h.symm.trans hs); simp only [peval, F_mz, F_az], fun p s hp => by omega⟩
theorem OneAt.skip {ps : List (F × F)} {i : Nat} {one : List F} (h : OneAt ps i i one) : OneAt ps i (i + 1) one := by
  obtain ⟨h1, h2, h3⟩ := h
  rw [if_pos (Nat.le_refl _)] at h1
  refine ⟨by rw [if_neg (by omega)]; exact h1, h2, fun p s hp hne hs => h3 p s (by omega) hne hs⟩
theorem fst_ne {ps : List (F × F)} (hn : (ps.map (·.1)).Nodup) {i k : Nat} {s t : F × F} (hs : ps[i]? = some s) (ht : ps[k]? = some t) (hne : i ≠ k) : s.1 ≠ t.1 := by
  intro he
  have hi : (ps.map (·.1))[i]? = some s.1 := by rw [List.getElem?_map, hs]; rfl
  have hk : (ps.map (·.1))[k]? = some t.1 := by rw [List.getElem?_map, ht]; rfl
  exact hne ((List.getElem?_inj (by have := (List.getElem?_eq_some_iff.1 hi).1; exact this) hn).1 (by rw [hi, hk, he]))
theorem OneAt.step {ps : List (F × F)} (hn : (ps.map (·.1)).Nodup) {i k : Nat} {one : List F} {xi yi xk yk : F} (h : OneAt ps i k one) (hi : ps[i]? = some (xi, yi)) (hk : ps[k]? = some (xk, yk)) (hne : k ≠ i) : OneAt ps i (k + 1) (oneL' xi one xk) := by
  obtain ⟨h1, h2, h3⟩ := h
  have hd : xi - xk ≠ 0 := fun e => fst_ne hn hi hk (Ne.symm hne) (by show xi = xk; grind)
  refine ⟨?_, fun s hs => ?_, fun p s hp hpi hs => ?_⟩
  · by_cases hki : k ≤ i
    · rw [if_pos hki] at h1
      rw [if_pos (by omega)]
      have := oneL'_length xi xk one (k + 1) h1 (by omega)
      omega
    · rw [if_neg hki] at h1
      rw [if_neg (by omega)]
      exact oneL'_length xi xk one k h1 (by omega)
  · rw [oneL'_eval, h2 s hs]
    obtain rfl := Option.some.inj (hi.symm.trans hs)
    show yi * ((xi - xk) * inv (xi - xk)) = yi
    rw [mul_inv hd, F_mo]
  · rw [oneL'_eval]
    by_cases hpk : p = k
    · subst hpk
      obtain rfl := Option.some.inj (hk.symm.trans hs)
      show _ * ((xk - xk) * _) = 0
      rw [F_ss, F_zm, F_mz]
    · rw [h3 p s (by omega) hpi hs, F_zm]
/-- so many of them added -/
structure SumAt (ps : List (F × F)) (i : Nat) (o : List F) : Prop where
  norm : pnorm o = o
  len : o.length ≤ ps.length
  at_ : ∀ p s, ps[p]? = some s → peval o s.1 = if p < i then s.2 else 0
theorem SumAt.start (ps : List (F × F)) : SumAt ps 0 [] := ⟨rfl, by simp, fun p s _ => by rw [if_neg (by omega)]; rfl⟩
theorem SumAt.step {ps : List (F × F)} {i : Nat} {o one : List F} (h : SumAt ps i o) (hi : i < ps.length) (h1 : OneAt ps i ps.length one) : SumAt ps (i + 1) (pnorm (padd o one)) := by
  obtain ⟨a1, a2, a3⟩ := h
  obtain ⟨b1, b2, b3⟩ := h1
  rw [if_neg (by omega)] at b1
  refine ⟨pnorm_norm _, pnorm_short _ _ (fun k hk => by rw [co_add, co_of_le (by omega), co_of_le (by omega), F_az]), fun p s hs => ?_⟩
  rw [pnorm_eval, peval_add, a3 p s hs]
  by_cases hpi : p = i
  · subst hpi
    rw [b2 s hs, if_neg (by omega), if_pos (by omega)]; grind
  · rw [b3 p s (by have := (List.getElem?_eq_some_iff.1 hs).1; omega) hpi hs, F_az]
    by_cases h : p < i
    · rw [if_pos h, if_pos (by omega)]
    · rw [if_neg h, if_neg (by omega)]
theorem SumAt.done {ps : List (F × F)} {o : List F} (h : SumAt ps ps.length o) : Interp ps o :=
  ⟨h.norm, h.len, fun p hp => by
    obtain ⟨k, hk, hkp⟩ := List.getElem_of_mem hp
    rw [h.at_ k p (by rw [List.getElem?_eq_getElem hk, hkp]), if_pos hk]⟩
end Croft
