/- Who is blind to a secret: a polynomial that is 1 at 0, and 0 at those places: plain mathematics, no program. -/
import Derived.Test.YtegmeepogjijiaaEngP
namespace Croft
theorem snoc_ind {α : Type} {p : List α → Prop} (h0 : p []) (h1 : ∀ l a, p l → p (l ++ [a])) : ∀ l, p l := by
  intro l
  have h : ∀ r : List α, p r.reverse := by
    intro r
    induction r with
    | nil => exact h0
    | cons a r ih => rw [List.reverse_cons]; exact h1 _ _ ih
  have := h l.reverse
  rwa [List.reverse_reverse] at this
def blF (k : Int) : List F := [1, - inv (toF k)]
def blindP (ks : List Int) : List F := ks.foldl (fun p k => pmulS p (blF k)) [1]
theorem blindP_snoc (ks : List Int) (k : Int) : blindP (ks ++ [k]) = pmulS (blindP ks) (blF k) := by simp [blindP]
theorem small_ne {k : Int} (h : 1 ≤ k ∧ k ≤ 9) : toF k ≠ 0 := by
  intro e
  rw [toF_eq_zero] at e
  omega
theorem blF_ne (k : Int) : blF k ≠ [] := by simp [blF]
theorem blF_normal {k : Int} (h : toF k ≠ 0) : pnorm (blF k) = blF k := by
  apply normal_of_co
  right
  show - inv (toF k) ≠ 0
  intro e
  exact inv_ne h (by grind)
theorem blindP_facts : ∀ ks : List Int, (∀ k ∈ ks, toF k ≠ 0) → pnorm (blindP ks) = blindP ks ∧ (blindP ks).length = ks.length + 1 := by
  refine snoc_ind ?_ ?_
  · intro _; exact ⟨normal_of_co (.inr one_ne), rfl⟩
  · intro ks k ih h
    obtain ⟨h1, h2⟩ := ih (fun x hx => h x (List.mem_append.2 (.inl hx)))
    rw [blindP_snoc]
    refine ⟨pmulS_normal h1 (blF_normal (h k (by simp))), ?_⟩
    rw [pmulS_length, if_neg (by
      rintro (e | e)
      · rw [e] at h2; simp at h2
      · exact blF_ne k e), h2]
    simp [blF]
theorem blF_eval (k : Int) (x : F) : peval (blF k) x = 1 - x * inv (toF k) := by simp only [blF, peval, F_mz, F_az]; grind
theorem blindP_zero : ∀ ks : List Int, peval (blindP ks) 0 = 1 := by
  refine snoc_ind ?_ ?_
  · simp only [blindP, List.foldl_nil, peval, F_mz, F_az]
  · intro ks k ih
    rw [blindP_snoc, peval_mulS, ih, blF_eval, F_zm, F_om, F_sz]
theorem blindP_at : ∀ ks : List Int, (∀ k ∈ ks, toF k ≠ 0) → ∀ k ∈ ks, peval (blindP ks) (toF k) = 0 := by
  refine snoc_ind ?_ ?_
  · intro _ k hk; simp at hk
  · intro ks k ih h j hj
    rw [blindP_snoc, peval_mulS]
    rcases List.mem_append.1 hj with h1 | h1
    · rw [ih (fun x hx => h x (List.mem_append.2 (.inl hx))) j h1, F_zm]
    · simp at h1
      subst h1
      rw [blF_eval, mul_inv (h j (by simp)), F_ss, F_mz]
theorem blindP_co0 (ks : List Int) : co (blindP ks) 0 = 1 := by
  have h := blindP_zero ks
  generalize blindP ks = p at *
  cases p with
  | nil => exact absurd h.symm one_ne
  | cons a p => rw [co_cons_zero]; simp only [peval, F_zm, F_az] at h; exact h
theorem F_move (x y : F) : y = x + (y - x) * 1 := by grind
theorem F_back (a b x y : F) : a + (y - x) * b + (x - y) * b = a := by grind
/-- the draws, turned -/
def shiftL (B ds : List F) (d : F) : List F := (List.range ds.length).map fun i => co ds i + d * co B (i + 1)
theorem shiftL_length (B ds : List F) (d : F) : (shiftL B ds d).length = ds.length := by simp [shiftL]
theorem shiftL_co (B ds : List F) (d : F) {i : Nat} (h : i < ds.length) : co (shiftL B ds d) i = co ds i + d * co B (i + 1) := co_get (by simp [shiftL, h])
/-- the turned polynomial -/
theorem shift_eval {B ds : List F} {x y : F} (h0 : co B 0 = 1) (hl : B.length ≤ ds.length + 1) (z : F) : peval (y :: shiftL B ds (y - x)) z = peval (x :: ds) z + (y - x) * peval B z := by
  rw [← peval_scale, ← peval_add]
  apply peval_ext
  intro i
  rw [co_add, co_scale]
  cases i with
  | zero =>
    rw [co_cons_zero, co_cons_zero, h0]
    exact F_move x y
  | succ i =>
    rw [co_cons_succ, co_cons_succ]
    rcases Nat.lt_or_ge i ds.length with h | h
    · rw [shiftL_co _ _ _ h]
    · rw [co_of_le (by rw [shiftL_length]; exact h), co_of_le (l := ds) h, co_of_le (l := B) (by omega), F_mz, F_az]
theorem shift_back (B ds : List F) (x y : F) : shiftL B (shiftL B ds (y - x)) (x - y) = ds := by
  apply list_ext_co (by rw [shiftL_length, shiftL_length])
  intro i
  rcases Nat.lt_or_ge i ds.length with h | h
  · rw [shiftL_co _ _ _ (by rw [shiftL_length]; exact h), shiftL_co _ _ _ h, F_back]
  · rw [co_of_le (by rw [shiftL_length, shiftL_length]; exact h), co_of_le h]
end Croft
