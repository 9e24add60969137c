/- Dealt shares: what opens, and what is told to be wrong: plain mathematics, no program. -/
import Derived.Test.YtljpangeodgbkaaDoorEngP
namespace Croft
theorem one_ex {ps : List (F × F)} (hn : (ps.map (·.1)).Nodup) {i : Nat} (hi : i < ps.length) : ∀ k, k ≤ ps.length → ∃ one, OneAt ps i k one := by
  intro k
  induction k with
  | zero => intro _; exact ⟨_, OneAt.start (x := ps[i].1) (y := ps[i].2) (List.getElem?_eq_getElem hi)⟩
  | succ k ih =>
    intro hk
    obtain ⟨one, h⟩ := ih (by omega)
    by_cases hki : k = i
    · subst hki; exact ⟨_, h.skip⟩
    · exact ⟨_, h.step hn (xi := ps[i].1) (yi := ps[i].2) (xk := ps[k].1) (yk := ps[k].2) (List.getElem?_eq_getElem hi) (List.getElem?_eq_getElem (by omega)) hki⟩
/-- through points at places of their own something goes -/
theorem interp_ex {ps : List (F × F)} (hn : (ps.map (·.1)).Nodup) : ∃ Q, Interp ps Q := by
  have h : ∀ i, i ≤ ps.length → ∃ o, SumAt ps i o := by
    intro i
    induction i with
    | zero => intro _; exact ⟨_, SumAt.start ps⟩
    | succ i ih =>
      intro hi
      obtain ⟨o, h⟩ := ih (by omega)
      obtain ⟨one, h1⟩ := one_ex hn (i := i) (by omega) ps.length (Nat.le_refl _)
      exact ⟨_, h.step (by omega) h1⟩
  obtain ⟨o, h⟩ := h ps.length (Nat.le_refl _)
  exact ⟨o, h.done⟩
/-- the points that n parties have -/
def dpts (n : Nat) (l : List F) : List (F × F) := (List.range n).map fun i => (pt i, co l i)
theorem dpts_length (n : Nat) (l : List F) : (dpts n l).length = n := by simp [dpts]
theorem dpts_fst (n : Nat) (l : List F) : (dpts n l).map (·.1) = ptsN n := by simp [dpts, ptsN, Function.comp_def]
theorem mem_dpts {n : Nat} {l : List F} {p : F × F} : p ∈ dpts n l ↔ ∃ i, i < n ∧ p = (pt i, co l i) := by
  unfold dpts
  rw [List.mem_map]
  constructor
  · rintro ⟨i, hi, rfl⟩; exact ⟨i, List.mem_range.1 hi, rfl⟩
  · rintro ⟨i, hi, rfl⟩; exact ⟨i, List.mem_range.2 hi, rfl⟩
theorem open_shared {n t : Nat} {l : List F} {x : F} (h : Shared n t l x) (hn : t + 1 ≤ n) : ∃ Q, Interp (dpts n l) Q ∧ Q.length ≤ t + 1 ∧ peval Q 0 = x := by
  obtain ⟨p, hp, rfl, rfl⟩ := h
  have hl := pnorm_length p
  refine ⟨pnorm p, ⟨pnorm_norm p, by rw [dpts_length]; omega, fun q hq => ?_⟩, by omega, pnorm_eval _ _⟩
  obtain ⟨i, hi, rfl⟩ := mem_dpts.1 hq
  show peval (pnorm p) (pt i) = co (deal n p) i
  rw [pnorm_eval, deal_co p hi]
theorem others_nodup {xs : List F} (h : xs.Nodup) (a : F) : (others xs a).Nodup := h.sublist List.filter_sublist
theorem others_len {xs : List F} (h : xs.Nodup) {a : F} (ha : a ∈ xs) : (others xs a).length = xs.length - 1 := by
  unfold others
  rw [← h.erase_eq_filter a, List.length_erase_of_mem ha]
/-- a share that is wrong, where there is one more than are needed -/
theorem tell_wrong {n t k : Nat} {p : List F} {b : F} (hp : p.length ≤ t + 1) (hn : t + 2 ≤ n) (hn9 : n ≤ 1000) (hk : k < n) (hb : b ≠ 0) {Q : List F} (hQ : Interp (dpts n ((deal n p).set k (peval p (pt k) + b))) Q) : t + 1 < Q.length := by
  rcases Nat.lt_or_ge (t + 1) Q.length with h | h
  · exact h
  exfalso
  have hm : pt k ∈ ptsN n := by unfold ptsN; exact List.mem_map.2 ⟨k, List.mem_range.2 hk, rfl⟩
  have hlen := others_len (ptsN_nodup hn9) hm
  rw [ptsN_length] at hlen
  have hc := agree Q p (others (ptsN n) (pt k)) (others_nodup (ptsN_nodup hn9) _) (by omega) (by omega) (fun x hx => by
    obtain ⟨h1, h2⟩ := mem_others.1 hx
    unfold ptsN at h1
    obtain ⟨i, hi, rfl⟩ := List.mem_map.1 h1
    rw [List.mem_range] at hi
    have hik : i ≠ k := fun e => h2 (by rw [e])
    have := hQ.2.2 _ (mem_dpts.2 ⟨i, hi, rfl⟩)
    dsimp only at this
    rw [this]
    apply co_get
    rw [List.getElem?_set_ne (Ne.symm hik), get_co (by rw [deal_length]; exact hi), deal_co p hi])
  have := hQ.2.2 _ (mem_dpts.2 ⟨k, hk, rfl⟩)
  dsimp only at this
  rw [peval_ext hc, co_get (List.getElem?_set_self (by rw [deal_length]; exact hk))] at this
  exact hb (by grind)
end Croft
