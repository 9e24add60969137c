/- Square tables of numbers: plain mathematics, no program. -/
import Derived.Test.YtknjcdlknnfhaaaPlain
namespace Croft
def mat (n : Nat) (f : Nat → Nat → Int) : List (List Int) := (List.range n).map fun p => (List.range n).map fun q => f p q
theorem mat_length (n : Nat) (f : Nat → Nat → Int) : (mat n f).length = n := by simp [mat]
theorem mat_row {n : Nat} {f : Nat → Nat → Int} {p : Nat} (h : p < n) : (mat n f)[p]? = some ((List.range n).map fun q => f p q) := by simp [mat, h]
theorem mat_congr {n : Nat} {f g : Nat → Nat → Int} (h : ∀ p q, p < n → q < n → f p q = g p q) : mat n f = mat n g := by
  unfold mat
  apply List.map_congr_left
  intro p hp
  apply List.map_congr_left
  intro q hq
  exact h p q (List.mem_range.1 hp) (List.mem_range.1 hq)
theorem mat_set {n : Nat} (f : Nat → Nat → Int) {p q : Nat} (z : Int) : (mat n f).set p (((List.range n).map fun q => f p q).set q z) = mat n (fun a b => if a = p ∧ b = q then z else f a b) := by
  apply List.ext_getElem
  · simp [mat]
  · intro a h1 h2
    have ha : a < n := by simpa [mat] using h2
    simp only [mat, List.getElem_set, List.getElem_map, List.getElem_range]
    by_cases hap : p = a
    · subst hap
      rw [if_pos rfl]
      apply List.ext_getElem
      · simp
      · intro b h3 h4
        simp only [List.getElem_set, List.getElem_map, List.getElem_range]
        by_cases hb : q = b
        · subst hb; simp
        · rw [if_neg hb, if_neg (by rintro ⟨_, rfl⟩; exact hb rfl)]
    · rw [if_neg hap]
      apply List.map_congr_left
      intro b _
      rw [if_neg (by rintro ⟨rfl, _⟩; exact hap rfl)]
/-- where the numbers of row k begin -/
def off (t : Nat) : Nat → Nat
  | 0 => 0
  | k + 1 => off t k + (t + 1 - k)
def idx (t p q : Nat) : Nat := off t (min p q) + (max p q - min p q)
/-- the table, filled up to row i, number j -/
def partM (t : Nat) (D : List Int) (i j : Nat) (p q : Nat) : Int := if min p q < i ∨ (min p q = i ∧ max p q < j) then ofF (toF (D.getD (idx t p q) 0)) else 0
theorem part_step {t : Nat} (D : List Int) {i j : Nat} (hij : i ≤ j) : mat (t + 1) (partM t D i (j + 1)) = mat (t + 1) (fun a b => if a = j ∧ b = i then ofF (toF (D.getD (idx t i j) 0)) else if a = i ∧ b = j then ofF (toF (D.getD (idx t i j) 0)) else partM t D i j a b) := by
  apply mat_congr
  intro p q _ _
  unfold partM
  by_cases h1 : p = j ∧ q = i
  · obtain ⟨rfl, rfl⟩ := h1
    rw [if_pos (by omega), if_pos ⟨rfl, rfl⟩]
    unfold idx
    rw [Nat.min_comm, Nat.max_comm]
  · rw [if_neg h1]
    by_cases h2 : p = i ∧ q = j
    · obtain ⟨rfl, rfl⟩ := h2
      rw [if_pos (by omega), if_pos ⟨rfl, rfl⟩]
    · rw [if_neg h2]
      by_cases h3 : min p q < i ∨ (min p q = i ∧ max p q < j)
      · rw [if_pos h3, if_pos (by omega)]
      · rw [if_neg h3, if_neg (by omega)]
theorem part_row {t : Nat} (D : List Int) {i : Nat} : mat (t + 1) (partM t D i (t + 1)) = mat (t + 1) (partM t D (i + 1) (i + 1)) := by
  apply mat_congr
  intro p q hp hq
  unfold partM
  by_cases h3 : min p q < i ∨ (min p q = i ∧ max p q < t + 1)
  · rw [if_pos h3, if_pos (by omega)]
  · rw [if_neg h3, if_neg (by omega)]
theorem part_start {t : Nat} (D : List Int) : mat (t + 1) (partM t D 0 0) = List.replicate (t + 1) (List.replicate (t + 1) 0) := by
  have : mat (t + 1) (partM t D 0 0) = mat (t + 1) fun _ _ => 0 := mat_congr fun p q _ _ => by unfold partM; rw [if_neg (by omega)]
  rw [this]
  simp [mat, List.map_const']
theorem part_end {t : Nat} (D : List Int) : mat (t + 1) (partM t D (t + 1) (t + 1)) = mat (t + 1) fun p q => ofF (toF (D.getD (idx t p q) 0)) :=
  mat_congr fun p q hp hq => by unfold partM; rw [if_pos (by omega)]
end Croft
