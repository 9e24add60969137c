/- Equations that are made of values: as lists. -/
import Derived.Test.YtknjcdlknnfhaaaSolF
import Derived.Test.YtknjcdlknnfhaaaSolT
import Derived.Test.YtknjcdlknnfhaaaFill
namespace Go.Proofs.Ytknjcdlknnfhaaa
open Go.RowKit Croft

def rowV (n : Nat) (V r : List Int) : List Int := fillL r n ++ [ofF (fsum n fun k => co (toFs (fillL r n)) k * co (toFs V) k)]
theorem rowV_length (n : Nat) (V r : List Int) : (rowV n V r).length = n + 1 := by simp [rowV, fillL_length]
theorem toFs_append (a b : List Int) : toFs (a ++ b) = toFs a ++ toFs b := by simp [toFs]
theorem rowV_lt {n : Nat} {V r : List Int} {k : Nat} (h : k < n) : co (toFs (rowV n V r)) k = co (toFs (fillL r n)) k := by
  unfold rowV
  rw [toFs_append, co_append_lt (by rw [toFs_length, fillL_length]; exact h)]
theorem rowV_at (n : Nat) (V r : List Int) : co (toFs (rowV n V r)) n = fsum n fun k => co (toFs (fillL r n)) k * co (toFs V) k := by
  unfold rowV
  rw [toFs_append]
  have e : toFs [ofF (fsum n fun k => co (toFs (fillL r n)) k * co (toFs V) k)] = [fsum n fun k => co (toFs (fillL r n)) k * co (toFs V) k] := by simp [toFs, toF_ofF]
  rw [e, co_append_at (by rw [toFs_length, fillL_length])]
def rowsV (n : Nat) (V : List Int) (rows : List (List Int)) : List (List Int) := rows.map (rowV n V)
theorem rowsV_len (n : Nat) (V : List Int) (rows : List (List Int)) : ∀ r ∈ rowsV n V rows, r.length = n + 1 := fun r hr => by
  obtain ⟨q, _, rfl⟩ := List.mem_map.1 hr
  exact rowV_length n V q
theorem rowsV_holds (n : Nat) (V : List Int) (rows : List (List Int)) : ∀ r ∈ rowsV n V rows, fsum n (fun k => co (toFs r) k * co (toFs V) k) = co (toFs r) n := fun r hr => by
  obtain ⟨q, _, rfl⟩ := List.mem_map.1 hr
  rw [rowV_at]
  exact fsum_congr fun i hi => by rw [rowV_lt hi]
theorem meets_of {n : Nat} {L : List (List Int)} {y : Nat → F} (h : ∀ r ∈ L, fsum n (fun k => co (toFs r) k * y k) = co (toFs r) n) : Meets L.length n (mx L) y := fun r hr => by
  have hg : L[r]? = some L[r] := List.getElem?_eq_getElem hr
  rw [mx_get hg, ← h _ (List.mem_of_getElem? hg)]
  exact fsum_congr fun i _ => by rw [mx_get hg]
theorem of_meets {n : Nat} {L : List (List Int)} {y : Nat → F} (h : Meets L.length n (mx L) y) : ∀ r ∈ L, fsum n (fun k => co (toFs r) k * y k) = co (toFs r) n := fun r hr => by
  obtain ⟨i, hi⟩ := List.getElem?_of_mem hr
  have hlt := (List.getElem?_eq_some_iff.1 hi).1
  have h1 := h i hlt
  rw [mx_get hi] at h1
  rw [← h1]
  exact fsum_congr fun k _ => by rw [mx_get hi]
theorem mx_more (L : List (List Int)) (q : List Int) : mx (L ++ [q]) = moreM (mx L) L.length (fun c => co (toFs q) c) := by
  funext r c
  unfold moreM
  by_cases h : r = L.length
  · subst h
    rw [if_pos rfl, mx_get (r := q) (by simp)]
  · rw [if_neg h]
    unfold mx
    rcases Nat.lt_or_ge r L.length with h1 | h1
    · rw [List.getD_eq_getElem?_getD, List.getD_eq_getElem?_getD, List.getElem?_append_left h1]
    · rw [List.getD_eq_getElem?_getD, List.getD_eq_getElem?_getD, List.getElem?_eq_none (by simp; omega), List.getElem?_eq_none h1]
def litR : List (List Int) := [[1, 1, 5], [1, 2147483646, 1]]
theorem lit_meets : Meets 2 2 (mx litR) (co [3, 2]) := by
  have h : ∀ r ∈ litR, fsum 2 (fun k => co (toFs r) k * co [3, 2] k) = co (toFs r) 2 := by decide +kernel
  exact meets_of (L := litR) h
theorem half : (2 : F) * toF 1073741824 = 1 := by decide +kernel
theorem F_i1 (t a : F) : (2 * t) * a = t * (2 * a) := by grind
theorem F_i2 (t : F) : t * 6 = (2 * t) * 3 := by grind
theorem F_i3 (a b : F) (h0 : 0 + 1 * a + 1 * b = 5) (h1 : 0 + 1 * a + -1 * b = 1) : 2 * a = 6 := by grind
theorem F_i4 (b : F) (h0 : 0 + 1 * 3 + 1 * b = 5) : b = 2 := by grind
theorem half_of {a t : F} (e : 2 * t = 1) (h : 2 * a = 6) : a = 3 := by
  have h1 := F_i1 t a
  rw [e, h, F_i2, e, F_om, F_om] at h1
  exact h1
theorem lit_only {y : Nat → F} (h : Meets 2 2 (mx litR) y) : y 0 = 3 ∧ y 1 = 2 := by
  have h0 := h 0 (by omega)
  have h1 := h 1 (by omega)
  rw [mx_get (r := [1, 1, 5]) rfl] at h0
  rw [mx_get (r := [1, 2147483646, 1]) rfl] at h1
  simp only [fsum] at h0 h1
  rw [mx_get (r := [1, 1, 5]) rfl, mx_get (r := [1, 1, 5]) rfl] at h0
  rw [mx_get (r := [1, 2147483646, 1]) rfl, mx_get (r := [1, 2147483646, 1]) rfl] at h1
  have c0 : co (toFs [1, 1, 5]) 0 = 1 ∧ co (toFs [1, 1, 5]) 1 = 1 ∧ co (toFs [1, 1, 5]) 2 = 5 := by decide +kernel
  have c1 : co (toFs [1, 2147483646, 1]) 0 = 1 ∧ co (toFs [1, 2147483646, 1]) 1 = -1 ∧ co (toFs [1, 2147483646, 1]) 2 = 1 := by decide +kernel
  rw [c0.1, c0.2.1, c0.2.2] at h0
  rw [c1.1, c1.2.1, c1.2.2] at h1
  have h3 : y 0 = 3 := half_of half (F_i3 _ _ h0 h1)
  rw [h3] at h0
  exact ⟨h3, F_i4 _ h0⟩
theorem lit_sol {M : Mx} {ls : List Nat} (h : Red (mx litR) M 2 3 2 ls) : ofFs (solF M ls 2) = [3, 2] := by
  obtain ⟨h0, h1⟩ := lit_only (h.sol (h.fits lit_meets))
  have e : solF M ls 2 = [ySol M ls 2 0, ySol M ls 2 1] := rfl
  rw [e, h0, h1]
  decide +kernel
theorem solF_co {M : Mx} {ls : List Nat} {v k : Nat} (h : k < v) : co (solF M ls v) k = ySol M ls v k := co_get (by simp [solF, h])
theorem solF_eq {M N : Mx} {ls ls1 : List Nat} {v : Nat} (h : ∀ j, j < v → ySol M ls v j = ySol N ls1 v j) : solF M ls v = solF N ls1 v := List.map_congr_left fun j hj => h j (List.mem_range.1 hj)
end Go.Proofs.Ytknjcdlknnfhaaa
