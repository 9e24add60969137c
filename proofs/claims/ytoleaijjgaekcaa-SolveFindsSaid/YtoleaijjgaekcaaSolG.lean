/- Tables of numbers that a call changes row by row: rows exchanged, divided, cleared. -/
import Derived.Test.YtoleaijjgaekcaaSolK
import Derived.Test.YtoleaijjgaekcaaSolP
namespace Go.Proofs.Ytoleaijjgaekcaa
open Go.RowKit Croft

def sw (a k i : Nat) : Nat := if i = k then a else if i = a then k else i
theorem sw_inj {a k i j : Nat} (h : sw a k i = sw a k j) : i = j := by unfold sw at h; split at h <;> split at h <;> (try split at h) <;> (try split at h) <;> omega
theorem swap_get {α : Type} {l : List α} {a k : Nat} {x y : α} (hx : l[a]? = some x) (hy : l[k]? = some y) (i : Nat) : ((l.set a y).set k x)[i]? = l[sw a k i]? := by
  have hk := (List.getElem?_eq_some_iff.1 hy).1
  have ha := (List.getElem?_eq_some_iff.1 hx).1
  unfold sw
  by_cases h1 : i = k
  · subst h1
    rw [if_pos rfl, List.getElem?_set_self (by rw [List.length_set]; exact hk), hx]
  · rw [if_neg h1, List.getElem?_set_ne (Ne.symm h1)]
    by_cases h2 : i = a
    · subst h2
      rw [if_pos rfl, List.getElem?_set_self ha, hy]
    · rw [if_neg h2, List.getElem?_set_ne (Ne.symm h2)]
theorem Grid.swap {w : World} {base g n c a k : Nat} {vs : List Value} {rows : List (List Int)} {x y : Value} {ra rk : List Int} (h : Grid w base (.slice (some ⟨g, 0, none⟩) n c) vs rows)
    (hx : vs[a]? = some x) (hy : vs[k]? = some y) (hra : rows[a]? = some ra) (hrk : rows[k]? = some rk) :
    Grid ((w.setCell ⟨g, a, none⟩ y).setCell ⟨g, k, none⟩ x) base (.slice (some ⟨g, 0, none⟩) n c) ((vs.set a y).set k x) ((rows.set a rk).set k ra) := by
  have hn : n = rows.length := by
    rcases h.outer.2 with ⟨hv, _⟩ | ⟨g', cap, cur, hv, _⟩
    · simp at hv
    · injection hv
  subst hn
  have hg1 := set_grown w g a y
  have hg2 := set_grown (w.setCell ⟨g, a, none⟩ y) g k x
  refine ⟨?_, by simpa using h.len, fun i u r hu hr => ?_, fun i j u v b hu hv hub hvb => ?_⟩
  · rw [List.length_set, List.length_set]
    exact ((h.outer.stored a y).1.stored k x).1
  · rw [swap_get hx hy] at hu
    rw [swap_get hra hrk] at hr
    have ho := h.row _ u r hu hr
    have hne : u.ownBlock ≠ some g := fun hb => kinds_apart ho.1 h.outer (by decide) hb rfl
    exact (ho.kept hg1 (.inr hne)).kept hg2 (.inr hne)
  · rw [swap_get hx hy] at hu hv
    exact sw_inj (h.apart _ _ u v b hu hv hub hvb)
def mx (rows : List (List Int)) : Mx := fun r c => co (toFs (rows.getD r [])) c
theorem mx_get {rows : List (List Int)} {i : Nat} {r : List Int} (h : rows[i]? = some r) (c : Nat) : mx rows i c = co (toFs r) c := by unfold mx; simp [List.getD, h]
theorem mx_swap {rows : List (List Int)} {a k : Nat} {ra rk : List Int} (hra : rows[a]? = some ra) (hrk : rows[k]? = some rk) : mx ((rows.set a rk).set k ra) = swapM (mx rows) a k := by
  funext r c
  have h : ((rows.set a rk).set k ra).getD r [] = rows.getD (sw a k r) [] := by
    simp only [List.getD, swap_get hra hrk]
  unfold mx swapM
  rw [h]
  unfold sw
  by_cases h1 : r = k
  · subst h1
    rw [if_pos rfl]
    by_cases h2 : r = a
    · subst h2; rw [if_pos rfl]
    · rw [if_neg h2, if_pos rfl]
  · rw [if_neg h1]
    by_cases h2 : r = a
    · rw [if_pos h2, if_pos h2]
    · rw [if_neg h2, if_neg h2, if_neg h1]
/-- a row times a number -/
def sclL (r : List Int) (s : F) : List Int := r.map fun u => ofF (toF u * s)
theorem sclL_length (r : List Int) (s : F) : (sclL r s).length = r.length := by simp [sclL]
theorem sclL_get {r : List Int} {j : Nat} {u : Int} (s : F) (h : r[j]? = some u) : (sclL r s)[j]? = some (ofF (toF u * s)) := by simp [sclL, h]
theorem co_sclL (r : List Int) (s : F) (c : Nat) : co (toFs (sclL r s)) c = co (toFs r) c * s := by
  rcases Nat.lt_or_ge c r.length with h | h
  · have hu : r[c]? = some r[c] := List.getElem?_eq_getElem h
    rw [co_toFs (sclL_get s hu), co_toFs hu, toF_ofF]
  · rw [co_of_le (by rw [toFs_length, sclL_length]; exact h), co_of_le (by rw [toFs_length]; exact h), F_zm]
theorem mx_set {rows : List (List Int)} {a : Nat} {q : List Int} (ha : a < rows.length) (r c : Nat) : mx (rows.set a q) r c = if r = a then co (toFs q) c else mx rows r c := by
  unfold mx
  by_cases h : r = a
  · subst h
    rw [if_pos rfl]
    simp [List.getD, ha]
  · rw [if_neg h]
    simp only [List.getD, List.getElem?_set_ne (Ne.symm h)]
theorem mx_scale {rows : List (List Int)} {a : Nat} {ra : List Int} (h : rows[a]? = some ra) (s : F) : mx (rows.set a (sclL ra s)) = scaleM (mx rows) a s := by
  funext r c
  rw [mx_set (List.getElem?_eq_some_iff.1 h).1]
  unfold scaleM
  by_cases h1 : r = a
  · subst h1
    rw [if_pos rfl, if_pos rfl, co_sclL, mx_get h]
  · rw [if_neg h1, if_neg h1]
theorem co_clrL {r b : List Int} (h : r.length = b.length) (t : Int) (c : Nat) : co (toFs (clrL r b t)) c = co (toFs r) c - toF t * co (toFs b) c := by
  rcases Nat.lt_or_ge c r.length with hc | hc
  · have hu : r[c]? = some r[c] := List.getElem?_eq_getElem hc
    have hv : b[c]? = some (b[c]'(by omega)) := List.getElem?_eq_getElem (by omega)
    rw [co_toFs (clrL_get t hu hv), co_toFs hu, co_toFs hv, toF_ofF]
  · rw [co_of_le (by rw [toFs_length, clrL_length t h]; exact hc), co_of_le (by rw [toFs_length]; exact hc), co_of_le (by rw [toFs_length]; omega), F_mz, F_sz]
/-- one more row cleared -/
theorem mx_clear {rows : List (List Int)} {S : Mx} {a col n : Nat} {r b : List Int} {t : Int} (hS : mx rows = clearM S a col n) (hn : rows[n]? = some r) (ha : rows[a]? = some b) (hna : n ≠ a) (hl : r.length = b.length) (ht : r[col]? = some t) : mx (rows.set n (clrL r b t)) = clearM S a col (n + 1) := by
  have hr : ∀ c, co (toFs r) c = S n c := fun c => by
    rw [← mx_get hn, hS]; unfold clearM; rw [if_neg (by omega)]
  have hb : ∀ c, co (toFs b) c = S a c := fun c => by
    rw [← mx_get ha, hS]; unfold clearM; rw [if_neg (by omega)]
  have htc : toF t = S n col := by rw [← hr, co_toFs ht]
  funext i c
  rw [mx_set (List.getElem?_eq_some_iff.1 hn).1]
  by_cases h : i = n
  · subst h
    rw [if_pos rfl, co_clrL hl, hr, hb, htc]
    unfold clearM
    rw [if_pos ⟨by omega, hna⟩]
  · rw [if_neg h, hS]
    unfold clearM
    by_cases h2 : i < n ∧ i ≠ a
    · rw [if_pos h2, if_pos ⟨by omega, h2.2⟩]
    · rw [if_neg h2, if_neg (by omega)]
theorem clearM_skip (S : Mx) (a col : Nat) : clearM S a col (a + 1) = clearM S a col a := by
  funext r c
  unfold clearM
  by_cases h : r < a ∧ r ≠ a
  · rw [if_pos h, if_pos (by omega)]
  · rw [if_neg h, if_neg (by omega)]
theorem clearM_start (S : Mx) (a col : Nat) : clearM S a col 0 = S := by
  funext r c
  unfold clearM
  rw [if_neg (by omega)]
end Go.Proofs.Ytoleaijjgaekcaa
