/- Helpers of the keeps that deal: what each returns. -/
import Derived.Test.YtljpangeodgbkaaDoorShamW
import Derived.Test.YtljpangeodgbkaaDoorShamQ
import Derived.Test.YtljpangeodgbkaaDoorFill
namespace Go.Proofs.YtljpangeodgbkaaDoor
open Go.RowKit Croft

def atsN (k : Nat) : List Int := (List.range k).map fun (i : Nat) => (i : Int) + 1
theorem atsN_next (k : Nat) : atsN (k + 1) = atsN k ++ [(k : Int) + 1] := by simp [atsN, List.range_succ]
theorem atsN_length (k : Nat) : (atsN k).length = k := by simp [atsN]
theorem atsN_toFs (n : Nat) : toFs (atsN n) = ptsN n := by simp [toFs, atsN, ptsN, pt, Function.comp_def]
theorem atsN_party {n : Nat} (h : n ≤ 9) : partyB (atsN n) = true := by
  rcases (show n = 0 ∨ n = 1 ∨ n = 2 ∨ n = 3 ∨ n = 4 ∨ n = 5 ∨ n = 6 ∨ n = 7 ∨ n = 8 ∨ n = 9 by omega) with rfl | rfl | rfl | rfl | rfl | rfl | rfl | rfl | rfl | rfl <;> decide
/-- numbers as shares of all parties -/
def shL (zs : List Int) : List (Int × Int) := (List.range zs.length).map fun (i : Nat) => ((i : Int) + 1, zs.getD i 0)
theorem shL_length (zs : List Int) : (shL zs).length = zs.length := by simp [shL]
theorem shL_get {zs : List Int} {k : Nat} {z : Int} (h : zs[k]? = some z) : (shL zs)[k]? = some ((k : Int) + 1, z) := by
  obtain ⟨h1, h2⟩ := List.getElem?_eq_some_iff.1 h
  simp [shL, h1, h2]
theorem shL_next {zs : List Int} {k : Nat} {z : Int} (h : zs[k]? = some z) : shL (zs.take (k + 1)) = shL (zs.take k) ++ [((k : Int) + 1, z)] := by
  have h1 := (List.getElem?_eq_some_iff.1 h).1
  have hl : (zs.take (k + 1)).length = k + 1 := by simp; omega
  have hl2 : (zs.take k).length = k := by simp; omega
  unfold shL
  rw [hl, hl2, List.range_succ, List.map_append]
  congr 1
  · apply List.map_congr_left
    intro i hi
    rw [List.mem_range] at hi
    simp only [List.getD, List.getElem?_take, if_pos hi, if_pos (show i < k + 1 by omega)]
  · simp only [List.map_cons, List.map_nil, List.getD, List.getElem?_take, if_pos (show k < k + 1 by omega), h, Option.getD_some]
theorem shL_ats (zs : List Int) : (shL zs).map (·.1) = atsN zs.length := by simp [shL, atsN, Function.comp_def]
theorem shL_pts (zs : List Int) : ptsF (shL zs) = dpts zs.length (toFs zs) := by
  unfold ptsF shL dpts
  rw [List.map_map]
  apply List.map_congr_left
  intro i hi
  rw [List.mem_range] at hi
  show (toF ((i : Int) + 1), toF (zs.getD i 0)) = (pt i, co (toFs zs) i)
  rw [co_toFs (List.getElem?_eq_getElem hi)]
  simp [pt, List.getD, List.getElem?_eq_getElem hi]
theorem shL_ok {t : Nat} {zs : List Int} (ht : t ≤ 4) (h : t + 1 ≤ zs.length) (h9 : zs.length ≤ 9) : checkE t (shL zs) = 0 := by
  unfold checkE
  rw [if_pos (by omega), if_pos (by rw [shL_ats]; exact atsN_party h9), if_neg (by rw [shL_length]; omega)]
theorem own_slice {w : World} {base : Nat} {e : TypeId} {size n : Nat} {v : Value} {xs : List Value} (h : w.ownsRow base e size v n xs) (hn : 0 < n) : ∃ g c, v = .slice (some ⟨g, 0, none⟩) n c ∧ base ≤ g ∧ g < w.heap.size := by
  rcases h.2 with ⟨_, h0⟩ | ⟨g, cap, cur, rfl, hb, hg, _⟩
  · omega
  · exact ⟨g, cap, rfl, hb, (Array.getElem?_eq_some_iff.1 hg).1⟩
theorem shs_setY : ∀ (l : List (Int × Int)) (k : Nat) (a y y' : Int), l[k]? = some (a, y) → shs (l.set k (a, y')) = (shs l).set (k * 2 + 1) (.int .u64 y') := by
  intro l
  induction l with
  | nil => intro k a y y' h; simp at h
  | cons s l ih =>
    intro k a y y' h
    cases k with
    | zero => simp at h; subst h; rfl
    | succ k =>
      rw [List.set_cons_succ, shs_cons, shs_cons, ih k a y y' (by simpa using h), show (k + 1) * 2 + 1 = (k * 2 + 1) + 1 + 1 by omega]
      rfl
section
variable {w : World} {base g n c : Nat} {l : List (Int × Int)}
theorem OwnShares.len (h : OwnShares w base (.slice (some ⟨g, 0, none⟩) n c) l) : n = l.length := by
  rcases h.1.2 with ⟨hv, _⟩ | ⟨g', cap, cur, hv, _⟩
  · simp at hv
  · injection hv
theorem OwnShares.cellY (h : OwnShares w base (.slice (some ⟨g, 0, none⟩) n c) l) {k : Nat} {a y : Int} (hk : l[k]? = some (a, y)) : w.cell? ⟨g, k * 2 + 1, none⟩ = some (.int .u64 y) := by
  obtain rfl := h.len
  have h1 := (List.getElem?_eq_some_iff.1 hk).1
  rw [h.1.cellAt (k * 2 + 1) (by omega), (shs_get l k _ hk).2]
theorem OwnShares.cellA (h : OwnShares w base (.slice (some ⟨g, 0, none⟩) n c) l) {k : Nat} {a y : Int} (hk : l[k]? = some (a, y)) : w.cell? ⟨g, k * 2, none⟩ = some (.int .i64 a) := by
  obtain rfl := h.len
  have h1 := (List.getElem?_eq_some_iff.1 hk).1
  rw [h.1.cellAt (k * 2) (by omega), (shs_get l k _ hk).1]
theorem OwnShares.frozen (h : OwnShares w base (.slice (some ⟨g, 0, none⟩) n c) l) (j : Nat) : w.frozen? ⟨g, j, none⟩ = false := by
  obtain rfl := h.len
  exact h.1.frozenAt j
theorem OwnShares.setY (h : OwnShares w base (.slice (some ⟨g, 0, none⟩) n c) l) {k : Nat} {a y y' : Int} (hk : l[k]? = some (a, y)) (hy : U64 y') : OwnShares (w.setCell ⟨g, k * 2 + 1, none⟩ (.int .u64 y')) base (.slice (some ⟨g, 0, none⟩) n c) (l.set k (a, y')) := by
  obtain rfl := h.len
  refine ⟨?_, by simpa using h.2.1, ?_⟩
  · have h1 := (h.1.stored (k * 2 + 1) (.int .u64 y')).1
    rw [List.length_set, shs_setY l k a y y' hk]; exact h1
  · intro s hs
    rcases List.mem_or_eq_of_mem_set hs with h1 | h1
    · exact h.2.2 s h1
    · subst h1; exact ⟨(h.2.2 _ (List.mem_of_getElem? hk)).1, hy⟩
end
theorem shL_set {zs : List Int} {k : Nat} {z y : Int} (h : zs[k]? = some y) : (shL zs).set k ((k : Int) + 1, z) = shL (zs.set k z) := by
  have hk := (List.getElem?_eq_some_iff.1 h).1
  apply List.ext_getElem?
  intro i
  by_cases hi : i < zs.length
  · by_cases hik : i = k
    · subst hik
      rw [List.getElem?_set_self (by rw [shL_length]; exact hi), shL_get (z := z) (List.getElem?_set_self hi)]
    · rw [List.getElem?_set_ne (Ne.symm hik), shL_get (List.getElem?_eq_getElem hi), shL_get (z := zs[i]) (by rw [List.getElem?_set_ne (Ne.symm hik), List.getElem?_eq_getElem hi])]
  · rw [List.getElem?_eq_none (by rw [List.length_set, shL_length]; omega), List.getElem?_eq_none (by rw [shL_length, List.length_set]; omega)]
theorem dealt_pts : Interp (ptsF [(3, 11), (1, 7)]) [5, 2] := by
  refine ⟨by decide +kernel, by decide, fun p hp => ?_⟩
  have e : ptsF [(3, 11), (1, 7)] = [(toF 3, toF 11), (toF 1, toF 7)] := rfl
  rw [e] at hp
  simp only [List.mem_cons, List.not_mem_nil, or_false] at hp
  rcases hp with rfl | rfl <;> decide +kernel
theorem dealt_out : ofFs (deal 3 (toFs [5, 2])) = [7, 9, 11] := by decide +kernel
theorem dealt_check : checkE 1 [(3, 11), (1, 7)] = 0 := by decide +kernel
theorem dealt_x : openX 1 [5, 2] = 5 ∧ openE 1 [5, 2] = 0 := by decide +kernel
end Go.Proofs.YtljpangeodgbkaaDoor
