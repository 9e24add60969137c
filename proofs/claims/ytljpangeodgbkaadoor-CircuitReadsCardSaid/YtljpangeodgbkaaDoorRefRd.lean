/- A circuit's text, read by the document: what the call returns. -/
import Derived.Test.YtljpangeodgbkaaDoorParseW
import Derived.Test.YtljpangeodgbkaaDoorRefTx
import Derived.Deep.CutRange
import Derived.Deep.CutBlock
namespace Go.Proofs.YtljpangeodgbkaaDoor
open Go.RowKit Go.Sort Go.PlainAid Croft

/-- all words lie in the document's table, the empty one too -/
def Verbs0 (w : World) : Prop := Verbs w ∧ w.cell? ⟨0, 0, none⟩ = some (.string (bs []))
theorem Verbs0.below {w w' : World} (h : Verbs0 w) (hb : Below w.heap.size w w') : Verbs0 w' :=
  ⟨h.1.below hb, (hb.cell (p := ⟨0, 0, none⟩) h.1.lt).trans h.2⟩
def kindI (w : List UInt8) : Int := if w = [] then 0 else if wordK w ≤ 6 then wordK w else -1
theorem wordK_nil : wordK [] = 7 := by decide
theorem kindI_low {w : List UInt8} (h : ¬ wordK w ≤ 6) : kindI w < 1 := by
  unfold kindI
  by_cases q : w = []
  · rw [if_pos q]; omega
  · rw [if_neg q, if_neg h]; omega
theorem kindI_is {w : List UInt8} (h : wordK w ≤ 6) : kindI w = wordK w := by
  unfold kindI
  by_cases q : w = []
  · subst q; rw [wordK_nil] at h; omega
  · rw [if_neg q, if_pos h]
def vbs : List ByteArray := [bs (wordL 0), bs (wordL 1), bs (wordL 2), bs (wordL 3), bs (wordL 4), bs (wordL 5), bs (wordL 6)]
theorem vbs_get {j : Nat} (h : j < 7) : vbs.getD j ByteArray.empty = bs (wordL j) := by
  obtain rfl | rfl | rfl | rfl | rfl | rfl | rfl : j = 0 ∨ j = 1 ∨ j = 2 ∨ j = 3 ∨ j = 4 ∨ j = 5 ∨ j = 6 := by omega
  all_goals rfl
theorem wordL_inj {i j : Nat} (hi : i ≤ 6) (hj : j ≤ 6) (h : wordL i = wordL j) : i = j := by
  have h7 : ∀ a b : Fin 7, wordL (a.1 : Int) = wordL (b.1 : Int) → a.1 = b.1 := by decide
  exact h7 ⟨i, by omega⟩ ⟨j, by omega⟩ h
theorem kind_any (x : List UInt8) (w : World) (h : Verbs0 w) :
    Calls Tryd.prog 25 #[.slice (some ⟨0, 0, none⟩) 7 7, .string (bs x)] w fun e w' => e = .returned (.int .i64 (kindI x)) ∧ w = w' := by
  have hc : ∀ j, j < vbs.length → w.cell? ⟨0, 0 + j, none⟩ = some (.string (vbs.getD j ByteArray.empty)) := fun j hj => by
    have hj7 : j < 7 := hj
    rw [vbs_get hj7, Nat.zero_add]
    by_cases h0 : j = 0
    · subst h0; exact h.2
    · exact h.1 j (by omega) (by omega)
  refine (sh_slices_Index_string 0 0 7 7 vbs (bs x) w (by decide) (by omega) hc).mono fun e w' hh => ?_
  obtain ⟨rfl, rfl⟩ := hh
  refine ⟨?_, rfl⟩
  congr 2
  have hit : ∀ k : Nat, k < 7 → x = wordL k → Lib.idxOfS (vbs.take 7) (bs x) = k := fun k hk hx => by
    refine Lib.idxOfS_hit vbs 7 k (bs x) hk (by decide) (by rw [vbs_get hk, hx]) (fun j hj he => ?_)
    rw [vbs_get (by omega)] at he
    have := wordL_inj (i := j) (j := k) (by omega) (by omega) (by rw [bs_inj he, hx])
    omega
  unfold kindI
  split
  · next q => exact hit 0 (by omega) (by rw [q]; rfl)
  · next q =>
    split
    · next q2 =>
      have h1 := (wordK_range x).1
      obtain ⟨k, hk⟩ : ∃ k : Nat, wordK x = k := ⟨(wordK x).toNat, by omega⟩
      rw [hk]
      exact hit k (by omega) (wordK_is hk (by omega))
    · next q2 =>
      refine Lib.idxOfS_miss vbs 7 (bs x) (fun j hj he => ?_)
      rw [vbs_get hj] at he
      have hx := (bs_inj he).symm
      by_cases h0 : j = 0
      · subst h0; exact q hx
      · have := wordK_wordL (k := (j : Int)) (by omega) (by omega)
        rw [← hx] at this
        omega
theorem readR_yes {gs : List Gt} {os : List Int} {w0 : List UInt8} {ws : List (List UInt8)} (h0 : w0 ≠ outW) (h : wordK w0 ≤ 6 ∧ os.length = 0 ∧ ((numbersL ws).length : Int) = (if wordK w0 ≤ 2 then 1 else 2)) : numsOk ws = true ∧ numbersL ws = ws.map numR ∧ readR gs os w0 ws = some (gs ++ [gateR (wordK w0) (numbersL ws)], os) := by
  obtain ⟨h1, h2, h3⟩ := h
  cases hn : numsOk ws with
  | false =>
    unfold numbersL at h3
    rw [hn] at h3
    simp at h3
    split at h3 <;> omega
  | true =>
    have he : numbersL ws = ws.map numR := by unfold numbersL; rw [hn, if_pos rfl]
    refine ⟨rfl, he, ?_⟩
    rw [he, List.length_map] at h3
    rw [readR_gate hn h0, if_pos ⟨h1, h2, h3⟩, he]
theorem readR_no {gs : List Gt} {os : List Int} {w0 : List UInt8} {ws : List (List UInt8)} (h0 : w0 ≠ outW) (h : ¬ (wordK w0 ≤ 6 ∧ os.length = 0 ∧ ((numbersL ws).length : Int) = (if wordK w0 ≤ 2 then 1 else 2))) : readR gs os w0 ws = none := by
  cases hn : numsOk ws with
  | false => exact readR_bad hn
  | true =>
    have he : numbersL ws = ws.map numR := by unfold numbersL; rw [hn, if_pos rfl]
    rw [he, List.length_map] at h
    rw [readR_gate hn h0, if_neg h]
/-- the lines that are read -/
def linesL (l : List UInt8) : List (List UInt8) := if (pieces 10 l).getLast (pieces_ne 10 l) = [] then (pieces 10 l).dropLast else pieces 10 l
def wholeB (l : List UInt8) : Bool := decide ((pieces 10 l).getLast (pieces_ne 10 l) = [])
theorem drop_hit {gs : List Gt} {os : List Int} {n k : Nat} {P : List (List UInt8)} {x : List UInt8} (hk : P[k]? = some x) (hl : k + 1 < P.length) : parseR gs os n (P.drop k) = match readL gs os x with | none => .inr n | some (gs', os') => parseR gs' os' (n + 1) (P.drop (k + 1)) := by
  obtain ⟨h1, rfl⟩ := List.getElem?_eq_some_iff.1 hk
  rw [List.drop_eq_getElem_cons h1]
  rw [List.drop_eq_getElem_cons (show k + 1 < P.length by omega), parseR]
  cases readL gs os P[k] with
  | none => rfl
  | some q => rfl
theorem drop_last {gs : List Gt} {os : List Int} {n k : Nat} {P : List (List UInt8)} {x : List UInt8} (hk : P[k]? = some x) (hl : k + 1 = P.length) : parseR gs os n (P.drop k) = if x = [] then .inl (gs, os) else .inr n := by
  obtain ⟨h1, rfl⟩ := List.getElem?_eq_some_iff.1 hk
  rw [List.drop_eq_getElem_cons h1, List.drop_of_length_le (by omega), parseR]
/-- how the lines lie in the pieces -/
theorem lines_whole {l : List UInt8} (h : wholeB l = true) : (pieces 10 l).length = (linesL l).length + 1 ∧ (pieces 10 l)[(linesL l).length]? = some [] ∧ ∀ k, k < (linesL l).length → (pieces 10 l)[k]? = (linesL l)[k]? := by
  have h' : (pieces 10 l).getLast (pieces_ne 10 l) = [] := by simpa [wholeB] using h
  have hp := List.length_pos_iff.2 (pieces_ne 10 l)
  unfold linesL
  rw [if_pos h']
  have hl : (pieces 10 l).dropLast.length = (pieces 10 l).length - 1 := List.length_dropLast ..
  refine ⟨by omega, ?_, fun k hk => ?_⟩
  · rw [hl, ← h', List.getLast_eq_getElem, List.getElem?_eq_getElem (by omega)]
  · rw [List.getElem?_dropLast, if_pos (by omega)]
theorem lines_open {l : List UInt8} (h : wholeB l = false) : linesL l = pieces 10 l ∧ ∀ x, (pieces 10 l)[(linesL l).length - 1]? = some x → x ≠ [] := by
  have h' : (pieces 10 l).getLast (pieces_ne 10 l) ≠ [] := by simpa [wholeB] using h
  have hp := List.length_pos_iff.2 (pieces_ne 10 l)
  have he : linesL l = pieces 10 l := if_neg h'
  refine ⟨he, fun x hx => ?_⟩
  rw [he, List.getElem?_eq_getElem (by omega)] at hx
  rw [List.getLast_eq_getElem] at h'
  exact fun e => h' (by rw [Option.some.inj hx, e])
/-- what a line comes to -/
theorem line_bad {l : List UInt8} {k : Nat} {x : List UInt8} {gs : List Gt} {os : List Int} (hx : (linesL l)[k]? = some x) (h : readL gs os x = none ∨ (wholeB l = false ∧ k + 1 = (linesL l).length)) : parseR gs os (k + 1) ((pieces 10 l).drop k) = .inr (k + 1) := by
  have hk := (List.getElem?_eq_some_iff.1 hx).1
  cases hw : wholeB l with
  | true =>
    obtain ⟨h1, _, h3⟩ := lines_whole hw
    rcases h with h | ⟨h, _⟩
    · rw [drop_hit (by rw [h3 k hk]; exact hx) (by omega), h]
    · rw [hw] at h; cases h
  | false =>
    obtain ⟨h1, h2⟩ := lines_open hw
    by_cases q : k + 1 = (linesL l).length
    · rw [drop_last (by rw [← h1]; exact hx) (by rw [← h1]; exact q), if_neg]
      exact h2 x (by rw [← q, ← h1]; exact hx)
    · rcases h with h | ⟨_, h⟩
      · rw [drop_hit (by rw [← h1]; exact hx) (by rw [← h1]; omega), h]
      · exact absurd h q
theorem line_good {l : List UInt8} {k : Nat} {x : List UInt8} {gs gs' : List Gt} {os os' : List Int} (hx : (linesL l)[k]? = some x) (h : readL gs os x = some (gs', os')) (hw : wholeB l = true ∨ k + 1 < (linesL l).length) : parseR gs os (k + 1) ((pieces 10 l).drop k) = parseR gs' os' (k + 1 + 1) ((pieces 10 l).drop (k + 1)) := by
  have hk := (List.getElem?_eq_some_iff.1 hx).1
  cases hw2 : wholeB l with
  | true =>
    obtain ⟨h1, _, h3⟩ := lines_whole hw2
    rw [drop_hit (by rw [h3 k hk]; exact hx) (by omega), h]
  | false =>
    obtain ⟨h1, h2⟩ := lines_open hw2
    rcases hw with hw | hw
    · rw [hw2] at hw; cases hw
    · rw [drop_hit (by rw [← h1]; exact hx) (by rw [← h1]; omega), h]
theorem lines_end {l : List UInt8} {gs : List Gt} {os : List Int} (hw : wholeB l = true) : parseR gs os ((linesL l).length + 1) ((pieces 10 l).drop (linesL l).length) = .inl (gs, os) := by
  obtain ⟨h1, h2, _⟩ := lines_whole hw
  rw [drop_last h2 (by omega), if_pos rfl]
end Go.Proofs.YtljpangeodgbkaaDoor
