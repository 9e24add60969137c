/- Circuits: what they tell: plain mathematics, no program. -/
import Derived.Test.YtljpangeodgbkaaDoorPlainB
namespace Croft
structure Gt where
  kind : Int
  a : Int
  b : Int
  n : Int
def aheadB (n i : Int) : Bool := decide (0 ≤ n) && decide (n < i)
/-- is a gate, numbered i? -/
def gRight (g : Gt) (i : Int) : Bool :=
  if g.kind = 1 then decide (1 ≤ g.a) && decide (g.a ≤ 9) && decide (g.b = 0) && decide (g.n = 0)
  else if g.kind = 2 then decide (g.a = 0) && decide (g.b = 0)
  else if g.kind = 3 ∨ g.kind = 4 ∨ g.kind = 5 then aheadB g.a i && aheadB g.b i && decide (g.n = 0)
  else if g.kind = 6 then aheadB g.a i && decide (g.b = 0)
  else false
def gatesOk (gs : List Gt) : Prop := ∀ (i : Nat) (g : Gt), gs[i]? = some g → gRight g i = true
def outsOk (gs : List Gt) (os : List Int) : Prop := ∀ o ∈ os, 0 ≤ o ∧ o < gs.length
def gatesB (gs : List Gt) : Nat → Bool
  | 0 => true
  | k + 1 => gatesB gs k && (match gs[k]? with | some g => gRight g k | none => true)
theorem gatesB_iff (gs : List Gt) : ∀ k, gatesB gs k = true ↔ ∀ (i : Nat) (g : Gt), i < k → gs[i]? = some g → gRight g i = true := by
  intro k
  induction k with
  | zero => simp [gatesB]
  | succ k ih =>
    rw [gatesB, Bool.and_eq_true, ih]
    constructor
    · rintro ⟨h1, h2⟩ i g hi hg
      by_cases h : i = k
      · subst h; rw [hg] at h2; exact h2
      · exact h1 i g (by omega) hg
    · intro h
      refine ⟨fun i g hi hg => h i g (by omega) hg, ?_⟩
      cases hg : gs[k]? with
      | none => rfl
      | some g => exact h k g (by omega) hg
def outsB (gs : List Gt) (os : List Int) : Bool := os.all fun o => decide (0 ≤ o) && decide (o < gs.length)
theorem outsB_iff {gs : List Gt} {os : List Int} : outsB gs os = true ↔ outsOk gs os := by simp [outsB, outsOk]
/-- the error of a circuit -/
def circE (gs : List Gt) (os : List Int) : Int :=
  if gs.length = 0 ∨ os.length = 0 then 1
  else if 30 < gs.length ∨ 30 < os.length then 2
  else if gatesB gs gs.length = true then if outsB gs os = true then 0 else 1
  else 1
structure CircOk (gs : List Gt) (os : List Int) : Prop where
  g1 : 1 ≤ gs.length
  g2 : gs.length ≤ 30
  o1 : 1 ≤ os.length
  o2 : os.length ≤ 30
  right : ∀ (i : Nat) (g : Gt), gs[i]? = some g → gRight g i = true
  outs : ∀ o ∈ os, 0 ≤ o ∧ o < gs.length
theorem circE_zero {gs : List Gt} {os : List Int} : circE gs os = 0 ↔ CircOk gs os := by
  unfold circE
  constructor
  · intro h
    split at h
    · omega
    · split at h
      · omega
      · split at h
        · split at h
          · next h1 h2 h3 h4 => exact ⟨by omega, by omega, by omega, by omega, fun i g hg => (gatesB_iff gs _).1 h3 i g (List.getElem?_eq_some_iff.1 hg).1 hg, outsB_iff.1 h4⟩
          · omega
        · omega
  · rintro ⟨h1, h2, h3, h4, h5, h6⟩
    rw [if_neg (by omega), if_neg (by omega), if_pos ((gatesB_iff gs _).2 fun i g _ hg => h5 i g hg), if_pos (outsB_iff.2 h6)]
/-- whose the inputs are -/
def whoseL (gs : List Gt) : List Int := (gs.filter fun g => g.kind = 1).map (·.a)
def cin (gs : List Gt) (k : Nat) : Nat := (whoseL (gs.take k)).length
theorem whoseL_snoc (gs : List Gt) (g : Gt) : whoseL (gs ++ [g]) = if g.kind = 1 then whoseL gs ++ [g.a] else whoseL gs := by
  unfold whoseL
  rw [List.filter_append]
  by_cases h : g.kind = 1 <;> simp [h]
theorem whoseL_take {gs : List Gt} {k : Nat} {g : Gt} (h : gs[k]? = some g) : whoseL (gs.take (k + 1)) = if g.kind = 1 then whoseL (gs.take k) ++ [g.a] else whoseL (gs.take k) := by
  rw [List.take_add_one, h]
  exact whoseL_snoc _ _
theorem cin_succ {gs : List Gt} {k : Nat} {g : Gt} (h : gs[k]? = some g) : cin gs (k + 1) = if g.kind = 1 then cin gs k + 1 else cin gs k := by
  unfold cin
  rw [whoseL_take h]
  split <;> simp
theorem cin_full (gs : List Gt) : cin gs gs.length = (whoseL gs).length := by unfold cin; rw [List.take_length]
theorem cin_le {gs : List Gt} : ∀ {k m : Nat}, k ≤ m → cin gs k ≤ cin gs m := by
  intro k m h
  induction h with
  | refl => exact Nat.le_refl _
  | step h ih =>
    rename_i m
    cases hg : gs[m]? with
    | none =>
      have hl : gs.length ≤ m := by simpa using hg
      have e1 : gs.take (m + 1) = gs.take m := by rw [List.take_of_length_le hl, List.take_of_length_le (by omega)]
      unfold cin at *
      rw [e1]; exact ih
    | some g => rw [cin_succ hg]; split <;> omega
theorem cin_lt {gs : List Gt} {k : Nat} {g : Gt} (h : gs[k]? = some g) (hk : g.kind = 1) : cin gs k < (whoseL gs).length := by
  rw [← cin_full]
  have h1 : cin gs (k + 1) ≤ cin gs gs.length := cin_le (by have := (List.getElem?_eq_some_iff.1 h).1; omega)
  rw [cin_succ h, if_pos hk] at h1
  omega
/-- what a gate tells, by the wires ahead and the next input -/
def cone (ws : List F) (x : F) (g : Gt) : F :=
  if g.kind = 1 then x
  else if g.kind = 2 then toF g.n
  else if g.kind = 3 then co ws g.a.toNat + co ws g.b.toNat
  else if g.kind = 4 then co ws g.a.toNat - co ws g.b.toNat
  else if g.kind = 5 then co ws g.a.toNat * co ws g.b.toNat
  else co ws g.a.toNat * toF g.n
/-- the wires, so many of them -/
def cw (gs : List Gt) (ins : List F) : Nat → List F
  | 0 => []
  | k + 1 => cw gs ins k ++ [match gs[k]? with | some g => cone (cw gs ins k) (co ins (cin gs k)) g | none => 0]
theorem cw_length (gs : List Gt) (ins : List F) (k : Nat) : (cw gs ins k).length = k := by
  induction k with
  | zero => rfl
  | succ k ih => simp [cw, ih]
theorem cw_succ {gs : List Gt} {ins : List F} {k : Nat} {g : Gt} (h : gs[k]? = some g) : cw gs ins (k + 1) = cw gs ins k ++ [cone (cw gs ins k) (co ins (cin gs k)) g] := by
  simp only [cw, h]
theorem co_append_lt {l m : List F} {i : Nat} (h : i < l.length) : co (l ++ m) i = co l i := by
  unfold co
  simp [List.getD, List.getElem?_append_left h]
theorem co_append_at {l : List F} {x : F} {i : Nat} (h : i = l.length) : co (l ++ [x]) i = x := by
  subst h
  simp [co, List.getD]
theorem cw_co {gs : List Gt} {ins : List F} {k m i : Nat} (hk : i < k) (hm : k ≤ m) : co (cw gs ins m) i = co (cw gs ins k) i := by
  induction hm with
  | refl => rfl
  | @step m hkm ih => rw [cw, co_append_lt (by rw [cw_length]; have : k ≤ m := hkm; omega)]; exact ih
/-- what is told -/
def couts (gs : List Gt) (os : List Int) (ins : List F) : List F := os.map fun o => co (cw gs ins gs.length) o.toNat
/-- no products: sums of inputs tell sums -/
theorem co_map2 {a b : List F} {i : Nat} (hl : a.length = b.length) : co (List.zipWith (· + ·) a b) i = co a i + co b i := by
  by_cases h : i < a.length
  · have h2 : i < b.length := by omega
    rw [co_get (a := co a i + co b i)]
    rw [List.getElem?_zipWith, get_co h, get_co h2]
  · rw [co_of_le (by simp; omega), co_of_le (by omega), co_of_le (by omega), F_az]
theorem sums_tell (gs : List Gt) (x y s o : List F) (hs : ∀ i, co s i = co x i + co y i) (ho : ∀ i, co o i = 0) (hm : ∀ g ∈ gs, g.kind ≠ 5) :
    ∀ k, k ≤ gs.length → ∀ i, co (cw gs s k) i + co (cw gs o k) i = co (cw gs x k) i + co (cw gs y k) i := by
  intro k
  induction k with
  | zero => intro _ i; rfl
  | succ k ih =>
    intro hk i
    have hg : gs[k]? = some gs[k] := List.getElem?_eq_getElem (by omega)
    have ih := ih (by omega)
    have h5 := hm _ (List.mem_of_getElem? hg)
    simp only [cw_succ hg]
    rcases Nat.lt_trichotomy i k with h | h | h
    · have e : ∀ (q : List F) (u : F), co (cw gs q k ++ [u]) i = co (cw gs q k) i := fun q u => co_append_lt (by rw [cw_length]; exact h)
      rw [e, e, e, e]
      exact ih i
    · have e : ∀ (q : List F) (u : F), co (cw gs q k ++ [u]) i = u := fun q u => co_append_at (by rw [cw_length]; exact h)
      rw [e, e, e, e]
      generalize gs[k] = g at *
      have ia := ih g.a.toNat
      have ib := ih g.b.toNat
      have hsx := hs (cin gs k)
      have hox := ho (cin gs k)
      unfold cone
      split
      · grind
      · split
        · grind
        · split
          · grind
          · split
            · grind
            · first | exact absurd ‹g.kind = 5› h5 | grind
    · have e : ∀ (q : List F) (u : F), co (cw gs q k ++ [u]) i = 0 := fun q u => co_of_le (by rw [List.length_append, cw_length]; simp; omega)
      rw [e, e, e, e]
end Croft
