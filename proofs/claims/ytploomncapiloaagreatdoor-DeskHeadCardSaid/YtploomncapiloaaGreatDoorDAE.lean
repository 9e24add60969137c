/- Parts of the proof, put together by a program: Circ TextP ReadQ DeskP. No condition. -/
import Derived.Test.YtploomncapiloaaGreatDoorDAD
import Derived.Lib.ItoaLen
import Derived.Lib.ItoaMem
import Derived.Lib.SplitLaws
namespace Croft
structure Gt where
  kind : Int
  a : Int
  b : Int
  n : Int
def aheadB (n i : Int) : Bool := decide (0 ≤ n) && decide (n < i)
def gRight (g : Gt) (i : Int) : Bool :=
  if g.kind = 1 then decide (1 ≤ g.a) && decide (g.a ≤ 9) && decide (g.b = 0) && decide (g.n = 0)
  else if g.kind = 2 then decide (g.a = 0) && decide (g.b = 0)
  else if g.kind = 3 ∨ g.kind = 4 ∨ g.kind = 5 then aheadB g.a i && aheadB g.b i && decide (g.n = 0)
  else if g.kind = 6 then aheadB g.a i && decide (g.b = 0)
  else false
def outsOk (gs : List Gt) (os : List Int) : Prop := ∀ o ∈ os, 0 ≤ o ∧ o < gs.length
def gatesB (gs : List Gt) : Nat → Bool
  | 0 => true
  | k + 1 => gatesB gs k && (match gs[k]? with | some g => gRight g k | none => true)
theorem gatesB_iff (gs : List Gt) : ∀ k, gatesB gs k = true ↔ ∀ (i : Nat) (g : Gt), i < k → gs[i]? = some g → gRight g i = true := by
  intro k
  induction k with
  | zero => simp [gatesB]
  | succ k ih =>
    rw [gatesB, Bool.and_eq_true, ih]
    constructor
    · rintro ⟨h1, h2⟩ i g hi hg
      by_cases h : i = k
      · subst h; rw [hg] at h2; exact h2
      · exact h1 i g (by omega) hg
    · intro h
      refine ⟨fun i g hi hg => h i g (by omega) hg, ?_⟩
      cases hg : gs[k]? with
      | none => rfl
      | some g => exact h k g (by omega) hg
def outsB (gs : List Gt) (os : List Int) : Bool := os.all fun o => decide (0 ≤ o) && decide (o < gs.length)
theorem outsB_iff {gs : List Gt} {os : List Int} : outsB gs os = true ↔ outsOk gs os := by simp [outsB, outsOk]
def circE (gs : List Gt) (os : List Int) : Int :=
  if gs.length = 0 ∨ os.length = 0 then 1
  else if 30 < gs.length ∨ 30 < os.length then 2
  else if gatesB gs gs.length = true then if outsB gs os = true then 0 else 1
  else 1
structure CircOk (gs : List Gt) (os : List Int) : Prop where
  g1 : 1 ≤ gs.length
  g2 : gs.length ≤ 30
  o1 : 1 ≤ os.length
  o2 : os.length ≤ 30
  right : ∀ (i : Nat) (g : Gt), gs[i]? = some g → gRight g i = true
  outs : ∀ o ∈ os, 0 ≤ o ∧ o < gs.length
theorem circE_zero {gs : List Gt} {os : List Int} : circE gs os = 0 ↔ CircOk gs os := by
  unfold circE
  constructor
  · intro h
    split at h
    · omega
    · split at h
      · omega
      · split at h
        · split at h
          · next h1 h2 h3 h4 => exact ⟨by omega, by omega, by omega, by omega, fun i g hg => (gatesB_iff gs _).1 h3 i g (List.getElem?_eq_some_iff.1 hg).1 hg, outsB_iff.1 h4⟩
          · omega
        · omega
  · rintro ⟨h1, h2, h3, h4, h5, h6⟩
    rw [if_neg (by omega), if_neg (by omega), if_pos ((gatesB_iff gs _).2 fun i g _ hg => h5 i g hg), if_pos (outsB_iff.2 h6)]
def whoseL (gs : List Gt) : List Int := (gs.filter fun g => g.kind = 1).map (·.a)
def cin (gs : List Gt) (k : Nat) : Nat := (whoseL (gs.take k)).length
theorem whoseL_snoc (gs : List Gt) (g : Gt) : whoseL (gs ++ [g]) = if g.kind = 1 then whoseL gs ++ [g.a] else whoseL gs := by
  unfold whoseL
  rw [List.filter_append]
  by_cases h : g.kind = 1 <;> simp [h]
theorem whoseL_take {gs : List Gt} {k : Nat} {g : Gt} (h : gs[k]? = some g) : whoseL (gs.take (k + 1)) = if g.kind = 1 then whoseL (gs.take k) ++ [g.a] else whoseL (gs.take k) := by
  rw [List.take_add_one, h]
  exact whoseL_snoc _ _
theorem cin_succ {gs : List Gt} {k : Nat} {g : Gt} (h : gs[k]? = some g) : cin gs (k + 1) = if g.kind = 1 then cin gs k + 1 else cin gs k := by
  unfold cin
  rw [whoseL_take h]
  split <;> simp
theorem cin_full (gs : List Gt) : cin gs gs.length = (whoseL gs).length := by unfold cin; rw [List.take_length]
theorem cin_le {gs : List Gt} : ∀ {k m : Nat}, k ≤ m → cin gs k ≤ cin gs m := by
  intro k m h
  induction h with
  | refl => exact Nat.le_refl _
  | step h ih =>
    rename_i m
    cases hg : gs[m]? with
    | none =>
      have hl : gs.length ≤ m := by simpa using hg
      have e1 : gs.take (m + 1) = gs.take m := by rw [List.take_of_length_le hl, List.take_of_length_le (by omega)]
      unfold cin at *
      rw [e1]; exact ih
    | some g => rw [cin_succ hg]; split <;> omega
theorem cin_lt {gs : List Gt} {k : Nat} {g : Gt} (h : gs[k]? = some g) (hk : g.kind = 1) : cin gs k < (whoseL gs).length := by
  rw [← cin_full]
  have h1 : cin gs (k + 1) ≤ cin gs gs.length := cin_le (by have := (List.getElem?_eq_some_iff.1 h).1; omega)
  rw [cin_succ h, if_pos hk] at h1
  omega
def cone (ws : List F) (x : F) (g : Gt) : F :=
  if g.kind = 1 then x
  else if g.kind = 2 then toF g.n
  else if g.kind = 3 then co ws g.a.toNat + co ws g.b.toNat
  else if g.kind = 4 then co ws g.a.toNat - co ws g.b.toNat
  else if g.kind = 5 then co ws g.a.toNat * co ws g.b.toNat
  else co ws g.a.toNat * toF g.n
def cw (gs : List Gt) (ins : List F) : Nat → List F
  | 0 => []
  | k + 1 => cw gs ins k ++ [match gs[k]? with | some g => cone (cw gs ins k) (co ins (cin gs k)) g | none => 0]
theorem cw_length (gs : List Gt) (ins : List F) (k : Nat) : (cw gs ins k).length = k := by
  induction k with
  | zero => rfl
  | succ k ih => simp [cw, ih]
theorem cw_succ {gs : List Gt} {ins : List F} {k : Nat} {g : Gt} (h : gs[k]? = some g) : cw gs ins (k + 1) = cw gs ins k ++ [cone (cw gs ins k) (co ins (cin gs k)) g] := by
  simp only [cw, h]
theorem co_append_lt {l m : List F} {i : Nat} (h : i < l.length) : co (l ++ m) i = co l i := by
  unfold co
  simp [List.getD, List.getElem?_append_left h]
theorem co_append_at {l : List F} {x : F} {i : Nat} (h : i = l.length) : co (l ++ [x]) i = x := by
  subst h
  simp [co, List.getD]
def couts (gs : List Gt) (os : List Int) (ins : List F) : List F := os.map fun o => co (cw gs ins gs.length) o.toNat
end Croft
namespace Croft
def wordL (k : Int) : List UInt8 :=
  if k = 1 then [105, 110, 112, 117, 116]
  else if k = 2 then [99, 111, 110, 115, 116]
  else if k = 3 then [97, 100, 100]
  else if k = 4 then [115, 117, 98]
  else if k = 5 then [109, 117, 108]
  else if k = 6 then [115, 99, 97, 108, 101]
  else []
def numL (z : Int) : List UInt8 := Go.Lib.decDigits z.toNat
def lineT (g : Gt) : List UInt8 :=
  wordL g.kind ++ (if g.kind = 1 then 32 :: numL g.a else if g.kind = 2 then 32 :: numL (ofF (toF g.n)) else if g.kind = 6 then 32 :: numL g.a ++ 32 :: numL (ofF (toF g.n)) else 32 :: numL g.a ++ 32 :: numL g.b)
def gateT (g : Gt) : List UInt8 := lineT g ++ [10]
def outT (o : Int) : List UInt8 := [111, 117, 116, 32] ++ numL o ++ [10]
def circT (gs : List Gt) (os : List Int) : List UInt8 := gs.flatMap gateT ++ os.flatMap outT
theorem numL_len (z : Int) (h : z < 18446744073709551616) : (numL z).length ≤ 20 := by
  unfold numL
  rw [Go.Lib.decDigits_length]
  exact Go.Lib.nDigits_le20 _ (by omega)
theorem wordL_len (k : Int) : (wordL k).length ≤ 5 := by
  unfold wordL
  repeat' split
  all_goals decide
theorem lineT_len (g : Gt) (ha : g.a < 18446744073709551616) (hb : g.b < 18446744073709551616) : (lineT g).length ≤ 47 := by
  have h1 := wordL_len g.kind
  have h2 := numL_len g.a ha
  have h3 := numL_len g.b hb
  have h4 := numL_len (ofF (toF g.n)) (by have := ofF_lt (toF g.n); omega)
  unfold lineT
  rw [List.length_append]
  split
  · simp only [List.length_cons]; omega
  · split
    · simp only [List.length_cons]; omega
    · split
      · simp only [List.length_cons, List.length_append]; omega
      · simp only [List.length_cons, List.length_append]; omega
theorem gatesT_next {gs : List Gt} {k : Nat} {g : Gt} (h : gs[k]? = some g) : (gs.take (k + 1)).flatMap gateT = (gs.take k).flatMap gateT ++ gateT g := by
  rw [List.take_add_one, h]; simp
theorem outsT_next {os : List Int} {k : Nat} {o : Int} (h : os[k]? = some o) : (os.take (k + 1)).flatMap outT = (os.take k).flatMap outT ++ outT o := by
  rw [List.take_add_one, h]; simp
end Croft
namespace Croft
def pieces (c : UInt8) : List UInt8 → List (List UInt8)
  | [] => [[]]
  | b :: l => if b = c then [] :: pieces c l else match pieces c l with | [] => [[b]] | p :: ps => (b :: p) :: ps
theorem pieces_ne (c : UInt8) (l : List UInt8) : pieces c l ≠ [] := by
  cases l with
  | nil => simp [pieces]
  | cons b l =>
    unfold pieces
    split
    · simp
    · split <;> simp
theorem pieces_miss {c : UInt8} : ∀ {l : List UInt8}, c ∉ l → pieces c l = [l]
  | [], _ => rfl
  | b :: l, h => by
    rw [pieces, if_neg (fun e => h (by simp [e])), pieces_miss (l := l) (fun e => h (by simp [e]))]
theorem pieces_hit {c : UInt8} : ∀ {x : List UInt8} (y : List UInt8), c ∉ x → pieces c (x ++ c :: y) = x :: pieces c y
  | [], y, _ => by simp [pieces]
  | b :: l, y, h => by
    rw [List.cons_append, pieces, if_neg (fun e => h (by simp [e])), pieces_hit y (fun e => h (by simp [e]))]
theorem pieces_snoc_hit (c : UInt8) : ∀ (l : List UInt8), pieces c (l ++ [c]) = pieces c l ++ [[]]
  | [] => by simp [pieces]
  | b :: l => by
    rw [List.cons_append, pieces, pieces, pieces_snoc_hit c l]
    split
    · simp
    · cases h : pieces c l with
      | nil => exact absurd h (pieces_ne c l)
      | cons p ps => simp
theorem pieces_snoc_miss {c b : UInt8} (hb : b ≠ c) : ∀ (l : List UInt8), pieces c (l ++ [b]) = (pieces c l).dropLast ++ [(pieces c l).getLast (pieces_ne c l) ++ [b]]
  | [] => by simp [pieces, hb]
  | a :: l => by
    have ih := pieces_snoc_miss hb l
    cases h : pieces c l with
    | nil => exact absurd h (pieces_ne c l)
    | cons p ps =>
      simp only [h] at ih
      by_cases hac : a = c
      · simp only [List.cons_append, pieces, if_pos hac, ih, h]
        simp
      · simp only [List.cons_append, pieces, if_neg hac, ih, h]
        cases ps with
        | nil => simp
        | cons q qs => simp
theorem pieces_length (c : UInt8) : ∀ (l : List UInt8), (pieces c l).length = l.count c + 1
  | [] => rfl
  | b :: l => by
    rw [pieces]
    split
    · next h => subst h; rw [List.length_cons, pieces_length, List.count_cons_self]
    · next h =>
      rw [List.count_cons_of_ne (by simpa using h), ← pieces_length c l]
      cases h2 : pieces c l with
      | nil => exact absurd h2 (pieces_ne c l)
      | cons p ps => simp
theorem pieces_le (c : UInt8) (l : List UInt8) : (pieces c l).length ≤ l.length + 1 := by
  rw [pieces_length]; have := List.count_le_length (a := c) (l := l); omega
theorem cut_at (c : UInt8) : ∀ (l : List UInt8), c ∉ l ∨ ∃ x y, l = x ++ c :: y ∧ c ∉ x
  | [] => .inl (by simp)
  | b :: l => by
    by_cases hb : b = c
    · exact .inr ⟨[], l, by simp [hb], by simp⟩
    · rcases cut_at c l with h | ⟨x, y, h1, h2⟩
      · exact .inl (by simp [h, Ne.symm hb])
      · exact .inr ⟨b :: x, y, by simp [h1], by simp [h2, Ne.symm hb]⟩
theorem index_miss {c : UInt8} : ∀ {l : List UInt8}, c ∉ l → Go.Lib.index l [c] = -1
  | [], _ => by simp [Go.Lib.index]
  | b :: l, h => by
    have hp : ([c] : List UInt8).isPrefixOf (b :: l) = false := by
      have : c ≠ b := fun e => h (by simp [e])
      simp [List.isPrefixOf, this]
    rw [Go.Lib.index, hp, index_miss (l := l) (fun e => h (by simp [e]))]
    simp
theorem index_hit {c : UInt8} : ∀ {x : List UInt8} (y : List UInt8), c ∉ x → Go.Lib.index (x ++ c :: y) [c] = (x.length : Int)
  | [], y, _ => by rw [List.nil_append, Go.Lib.index]; simp [List.isPrefixOf]
  | b :: l, y, h => by
    have hp : ([c] : List UInt8).isPrefixOf (b :: (l ++ c :: y)) = false := by
      have : c ≠ b := fun e => h (by simp [e])
      simp [List.isPrefixOf, this]
    rw [List.cons_append, Go.Lib.index, hp, index_hit y (fun e => h (by simp [e]))]
    have : ((l.length : Int) == -1) = false := by rw [beq_eq_false_iff_ne]; omega
    simp [this]
theorem cut_miss {c : UInt8} {l : List UInt8} (h : c ∉ l) : Go.Lib.cut l [c] = (l, [], false) := by
  unfold Go.Lib.cut; rw [index_miss h, if_neg (by omega)]
theorem cut_hit {c : UInt8} {x : List UInt8} (y : List UInt8) (h : c ∉ x) : Go.Lib.cut (x ++ c :: y) [c] = (x, y, true) := by
  unfold Go.Lib.cut; rw [index_hit y h, if_pos (by omega)]
  simp
theorem splitK_pieces (c : UInt8) : ∀ (k : Nat) (l : List UInt8), l.count c = k → Go.Lib.splitK [c] 0 k l = pieces c l
  | 0, l, h => by
    rw [Go.Lib.splitK, pieces_miss (List.count_eq_zero.1 h)]
  | k + 1, l, h => by
    rcases cut_at c l with hm | ⟨x, y, rfl, hx⟩
    · rw [List.count_eq_zero.2 hm] at h; omega
    · rw [Go.Lib.splitK, index_hit y hx, if_neg (by rw [beq_iff_eq]; omega), pieces_hit y hx]
      have hc : y.count c = k := by
        rw [List.count_append, List.count_eq_zero.2 hx, List.count_cons_self] at h; omega
      rw [← splitK_pieces c k y hc]
      simp
theorem splitB_pieces (c : UInt8) (s : ByteArray) : (Go.Lib.splitB ⟨#[c]⟩ 0 (Go.Lib.countB s ⟨#[c]⟩) s).map (·.data.toList) = pieces c s.data.toList := by
  rw [Go.Lib.splitB_data]
  exact splitK_pieces c _ _ (Go.Lib.count_one c _).symm
def digB (b : UInt8) : Bool := decide (48 ≤ b.toNat) && decide (b.toNat ≤ 57)
def numStep (n : Int) (b : UInt8) : Int := 10 * n + ((b.toNat : Int) - 48)
def numF (l : List UInt8) : Int := l.foldl numStep 0
def numR (l : List UInt8) : Int :=
  if l.length < 1 ∨ 10 < l.length ∨ (1 < l.length ∧ l[0]? = some 48) then -1
  else if l.all digB then numF l else -1
theorem numF_snoc (l : List UInt8) (b : UInt8) : numF (l ++ [b]) = 10 * numF l + ((b.toNat : Int) - 48) := by simp [numF, numStep]
theorem numF_range : ∀ (k : Nat) (l : List UInt8), l.length = k → l.all digB = true → 0 ≤ numF l ∧ numF l < 10 ^ k := by
  intro k
  induction k with
  | zero => intro l hl _; rw [List.length_eq_zero_iff.1 hl]; simp [numF]
  | succ k ih =>
    intro l hl ha
    obtain ⟨l', b, rfl⟩ : ∃ l' b, l = l' ++ [b] := by
      rcases List.eq_nil_or_concat l with h | ⟨l', b, h⟩
      · subst h; simp at hl
      · exact ⟨l', b, by simpa using h⟩
    rw [List.all_append, Bool.and_eq_true] at ha
    have hb : digB b = true := by simpa using ha.2
    have := ih l' (by simpa using hl) ha.1
    rw [numF_snoc]
    simp only [digB, Bool.and_eq_true, decide_eq_true_eq] at hb
    rw [Int.pow_succ]
    omega
theorem numR_range (l : List UInt8) : -1 ≤ numR l ∧ numR l < 10000000000 := by
  unfold numR
  split
  · omega
  · split
    · next h1 h2 =>
      have h3 := numF_range l.length l rfl h2
      have h4 : l.length ≤ 10 := by omega
      have h5 : (10 : Int) ^ l.length ≤ 10 ^ 10 := by
        have : (10 : Nat) ^ l.length ≤ 10 ^ 10 := Nat.pow_le_pow_right (by omega) h4
        exact_mod_cast this
      have : (10 : Int) ^ 10 = 10000000000 := by decide
      omega
    · omega
theorem nDigits_le : ∀ (k u : Nat), u < 10 ^ (k + 1) → Go.Lib.nDigits u ≤ k + 1
  | 0, u, h => by rw [Go.Lib.nDigits_small (by simpa using h)]; omega
  | k + 1, u, h => by
    by_cases h2 : u < 10
    · rw [Go.Lib.nDigits_small h2]; omega
    · rw [Go.Lib.nDigits_big h2]
      have := nDigits_le k (u / 10) (by rw [Nat.pow_succ] at h; omega)
      omega
theorem nDigits_le10 (u : Nat) (h : u < 10000000000) : Go.Lib.nDigits u ≤ 10 := nDigits_le 9 u (by simpa using h)
end Croft
namespace Croft
theorem pieces_mem_len (c : UInt8) : ∀ (l : List UInt8), ∀ x ∈ pieces c l, x.length ≤ l.length
  | [], x, h => by simp [pieces] at h; subst h; simp
  | b :: l, x, h => by
    have ih := pieces_mem_len c l
    rw [pieces] at h
    split at h
    · rcases List.mem_cons.1 h with rfl | h
      · simp
      · have := ih x h; simp; omega
    · cases hp : pieces c l with
      | nil => exact absurd hp (pieces_ne c l)
      | cons p ps =>
        rw [hp] at h ih
        rcases List.mem_cons.1 h with rfl | h
        · have := ih p (by simp); simp; omega
        · have := ih x (by simp [h]); simp; omega
theorem pieces_take_hit {c b : UInt8} {l : List UInt8} {k : Nat} (h : l[k]? = some b) (hb : b = c) : pieces c (l.take (k + 1)) = pieces c (l.take k) ++ [[]] := by
  subst hb
  rw [List.take_add_one, h]; exact pieces_snoc_hit b _
theorem set_last {α : Type} {P : List (List α)} {n : Nat} {x : List α} (b : α) (hn : P.length = n + 1) (hx : P[n]? = some x) (hne : P ≠ []) : P.dropLast ++ [P.getLast hne ++ [b]] = P.set n (x ++ [b]) := by
  have hl : P.getLast hne = x := by
    rw [List.getLast_eq_getElem]
    rw [List.getElem?_eq_getElem (by omega)] at hx
    have h2 := Option.some.inj hx
    rw [← h2]; congr 1; omega
  rw [hl]
  apply List.ext_getElem?
  intro i
  rw [List.getElem?_set]
  by_cases hi : n = i
  · subst hi
    rw [if_pos rfl, if_pos (by omega), List.getElem?_append_right (by simp; omega)]
    simp [hn]
  · rw [if_neg hi]
    by_cases hlt : i < n
    · rw [List.getElem?_append_left (by simp; omega), List.getElem?_dropLast, if_pos (by omega)]
    · rw [List.getElem?_eq_none (by simp; omega), List.getElem?_eq_none (by omega)]
theorem pieces_take_miss {c b : UInt8} {l : List UInt8} {k : Nat} (h : l[k]? = some b) (hb : b ≠ c) {n : Nat} {x : List UInt8} (hn : (pieces c (l.take k)).length = n + 1) (hx : (pieces c (l.take k))[n]? = some x) : pieces c (l.take (k + 1)) = (pieces c (l.take k)).set n (x ++ [b]) := by
  rw [List.take_add_one, h]
  exact (pieces_snoc_miss hb _).trans (set_last b hn hx (pieces_ne _ _))
end Croft
namespace Croft
def outW : List UInt8 := [111, 117, 116]
def wordK (w : List UInt8) : Int :=
  if w = wordL 1 then 1 else if w = wordL 2 then 2 else if w = wordL 3 then 3 else if w = wordL 4 then 4 else if w = wordL 5 then 5 else if w = wordL 6 then 6 else 7
def numsOk (ws : List (List UInt8)) : Bool := ws.all fun x => decide (0 ≤ numR x)
def gateR (k : Int) (n : List Int) : Gt :=
  if k = 1 then ⟨1, n.getD 0 0, 0, 0⟩ else if k = 2 then ⟨2, 0, 0, n.getD 0 0⟩ else if k = 6 then ⟨6, n.getD 0 0, 0, n.getD 1 0⟩ else ⟨k, n.getD 0 0, n.getD 1 0, 0⟩
def readR (gs : List Gt) (os : List Int) (w : List UInt8) (ws : List (List UInt8)) : Option (List Gt × List Int) :=
  if numsOk ws then
    if w = outW then (if ws.length = 1 then some (gs, os ++ [(ws.map numR).getD 0 0]) else none)
    else if wordK w ≤ 6 ∧ os.length = 0 ∧ (ws.length : Int) = (if wordK w ≤ 2 then 1 else 2) then some (gs ++ [gateR (wordK w) (ws.map numR)], os) else none
  else none
def readL (gs : List Gt) (os : List Int) (l : List UInt8) : Option (List Gt × List Int) := readR gs os ((pieces 32 l).headD []) (pieces 32 l).tail
def parseR : List Gt → List Int → Nat → List (List UInt8) → (List Gt × List Int) ⊕ Nat
  | gs, os, _, [] => .inl (gs, os)
  | gs, os, at_, [x] => if x = [] then .inl (gs, os) else .inr at_
  | gs, os, at_, x :: y :: l => match readL gs os x with
    | none => .inr at_
    | some (gs', os') => parseR gs' os' (at_ + 1) (y :: l)
structure Parsed where
  gs : List Gt
  os : List Int
  at_ : Int
  e : Int
def parsedOf : (List Gt × List Int) ⊕ Nat → Parsed
  | .inr k => ⟨[], [], k, 3⟩
  | .inl (gs, os) => if circE gs os = 0 then ⟨gs, os, 0, 0⟩ else ⟨[], [], 0, circE gs os⟩
def parseT (s : List UInt8) : Parsed := if 2048 < s.length then ⟨[], [], 0, 2⟩ else parsedOf (parseR [] [] 1 (pieces 10 s))
theorem numL_len10 (z : Int) (h1 : z < 10000000000) : (numL z).length ≤ 10 := by
  unfold numL; rw [Go.Lib.decDigits_length]; exact nDigits_le10 _ (by omega)
theorem numL_len2 (z : Int) (h1 : z < 100) : (numL z).length ≤ 2 := by
  unfold numL; rw [Go.Lib.decDigits_length]; exact nDigits_le 1 _ (by omega)
theorem wordK_wordL {k : Int} (h1 : 1 ≤ k) (h6 : k ≤ 6) : wordK (wordL k) = k := by
  obtain rfl | rfl | rfl | rfl | rfl | rfl : k = 1 ∨ k = 2 ∨ k = 3 ∨ k = 4 ∨ k = 5 ∨ k = 6 := by omega
  all_goals decide
theorem gRight_kind {g : Gt} {i : Int} (h : gRight g i = true) : 1 ≤ g.kind ∧ g.kind ≤ 6 := by
  by_cases q : g.kind = 1 ∨ g.kind = 2 ∨ g.kind = 3 ∨ g.kind = 4 ∨ g.kind = 5 ∨ g.kind = 6
  · omega
  · simp only [not_or] at q
    simp [gRight, q] at h
theorem lineT_len20 (g : Gt) (i : Int) (hi : i ≤ 30) (h : gRight g i = true) : (lineT g).length ≤ 19 := by
  have hw := wordL_len g.kind
  have hn := numL_len10 (ofF (toF g.n)) (by have := ofF_lt (toF g.n); omega)
  have hk := gRight_kind h
  unfold lineT
  unfold gRight at h
  rw [List.length_append]
  split
  · next q => rw [if_pos q] at h; simp at h; have := numL_len2 g.a (by omega); simp only [List.length_cons]; omega
  · next q =>
    rw [if_neg q] at h
    split
    · simp only [List.length_cons]; omega
    · next q2 =>
      rw [if_neg q2] at h
      split
      · next q3 =>
        rw [if_neg (by omega), if_pos q3] at h
        simp [aheadB] at h
        have := numL_len2 g.a (by omega)
        simp only [List.length_cons, List.length_append]; omega
      · next q3 =>
        rw [if_pos (by omega)] at h
        simp [aheadB] at h
        have := numL_len2 g.a (by omega)
        have := numL_len2 g.b (by omega)
        simp only [List.length_cons, List.length_append]; omega
theorem flatMap_len {α : Type} (f : α → List UInt8) (k : Nat) : ∀ (l : List α), (∀ x ∈ l, (f x).length ≤ k) → (l.flatMap f).length ≤ k * l.length
  | [], _ => by simp
  | x :: l, h => by
    have h1 := h x (by simp)
    have h2 := flatMap_len f k l (fun y hy => h y (by simp [hy]))
    rw [List.flatMap_cons, List.length_append, List.length_cons, Nat.mul_add]; omega
theorem CircOk.gate {gs : List Gt} {os : List Int} (h : CircOk gs os) {g : Gt} (hg : g ∈ gs) : ∃ i : Int, i ≤ 30 ∧ gRight g i = true := by
  obtain ⟨i, hi, rfl⟩ := List.getElem_of_mem hg
  exact ⟨i, by have := h.g2; omega, h.right i _ (List.getElem?_eq_getElem hi)⟩
theorem circT_len {gs : List Gt} {os : List Int} (h : CircOk gs os) : (circT gs os).length ≤ 900 := by
  have h1 := flatMap_len gateT 20 gs (fun g hg => by
    obtain ⟨i, hi, hr⟩ := h.gate hg
    have := lineT_len20 g i hi hr
    rw [gateT, List.length_append, List.length_singleton]; omega)
  have h2 := flatMap_len outT 10 os (fun o ho => by
    have := numL_len2 o (by have := h.outs o ho; have := h.g2; omega)
    simp only [outT, List.length_append, List.length_cons, List.length_nil]; omega)
  have h3 := h.g2
  have h4 := h.o2
  rw [circT, List.length_append]; omega
theorem parseT_ok {s : List UInt8} (h : (parseT s).e = 0) : CircOk (parseT s).gs (parseT s).os := by
  unfold parseT at h ⊢
  split
  · next q => rw [if_pos q] at h; simp at h
  · next q =>
    rw [if_neg q] at h
    cases hp : parseR [] [] 1 (pieces 10 s) with
    | inr k => rw [hp] at h; simp [parsedOf] at h
    | inl p =>
      obtain ⟨gs', os'⟩ := p
      rw [hp] at h
      simp only [parsedOf] at h ⊢
      by_cases q : circE gs' os' = 0
      · rw [if_pos q]; exact circE_zero.1 q
      · rw [if_neg q] at h; exact absurd h q
end Croft
namespace Croft
def joinT : List (List UInt8) → List UInt8
  | [] => []
  | [x] => x
  | x :: y :: l => x ++ 32 :: joinT (y :: l)
theorem joinT_cons (x : List UInt8) (l : List (List UInt8)) (h : l ≠ []) : joinT (x :: l) = x ++ 32 :: joinT l := by
  cases l with
  | nil => exact absurd rfl h
  | cons y l => rfl
def errT (e : Int) : List UInt8 := [101, 114, 114, 111, 114, 32] ++ numL e
def okT : List UInt8 := [111, 107]
def doneT (e : Int) : List UInt8 := if e = 0 then okT else errT e
def toldT (l : List Int) (e : Int) : List UInt8 := if e = 0 then joinT (l.map numL) else errT e
def wordsL (l : List UInt8) : List (List UInt8) := (pieces 32 l).filter fun x => decide (x ≠ [])
theorem wordsL_ne {l x : List UInt8} (h : x ∈ wordsL l) : x ≠ [] := by simpa [wordsL] using (List.mem_filter.1 h).2
def heardB (ws : List (List UInt8)) : Bool := match ws with | [] => false | w :: _ => decide (w.head? ≠ some 35)
def textL (s : List UInt8) : List (List UInt8) := if (pieces 10 s).getLast (pieces_ne 10 s) = [] then (pieces 10 s).dropLast else pieces 10 s
section
variable {σ : Type} (step : σ → List UInt8 → List (List UInt8) → List UInt8 × σ)
def doLines : σ → List (List UInt8) → List UInt8 × σ
  | s, [] => ([], s)
  | s, l :: ls => match wordsL l with
    | [] => doLines s ls
    | v :: ws => if heardB (v :: ws) then
        let r := step s v ws
        let q := doLines r.2 ls
        (r.1 ++ [10] ++ q.1, q.2)
      else doLines s ls
theorem doLines_append (s : σ) (a b : List (List UInt8)) : doLines step s (a ++ b) = ((doLines step s a).1 ++ (doLines step (doLines step s a).2 b).1, (doLines step (doLines step s a).2 b).2) := by
  induction a generalizing s with
  | nil => simp [doLines]
  | cons l ls ih =>
    rw [List.cons_append, doLines, doLines]
    split
    · exact ih s
    · split
      · simp only [ih]
        simp
      · exact ih s
def runT (s0 : σ) (s : List UInt8) : List UInt8 := if 65536 < s.length ∨ 200 < (textL s).length then [101, 114, 114, 111, 114, 32, 50, 10] else (doLines step s0 (textL s)).1
end
def heardN (ls : List (List UInt8)) : Nat := (ls.filter fun l => heardB (wordsL l)).length
theorem doLines_count {σ : Type} (step : σ → List UInt8 → List (List UInt8) → List UInt8 × σ) (s : σ) (ls : List (List UInt8)) : heardN ls ≤ (doLines step s ls).1.count 10 := by
  induction ls generalizing s with
  | nil => simp [heardN]
  | cons l ls ih =>
    rw [doLines]
    unfold heardN at ih ⊢
    split
    · next h => rw [List.filter_cons, h]; exact ih s
    · next v ws h =>
      split
      · next q =>
        rw [List.filter_cons, h, if_pos q, List.length_cons]
        have := ih (step s v ws).2
        simp only [List.count_append, List.count_singleton_self]
        omega
      · next q => rw [List.filter_cons, h, if_neg q]; exact ih s
theorem doLines_last {σ : Type} (step : σ → List UInt8 → List (List UInt8) → List UInt8 × σ) (s : σ) (ls : List (List UInt8)) : (doLines step s ls).1 = [] ∨ (doLines step s ls).1.getLast? = some 10 := by
  induction ls generalizing s with
  | nil => exact .inl rfl
  | cons l ls ih =>
    rw [doLines]
    split
    · exact ih s
    · next v ws h =>
      split
      · refine .inr ?_
        rcases ih (step s v ws).2 with q | q
        · simp only [q, List.append_nil]; simp
        · simp only [List.getLast?_append, q]; rfl
      · exact ih s
theorem pieces_join (a b : List UInt8) : pieces 10 (a ++ 10 :: b) = pieces 10 a ++ pieces 10 b := by
  induction a with
  | nil => simp [pieces]
  | cons x a ih =>
    rw [List.cons_append, pieces, pieces, ih]
    split
    · rfl
    · cases h : pieces 10 a with
      | nil => exact absurd h (pieces_ne 10 a)
      | cons p ps => rfl
theorem textL_join (a b : List UInt8) : textL (a ++ 10 :: b) = pieces 10 a ++ textL b := by
  have hj := pieces_join a b
  have hne := pieces_ne 10 b
  have hl : (pieces 10 (a ++ 10 :: b)).getLast (pieces_ne _ _) = (pieces 10 b).getLast hne := by
    simp only [hj]
    rw [List.getLast_append_of_ne_nil _ hne]
  unfold textL
  rw [hl]
  by_cases q : (pieces 10 b).getLast hne = []
  · rw [if_pos q, if_pos q, hj, List.dropLast_append_of_ne_nil hne]
  · rw [if_neg q, if_neg q, hj]
theorem wordsL_nil : wordsL [] = [] := by simp [wordsL, pieces]
theorem doLines_pieces {σ : Type} (step : σ → List UInt8 → List (List UInt8) → List UInt8 × σ) (s : σ) (a : List UInt8) : doLines step s (pieces 10 a) = doLines step s (textL a) := by
  unfold textL
  by_cases q : (pieces 10 a).getLast (pieces_ne 10 a) = []
  · rw [if_pos q]
    have h := List.dropLast_concat_getLast (pieces_ne 10 a)
    rw [q] at h
    rw [← h, doLines_append]
    simp [doLines, wordsL_nil]
  · rw [if_neg q]
theorem runT_head {σ : Type} (step : σ → List UInt8 → List (List UInt8) → List UInt8 × σ) (s0 : σ) (a b : List UInt8) (h1 : (a ++ 10 :: b).length ≤ 65536) (h2 : (textL (a ++ 10 :: b)).length ≤ 200) : ∃ r, runT step s0 (a ++ 10 :: b) = runT step s0 a ++ r := by
  have hj := textL_join a b
  have hp : (textL a).length ≤ (pieces 10 a).length := by
    unfold textL
    split
    · rw [List.length_dropLast]; omega
    · omega
  rw [hj, List.length_append] at h2
  rw [List.length_append, List.length_cons] at h1
  unfold runT
  rw [if_neg (by rw [hj, List.length_append, List.length_append, List.length_cons]; omega), if_neg (by omega), hj, doLines_append, doLines_pieces]
  exact ⟨_, rfl⟩
def moreA (tx : List UInt8) (ws : List (List UInt8)) : List UInt8 × List UInt8 :=
  if ws = [] then (errT 3, tx) else if 2048 < tx.length + ((joinT ws).length + 1) then (errT 2, tx) else (okT, tx ++ (joinT ws ++ [10]))
end Croft
