/- A text's pieces, and its numbers, plainly. -/
import Derived.Lib.SplitLaws
import Derived.Lib.ItoaLen
import Derived.Test.YtljpangeodgbkaaDoorTextP
namespace Croft
/-! ### pieces of a text between bytes of one sort -/
def pieces (c : UInt8) : List UInt8 → List (List UInt8)
  | [] => [[]]
  | b :: l => if b = c then [] :: pieces c l else match pieces c l with | [] => [[b]] | p :: ps => (b :: p) :: ps
theorem pieces_ne (c : UInt8) (l : List UInt8) : pieces c l ≠ [] := by
  cases l with
  | nil => simp [pieces]
  | cons b l =>
    unfold pieces
    split
    · simp
    · split <;> simp
theorem pieces_miss {c : UInt8} : ∀ {l : List UInt8}, c ∉ l → pieces c l = [l]
  | [], _ => rfl
  | b :: l, h => by
    rw [pieces, if_neg (fun e => h (by simp [e])), pieces_miss (l := l) (fun e => h (by simp [e]))]
theorem pieces_hit {c : UInt8} : ∀ {x : List UInt8} (y : List UInt8), c ∉ x → pieces c (x ++ c :: y) = x :: pieces c y
  | [], y, _ => by simp [pieces]
  | b :: l, y, h => by
    rw [List.cons_append, pieces, if_neg (fun e => h (by simp [e])), pieces_hit y (fun e => h (by simp [e]))]
theorem pieces_snoc_hit (c : UInt8) : ∀ (l : List UInt8), pieces c (l ++ [c]) = pieces c l ++ [[]]
  | [] => by simp [pieces]
  | b :: l => by
    rw [List.cons_append, pieces, pieces, pieces_snoc_hit c l]
    split
    · simp
    · cases h : pieces c l with
      | nil => exact absurd h (pieces_ne c l)
      | cons p ps => simp
theorem pieces_snoc_miss {c b : UInt8} (hb : b ≠ c) : ∀ (l : List UInt8), pieces c (l ++ [b]) = (pieces c l).dropLast ++ [(pieces c l).getLast (pieces_ne c l) ++ [b]]
  | [] => by simp [pieces, hb]
  | a :: l => by
    have ih := pieces_snoc_miss hb l
    cases h : pieces c l with
    | nil => exact absurd h (pieces_ne c l)
    | cons p ps =>
      simp only [h] at ih
      by_cases hac : a = c
      · simp only [List.cons_append, pieces, if_pos hac, ih, h]
        simp
      · simp only [List.cons_append, pieces, if_neg hac, ih, h]
        cases ps with
        | nil => simp
        | cons q qs => simp
theorem pieces_length (c : UInt8) : ∀ (l : List UInt8), (pieces c l).length = l.count c + 1
  | [] => rfl
  | b :: l => by
    rw [pieces]
    split
    · next h => subst h; rw [List.length_cons, pieces_length, List.count_cons_self]
    · next h =>
      rw [List.count_cons_of_ne (by simpa using h), ← pieces_length c l]
      cases h2 : pieces c l with
      | nil => exact absurd h2 (pieces_ne c l)
      | cons p ps => simp
theorem pieces_le (c : UInt8) (l : List UInt8) : (pieces c l).length ≤ l.length + 1 := by
  rw [pieces_length]; have := List.count_le_length (a := c) (l := l); omega
/-- a text holds c, or doesn't -/
theorem cut_at (c : UInt8) : ∀ (l : List UInt8), c ∉ l ∨ ∃ x y, l = x ++ c :: y ∧ c ∉ x
  | [] => .inl (by simp)
  | b :: l => by
    by_cases hb : b = c
    · exact .inr ⟨[], l, by simp [hb], by simp⟩
    · rcases cut_at c l with h | ⟨x, y, h1, h2⟩
      · exact .inl (by simp [h, Ne.symm hb])
      · exact .inr ⟨b :: x, y, by simp [h1], by simp [h2, Ne.symm hb]⟩
theorem index_miss {c : UInt8} : ∀ {l : List UInt8}, c ∉ l → Go.Lib.index l [c] = -1
  | [], _ => by simp [Go.Lib.index]
  | b :: l, h => by
    have hp : ([c] : List UInt8).isPrefixOf (b :: l) = false := by
      have : c ≠ b := fun e => h (by simp [e])
      simp [List.isPrefixOf, this]
    rw [Go.Lib.index, hp, index_miss (l := l) (fun e => h (by simp [e]))]
    simp
theorem index_hit {c : UInt8} : ∀ {x : List UInt8} (y : List UInt8), c ∉ x → Go.Lib.index (x ++ c :: y) [c] = (x.length : Int)
  | [], y, _ => by rw [List.nil_append, Go.Lib.index]; simp [List.isPrefixOf]
  | b :: l, y, h => by
    have hp : ([c] : List UInt8).isPrefixOf (b :: (l ++ c :: y)) = false := by
      have : c ≠ b := fun e => h (by simp [e])
      simp [List.isPrefixOf, this]
    rw [List.cons_append, Go.Lib.index, hp, index_hit y (fun e => h (by simp [e]))]
    have : ((l.length : Int) == -1) = false := by rw [beq_eq_false_iff_ne]; omega
    simp [this]
theorem cut_miss {c : UInt8} {l : List UInt8} (h : c ∉ l) : Go.Lib.cut l [c] = (l, [], false) := by
  unfold Go.Lib.cut; rw [index_miss h, if_neg (by omega)]
theorem cut_hit {c : UInt8} {x : List UInt8} (y : List UInt8) (h : c ∉ x) : Go.Lib.cut (x ++ c :: y) [c] = (x, y, true) := by
  unfold Go.Lib.cut; rw [index_hit y h, if_pos (by omega)]
  simp
theorem splitK_pieces (c : UInt8) : ∀ (k : Nat) (l : List UInt8), l.count c = k → Go.Lib.splitK [c] 0 k l = pieces c l
  | 0, l, h => by
    rw [Go.Lib.splitK, pieces_miss (List.count_eq_zero.1 h)]
  | k + 1, l, h => by
    rcases cut_at c l with hm | ⟨x, y, rfl, hx⟩
    · rw [List.count_eq_zero.2 hm] at h; omega
    · rw [Go.Lib.splitK, index_hit y hx, if_neg (by rw [beq_iff_eq]; omega), pieces_hit y hx]
      have hc : y.count c = k := by
        rw [List.count_append, List.count_eq_zero.2 hx, List.count_cons_self] at h; omega
      rw [← splitK_pieces c k y hc]
      simp
/-- strings.Split between bytes of one sort -/
theorem splitB_pieces (c : UInt8) (s : ByteArray) : (Go.Lib.splitB ⟨#[c]⟩ 0 (Go.Lib.countB s ⟨#[c]⟩) s).map (·.data.toList) = pieces c s.data.toList := by
  rw [Go.Lib.splitB_data]
  exact splitK_pieces c _ _ (Go.Lib.count_one c _).symm
/-! ### numbers -/
def digB (b : UInt8) : Bool := decide (48 ≤ b.toNat) && decide (b.toNat ≤ 57)
def numStep (n : Int) (b : UInt8) : Int := 10 * n + ((b.toNat : Int) - 48)
def numF (l : List UInt8) : Int := l.foldl numStep 0
/-- a number of one to ten digits, without noughts ahead; -1: none -/
def numR (l : List UInt8) : Int :=
  if l.length < 1 ∨ 10 < l.length ∨ (1 < l.length ∧ l[0]? = some 48) then -1
  else if l.all digB then numF l else -1
theorem numF_snoc (l : List UInt8) (b : UInt8) : numF (l ++ [b]) = 10 * numF l + ((b.toNat : Int) - 48) := by simp [numF, numStep]
theorem numF_range : ∀ (k : Nat) (l : List UInt8), l.length = k → l.all digB = true → 0 ≤ numF l ∧ numF l < 10 ^ k := by
  intro k
  induction k with
  | zero => intro l hl _; rw [List.length_eq_zero_iff.1 hl]; simp [numF]
  | succ k ih =>
    intro l hl ha
    obtain ⟨l', b, rfl⟩ : ∃ l' b, l = l' ++ [b] := by
      rcases List.eq_nil_or_concat l with h | ⟨l', b, h⟩
      · subst h; simp at hl
      · exact ⟨l', b, by simpa using h⟩
    rw [List.all_append, Bool.and_eq_true] at ha
    have hb : digB b = true := by simpa using ha.2
    have := ih l' (by simpa using hl) ha.1
    rw [numF_snoc]
    simp only [digB, Bool.and_eq_true, decide_eq_true_eq] at hb
    rw [Int.pow_succ]
    omega
theorem numR_range (l : List UInt8) : -1 ≤ numR l ∧ numR l < 10000000000 := by
  unfold numR
  split
  · omega
  · split
    · next h1 h2 =>
      have h3 := numF_range l.length l rfl h2
      have h4 : l.length ≤ 10 := by omega
      have h5 : (10 : Int) ^ l.length ≤ 10 ^ 10 := by
        have : (10 : Nat) ^ l.length ≤ 10 ^ 10 := Nat.pow_le_pow_right (by omega) h4
        exact_mod_cast this
      have : (10 : Int) ^ 10 = 10000000000 := by decide
      omega
    · omega
theorem decDigits_step (u : Nat) (h : ¬ u < 10) : Go.Lib.decDigits u = Go.Lib.decDigits (u / 10) ++ [UInt8.ofNat (48 + u % 10)] := by
  rw [Go.Lib.decDigits, dif_neg h]
theorem digit_nat {i : Nat} (h : i < 10) : (UInt8.ofNat (48 + i)).toNat = 48 + i := by
  rw [UInt8.toNat_ofNat']; omega
theorem decDigits_all : ∀ (u : Nat), (Go.Lib.decDigits u).all digB = true := by
  intro u
  induction u using Nat.strongRecOn with
  | ind u ih =>
    by_cases h : u < 10
    · rw [Go.Lib.decDigits_one h]
      have hd := digit_nat h
      simp only [List.all_cons, List.all_nil, Bool.and_true, digB, Bool.and_eq_true, decide_eq_true_eq]
      omega
    · rw [decDigits_step u h, List.all_append, ih (u / 10) (by omega)]
      have hd := digit_nat (show u % 10 < 10 by omega)
      simp only [List.all_cons, List.all_nil, Bool.and_true, Bool.true_and, digB, Bool.and_eq_true, decide_eq_true_eq]
      omega
theorem numF_dec : ∀ (u : Nat), numF (Go.Lib.decDigits u) = u := by
  intro u
  induction u using Nat.strongRecOn with
  | ind u ih =>
    by_cases h : u < 10
    · rw [Go.Lib.decDigits_one h]
      have hd := digit_nat h
      simp only [numF, List.foldl_cons, List.foldl_nil, numStep]
      omega
    · rw [decDigits_step u h, numF_snoc, ih (u / 10) (by omega)]
      have hd := digit_nat (show u % 10 < 10 by omega)
      omega
theorem decDigits_head : ∀ (u : Nat), 1 ≤ u → ∃ b l, Go.Lib.decDigits u = b :: l ∧ b ≠ 48 := by
  intro u
  induction u using Nat.strongRecOn with
  | ind u ih =>
    intro h1
    by_cases h : u < 10
    · rw [Go.Lib.decDigits_one h]
      refine ⟨_, [], rfl, fun e => ?_⟩
      have hd := digit_nat h
      rw [e] at hd
      simp at hd
      omega
    · rw [decDigits_step u h]
      obtain ⟨b, l, h2, h3⟩ := ih (u / 10) (by omega) (by omega)
      exact ⟨b, l ++ [UInt8.ofNat (48 + u % 10)], by rw [h2]; rfl, h3⟩
theorem nDigits_le : ∀ (k u : Nat), u < 10 ^ (k + 1) → Go.Lib.nDigits u ≤ k + 1
  | 0, u, h => by rw [Go.Lib.nDigits_small (by simpa using h)]; omega
  | k + 1, u, h => by
    by_cases h2 : u < 10
    · rw [Go.Lib.nDigits_small h2]; omega
    · rw [Go.Lib.nDigits_big h2]
      have := nDigits_le k (u / 10) (by rw [Nat.pow_succ] at h; omega)
      omega
theorem nDigits_le10 (u : Nat) (h : u < 10000000000) : Go.Lib.nDigits u ≤ 10 := nDigits_le 9 u (by simpa using h)
theorem numR_dec (u : Nat) (h : u < 10000000000) : numR (Go.Lib.decDigits u) = u := by
  unfold numR
  have hp := Go.Lib.nDigits_pos u
  have hl := nDigits_le10 u h
  have hn : ¬((Go.Lib.decDigits u).length < 1 ∨ 10 < (Go.Lib.decDigits u).length ∨ (1 < (Go.Lib.decDigits u).length ∧ (Go.Lib.decDigits u)[0]? = some 48)) := by
    rw [Go.Lib.decDigits_length]
    rintro (h | h | ⟨h1, h2⟩)
    · omega
    · omega
    · by_cases hu : u = 0
      · subst hu; rw [Go.Lib.nDigits_small (by omega)] at h1; omega
      · obtain ⟨b, l, h3, h4⟩ := decDigits_head u (by omega)
        rw [h3] at h2
        exact h4 (by simpa using h2)
  rw [if_neg hn, if_pos (decDigits_all u), numF_dec]
end Croft
namespace Croft
theorem pieces_mem_len (c : UInt8) : ∀ (l : List UInt8), ∀ x ∈ pieces c l, x.length ≤ l.length
  | [], x, h => by simp [pieces] at h; subst h; simp
  | b :: l, x, h => by
    have ih := pieces_mem_len c l
    rw [pieces] at h
    split at h
    · rcases List.mem_cons.1 h with rfl | h
      · simp
      · have := ih x h; simp; omega
    · cases hp : pieces c l with
      | nil => exact absurd hp (pieces_ne c l)
      | cons p ps =>
        rw [hp] at h ih
        rcases List.mem_cons.1 h with rfl | h
        · have := ih p (by simp); simp; omega
        · have := ih x (by simp [h]); simp; omega
theorem pieces_take_hit {c b : UInt8} {l : List UInt8} {k : Nat} (h : l[k]? = some b) (hb : b = c) : pieces c (l.take (k + 1)) = pieces c (l.take k) ++ [[]] := by
  subst hb
  rw [List.take_add_one, h]; exact pieces_snoc_hit b _
theorem set_last {α : Type} {P : List (List α)} {n : Nat} {x : List α} (b : α) (hn : P.length = n + 1) (hx : P[n]? = some x) (hne : P ≠ []) : P.dropLast ++ [P.getLast hne ++ [b]] = P.set n (x ++ [b]) := by
  have hl : P.getLast hne = x := by
    rw [List.getLast_eq_getElem]
    rw [List.getElem?_eq_getElem (by omega)] at hx
    have h2 := Option.some.inj hx
    rw [← h2]; congr 1; omega
  rw [hl]
  apply List.ext_getElem?
  intro i
  rw [List.getElem?_set]
  by_cases hi : n = i
  · subst hi
    rw [if_pos rfl, if_pos (by omega), List.getElem?_append_right (by simp; omega)]
    simp [hn]
  · rw [if_neg hi]
    by_cases hlt : i < n
    · rw [List.getElem?_append_left (by simp; omega), List.getElem?_dropLast, if_pos (by omega)]
    · rw [List.getElem?_eq_none (by simp; omega), List.getElem?_eq_none (by omega)]
theorem pieces_take_miss {c b : UInt8} {l : List UInt8} {k : Nat} (h : l[k]? = some b) (hb : b ≠ c) {n : Nat} {x : List UInt8} (hn : (pieces c (l.take k)).length = n + 1) (hx : (pieces c (l.take k))[n]? = some x) : pieces c (l.take (k + 1)) = (pieces c (l.take k)).set n (x ++ [b]) := by
  rw [List.take_add_one, h]
  exact (pieces_snoc_miss hb _).trans (set_last b hn hx (pieces_ne _ _))
end Croft
namespace Croft
def outW : List UInt8 := [111, 117, 116]
/-- which of the six words it is; 7: none -/
def wordK (w : List UInt8) : Int :=
  if w = wordL 1 then 1 else if w = wordL 2 then 2 else if w = wordL 3 then 3 else if w = wordL 4 then 4 else if w = wordL 5 then 5 else if w = wordL 6 then 6 else 7
def numsOk (ws : List (List UInt8)) : Bool := ws.all fun x => decide (0 ≤ numR x)
def gateR (k : Int) (n : List Int) : Gt :=
  if k = 1 then ⟨1, n.getD 0 0, 0, 0⟩ else if k = 2 then ⟨2, 0, 0, n.getD 0 0⟩ else if k = 6 then ⟨6, n.getD 0 0, 0, n.getD 1 0⟩ else ⟨k, n.getD 0 0, n.getD 1 0, 0⟩
/-- a line of words, more in a circuit -/
def readR (gs : List Gt) (os : List Int) (w : List UInt8) (ws : List (List UInt8)) : Option (List Gt × List Int) :=
  if numsOk ws then
    if w = outW then (if ws.length = 1 then some (gs, os ++ [(ws.map numR).getD 0 0]) else none)
    else if wordK w ≤ 6 ∧ os.length = 0 ∧ (ws.length : Int) = (if wordK w ≤ 2 then 1 else 2) then some (gs ++ [gateR (wordK w) (ws.map numR)], os) else none
  else none
def readL (gs : List Gt) (os : List Int) (l : List UInt8) : Option (List Gt × List Int) := readR gs os ((pieces 32 l).headD []) (pieces 32 l).tail
/-- lines are read; at: the number of the first -/
def parseR : List Gt → List Int → Nat → List (List UInt8) → (List Gt × List Int) ⊕ Nat
  | gs, os, _, [] => .inl (gs, os)
  | gs, os, at_, [x] => if x = [] then .inl (gs, os) else .inr at_
  | gs, os, at_, x :: y :: l => match readL gs os x with
    | none => .inr at_
    | some (gs', os') => parseR gs' os' (at_ + 1) (y :: l)
structure Parsed where
  gs : List Gt
  os : List Int
  at_ : Int
  e : Int
def parsedOf : (List Gt × List Int) ⊕ Nat → Parsed
  | .inr k => ⟨[], [], k, 3⟩
  | .inl (gs, os) => if circE gs os = 0 then ⟨gs, os, 0, 0⟩ else ⟨[], [], 0, circE gs os⟩
def parseT (s : List UInt8) : Parsed := if 2048 < s.length then ⟨[], [], 0, 2⟩ else parsedOf (parseR [] [] 1 (pieces 10 s))
/-- the number of a gate, its rest by P -/
def normG (g : Gt) : Gt := { g with n := ofF (toF g.n) }

/-! ### what is printed is read -/
theorem numL_dig (z : Int) {b : UInt8} (h : b ∈ numL z) : 48 ≤ b.toNat ∧ b.toNat ≤ 57 := by
  have := List.all_eq_true.1 (decDigits_all z.toNat) b h
  simpa [digB] using this
theorem numL_miss (z : Int) {c : UInt8} (hc : c.toNat < 48) : c ∉ numL z := fun h => by have := numL_dig z h; omega
theorem numR_numL (z : Int) (h0 : 0 ≤ z) (h1 : z < 10000000000) : numR (numL z) = z := by
  unfold numL; rw [numR_dec _ (by omega)]; omega
theorem numL_len10 (z : Int) (h1 : z < 10000000000) : (numL z).length ≤ 10 := by
  unfold numL; rw [Go.Lib.decDigits_length]; exact nDigits_le10 _ (by omega)
theorem numL_len2 (z : Int) (h1 : z < 100) : (numL z).length ≤ 2 := by
  unfold numL; rw [Go.Lib.decDigits_length]; exact nDigits_le 1 _ (by omega)
theorem wordL_miss (k : Int) {c : UInt8} (hc : c.toNat < 97) : c ∉ wordL k := by
  have hall : (wordL k).all fun b => decide (97 ≤ b.toNat) := by
    unfold wordL
    repeat' split
    all_goals decide
  intro h
  have := List.all_eq_true.1 hall c h
  simp at this; omega
theorem wordK_wordL {k : Int} (h1 : 1 ≤ k) (h6 : k ≤ 6) : wordK (wordL k) = k := by
  obtain rfl | rfl | rfl | rfl | rfl | rfl : k = 1 ∨ k = 2 ∨ k = 3 ∨ k = 4 ∨ k = 5 ∨ k = 6 := by omega
  all_goals decide
theorem wordL_out {k : Int} : wordL k ≠ outW := by
  unfold wordL
  repeat' split
  all_goals decide
theorem gRight_kind {g : Gt} {i : Int} (h : gRight g i = true) : 1 ≤ g.kind ∧ g.kind ≤ 6 := by
  by_cases q : g.kind = 1 ∨ g.kind = 2 ∨ g.kind = 3 ∨ g.kind = 4 ∨ g.kind = 5 ∨ g.kind = 6
  · omega
  · simp only [not_or] at q
    simp [gRight, q] at h
theorem readL_line (gs : List Gt) (g : Gt) (i : Int) (hi : i ≤ 30) (h : gRight g i = true) : readL gs [] (lineT g) = some (gs ++ [normG g], []) := by
  obtain ⟨kd, a, b, n⟩ := g
  have hw := wordL_miss kd (c := 32) (by decide)
  have ha := numL_miss a (c := 32) (by decide)
  have hb := numL_miss b (c := 32) (by decide)
  have hn := numL_miss (ofF (toF n)) (c := 32) (by decide)
  have hn1 := ofF_nonneg (toF n)
  have hn2 := ofF_lt (toF n)
  have hrn := numR_numL (ofF (toF n)) hn1 (by omega)
  have hz : n = 0 → ofF (toF n) = 0 := fun e => by rw [e, toF_zero, ofF_zero]
  have hk := gRight_kind h
  dsimp only at hk
  have hwk := wordK_wordL hk.1 hk.2
  have hwo := @wordL_out kd
  obtain rfl | rfl | rfl | rfl | rfl | rfl : kd = 1 ∨ kd = 2 ∨ kd = 3 ∨ kd = 4 ∨ kd = 5 ∨ kd = 6 := by omega
  · simp [gRight] at h
    have hra := numR_numL a (by omega) (by omega)
    have hl : lineT ⟨1, a, b, n⟩ = wordL 1 ++ 32 :: numL a := by simp [lineT]
    rw [readL, hl, pieces_hit _ hw, pieces_miss ha]
    simp only [List.headD_cons, List.tail_cons, readR, numsOk, List.all_cons, List.all_nil, hra, Bool.and_true, List.map_cons, List.map_nil, hwk, if_neg hwo, List.length_cons, List.length_nil]
    rw [if_pos (by simpa using by omega), if_pos (by decide)]
    have := hz h.2
    simp [gateR, normG, this, h.1.2]
  · simp [gRight] at h
    have hl : lineT ⟨2, a, b, n⟩ = wordL 2 ++ 32 :: numL (ofF (toF n)) := by simp [lineT]
    rw [readL, hl, pieces_hit _ hw, pieces_miss hn]
    simp only [List.headD_cons, List.tail_cons, readR, numsOk, List.all_cons, List.all_nil, hrn, Bool.and_true, List.map_cons, List.map_nil, hwk, if_neg hwo, List.length_cons, List.length_nil]
    rw [if_pos (by simpa using by omega), if_pos (by decide)]
    simp [gateR, normG, h]
  all_goals
    simp [gRight, aheadB] at h
    have hra := numR_numL a (by omega) (by omega)
  · have hrb := numR_numL b (by omega) (by omega)
    have hl : lineT ⟨3, a, b, n⟩ = wordL 3 ++ 32 :: (numL a ++ 32 :: numL b) := by simp [lineT]
    rw [readL, hl, pieces_hit _ hw, pieces_hit _ ha, pieces_miss hb]
    simp only [List.headD_cons, List.tail_cons, readR, numsOk, List.all_cons, List.all_nil, hra, hrb, Bool.and_true, List.map_cons, List.map_nil, hwk, if_neg hwo, List.length_cons, List.length_nil]
    rw [if_pos (by simpa using by omega), if_pos (by decide)]
    have := hz h.2
    simp [gateR, normG, this]
  · have hrb := numR_numL b (by omega) (by omega)
    have hl : lineT ⟨4, a, b, n⟩ = wordL 4 ++ 32 :: (numL a ++ 32 :: numL b) := by simp [lineT]
    rw [readL, hl, pieces_hit _ hw, pieces_hit _ ha, pieces_miss hb]
    simp only [List.headD_cons, List.tail_cons, readR, numsOk, List.all_cons, List.all_nil, hra, hrb, Bool.and_true, List.map_cons, List.map_nil, hwk, if_neg hwo, List.length_cons, List.length_nil]
    rw [if_pos (by simpa using by omega), if_pos (by decide)]
    have := hz h.2
    simp [gateR, normG, this]
  · have hrb := numR_numL b (by omega) (by omega)
    have hl : lineT ⟨5, a, b, n⟩ = wordL 5 ++ 32 :: (numL a ++ 32 :: numL b) := by simp [lineT]
    rw [readL, hl, pieces_hit _ hw, pieces_hit _ ha, pieces_miss hb]
    simp only [List.headD_cons, List.tail_cons, readR, numsOk, List.all_cons, List.all_nil, hra, hrb, Bool.and_true, List.map_cons, List.map_nil, hwk, if_neg hwo, List.length_cons, List.length_nil]
    rw [if_pos (by simpa using by omega), if_pos (by decide)]
    have := hz h.2
    simp [gateR, normG, this]
  · have hl : lineT ⟨6, a, b, n⟩ = wordL 6 ++ 32 :: (numL a ++ 32 :: numL (ofF (toF n))) := by simp [lineT]
    rw [readL, hl, pieces_hit _ hw, pieces_hit _ ha, pieces_miss hn]
    simp only [List.headD_cons, List.tail_cons, readR, numsOk, List.all_cons, List.all_nil, hra, hrn, Bool.and_true, List.map_cons, List.map_nil, hwk, if_neg hwo, List.length_cons, List.length_nil]
    rw [if_pos (by simpa using by omega), if_pos (by decide)]
    simp [gateR, normG, h]
theorem readL_out (gs : List Gt) (os : List Int) (o : Int) (h0 : 0 ≤ o) (h1 : o < 30) : readL gs os ([111, 117, 116, 32] ++ numL o) = some (gs, os ++ [o]) := by
  have ho := numL_miss o (c := 32) (by decide)
  have hr := numR_numL o h0 (by omega)
  have hl : [111, 117, 116, 32] ++ numL o = outW ++ 32 :: numL o := by simp [outW]
  rw [readL, hl, pieces_hit _ (by decide), pieces_miss ho]
  simp only [List.headD_cons, List.tail_cons, readR, numsOk, List.all_cons, List.all_nil, hr, Bool.and_true, List.map_cons, List.map_nil]
  rw [if_pos (by simpa using h0)]
  simp
theorem lineT_miss (g : Gt) : (10 : UInt8) ∉ lineT g := by
  have hw := wordL_miss g.kind (c := 10) (by decide)
  have ha := numL_miss g.a (c := 10) (by decide)
  have hb := numL_miss g.b (c := 10) (by decide)
  have hn := numL_miss (ofF (toF g.n)) (c := 10) (by decide)
  unfold lineT
  split
  · simp [hw, ha]
  · split
    · simp [hw, hn]
    · split
      · simp [hw, ha, hn]
      · simp [hw, ha, hb]
theorem pieces_lines : ∀ (ls : List (List UInt8)), (∀ l ∈ ls, (10 : UInt8) ∉ l) → pieces 10 (ls.flatMap fun l => l ++ [10]) = ls ++ [[]]
  | [], _ => rfl
  | l :: ls, h => by
    rw [List.flatMap_cons, List.append_assoc, List.singleton_append, pieces_hit _ (h l (by simp)), pieces_lines ls (fun x hx => h x (by simp [hx]))]
    rfl
theorem parse_outs (gs : List Gt) : ∀ (os os0 : List Int) (at_ : Nat), (∀ o ∈ os, 0 ≤ o ∧ o < 30) → parseR gs os0 at_ ((os.map fun o => [111, 117, 116, 32] ++ numL o) ++ [[]]) = .inl (gs, os0 ++ os)
  | [], os0, at_, _ => by simp [parseR]
  | o :: os, os0, at_, h => by
    have ho := h o (by simp)
    obtain ⟨y, l, hy⟩ : ∃ y l, (os.map fun o => [111, 117, 116, 32] ++ numL o) ++ [[]] = y :: l := by
      cases os with
      | nil => exact ⟨_, _, rfl⟩
      | cons o os => exact ⟨_, _, rfl⟩
    rw [List.map_cons, List.cons_append, hy, parseR, readL_out gs os0 o ho.1 ho.2]
    dsimp only
    rw [← hy, parse_outs gs os (os0 ++ [o]) (at_ + 1) (fun x hx => h x (by simp [hx]))]
    simp
theorem parse_gates (r : List (List UInt8)) (hr : r ≠ []) : ∀ (gs gs0 : List Gt) (at_ : Nat), (∀ g ∈ gs, ∃ i : Int, i ≤ 30 ∧ gRight g i = true) → parseR gs0 [] at_ (gs.map lineT ++ r) = parseR (gs0 ++ gs.map normG) [] (at_ + gs.length) r
  | [], gs0, at_, _ => by simp
  | g :: gs, gs0, at_, h => by
    obtain ⟨i, hi, hg⟩ := h g (by simp)
    obtain ⟨y, l, hy⟩ : ∃ y l, gs.map lineT ++ r = y :: l := by
      cases gs with
      | nil => cases r with
        | nil => exact absurd rfl hr
        | cons a r => exact ⟨_, _, rfl⟩
      | cons g gs => exact ⟨_, _, rfl⟩
    rw [List.map_cons, List.cons_append, hy, parseR, readL_line gs0 g i hi hg]
    dsimp only
    rw [← hy, parse_gates r hr gs (gs0 ++ [normG g]) (at_ + 1) (fun x hx => h x (by simp [hx]))]
    simp [Nat.add_assoc, Nat.add_comm 1]
theorem circT_lines (gs : List Gt) (os : List Int) : circT gs os = (gs.map lineT ++ os.map fun o => [111, 117, 116, 32] ++ numL o).flatMap fun l => l ++ [10] := by
  rw [List.flatMap_append, List.flatMap_map, List.flatMap_map, circT]
  rfl
theorem gRight_norm (g : Gt) (i : Int) (h : gRight g i = true) : gRight (normG g) i = true := by
  obtain ⟨kd, a, b, n⟩ := g
  have hz : n = 0 → ofF (toF n) = 0 := fun e => by rw [e, toF_zero, ofF_zero]
  rw [show normG ⟨kd, a, b, n⟩ = ⟨kd, a, b, ofF (toF n)⟩ from rfl]
  generalize ofF (toF n) = m at hz
  simp only [gRight] at h ⊢
  by_cases q1 : kd = 1
  · rw [if_pos q1] at h ⊢; simp at h ⊢; exact ⟨h.1, hz h.2⟩
  · rw [if_neg q1] at h ⊢
    by_cases q2 : kd = 2
    · rw [if_pos q2] at h ⊢; exact h
    · rw [if_neg q2] at h ⊢
      by_cases q3 : kd = 3 ∨ kd = 4 ∨ kd = 5
      · rw [if_pos q3] at h ⊢; simp at h ⊢; exact ⟨h.1, hz h.2⟩
      · rw [if_neg q3] at h ⊢; exact h
theorem CircOk.norm {gs : List Gt} {os : List Int} (h : CircOk gs os) : CircOk (gs.map normG) os := by
  refine ⟨by simpa using h.g1, by simpa using h.g2, h.o1, h.o2, fun i g hg => ?_, by simpa using h.outs⟩
  rw [List.getElem?_map] at hg
  cases hgi : gs[i]? with
  | none => rw [hgi] at hg; simp at hg
  | some x =>
    rw [hgi] at hg
    obtain rfl : normG x = g := by simpa using hg
    exact gRight_norm x i (h.right i x hgi)
theorem lineT_len20 (g : Gt) (i : Int) (hi : i ≤ 30) (h : gRight g i = true) : (lineT g).length ≤ 19 := by
  have hw := wordL_len g.kind
  have hn := numL_len10 (ofF (toF g.n)) (by have := ofF_lt (toF g.n); omega)
  have hk := gRight_kind h
  unfold lineT
  unfold gRight at h
  rw [List.length_append]
  split
  · next q => rw [if_pos q] at h; simp at h; have := numL_len2 g.a (by omega); simp only [List.length_cons]; omega
  · next q =>
    rw [if_neg q] at h
    split
    · simp only [List.length_cons]; omega
    · next q2 =>
      rw [if_neg q2] at h
      split
      · next q3 =>
        rw [if_neg (by omega), if_pos q3] at h
        simp [aheadB] at h
        have := numL_len2 g.a (by omega)
        simp only [List.length_cons, List.length_append]; omega
      · next q3 =>
        rw [if_pos (by omega)] at h
        simp [aheadB] at h
        have := numL_len2 g.a (by omega)
        have := numL_len2 g.b (by omega)
        simp only [List.length_cons, List.length_append]; omega
theorem flatMap_len {α : Type} (f : α → List UInt8) (k : Nat) : ∀ (l : List α), (∀ x ∈ l, (f x).length ≤ k) → (l.flatMap f).length ≤ k * l.length
  | [], _ => by simp
  | x :: l, h => by
    have h1 := h x (by simp)
    have h2 := flatMap_len f k l (fun y hy => h y (by simp [hy]))
    rw [List.flatMap_cons, List.length_append, List.length_cons, Nat.mul_add]; omega
theorem CircOk.gate {gs : List Gt} {os : List Int} (h : CircOk gs os) {g : Gt} (hg : g ∈ gs) : ∃ i : Int, i ≤ 30 ∧ gRight g i = true := by
  obtain ⟨i, hi, rfl⟩ := List.getElem_of_mem hg
  exact ⟨i, by have := h.g2; omega, h.right i _ (List.getElem?_eq_getElem hi)⟩
theorem circT_len {gs : List Gt} {os : List Int} (h : CircOk gs os) : (circT gs os).length ≤ 900 := by
  have h1 := flatMap_len gateT 20 gs (fun g hg => by
    obtain ⟨i, hi, hr⟩ := h.gate hg
    have := lineT_len20 g i hi hr
    rw [gateT, List.length_append, List.length_singleton]; omega)
  have h2 := flatMap_len outT 10 os (fun o ho => by
    have := numL_len2 o (by have := h.outs o ho; have := h.g2; omega)
    simp only [outT, List.length_append, List.length_cons, List.length_nil]; omega)
  have h3 := h.g2
  have h4 := h.o2
  rw [circT, List.length_append]; omega
/-- what is printed is read as it was -/
theorem parse_circT {gs : List Gt} {os : List Int} (h : CircOk gs os) : parseT (circT gs os) = ⟨gs.map normG, os, 0, 0⟩ := by
  rw [parseT, if_neg (by have := circT_len h; omega), circT_lines, pieces_lines, List.append_assoc, parse_gates _ (by simp) gs [] 1 (fun g hg => h.gate hg), parse_outs]
  · simp only [List.nil_append, parsedOf]
    rw [if_pos (circE_zero.2 h.norm)]
  · intro o ho
    have := h.outs o ho
    have := h.g2
    omega
  · intro l hl
    rcases List.mem_append.1 hl with h' | h'
    · obtain ⟨g, _, rfl⟩ := List.mem_map.1 h'
      exact lineT_miss g
    · obtain ⟨o, _, rfl⟩ := List.mem_map.1 h'
      have := numL_miss o (c := 10) (by decide)
      simp [this]
theorem parseT_ok {s : List UInt8} (h : (parseT s).e = 0) : CircOk (parseT s).gs (parseT s).os := by
  unfold parseT at h ⊢
  split
  · next q => rw [if_pos q] at h; simp at h
  · next q =>
    rw [if_neg q] at h
    cases hp : parseR [] [] 1 (pieces 10 s) with
    | inr k => rw [hp] at h; simp [parsedOf] at h
    | inl p =>
      obtain ⟨gs', os'⟩ := p
      rw [hp] at h
      simp only [parsedOf] at h ⊢
      by_cases q : circE gs' os' = 0
      · rw [if_pos q]; exact circE_zero.1 q
      · rw [if_neg q] at h; exact absurd h q
theorem parseT_bad {s : List UInt8} (h : (parseT s).e ≠ 0) : (parseT s).gs = [] ∧ (parseT s).os = [] ∧ 0 ≤ (parseT s).at_ := by
  unfold parseT at h ⊢
  split
  · exact ⟨rfl, rfl, by simp⟩
  · next q =>
    rw [if_neg q] at h
    cases hp : parseR [] [] 1 (pieces 10 s) with
    | inr k => exact ⟨rfl, rfl, by simp [parsedOf]⟩
    | inl p =>
      obtain ⟨gs', os'⟩ := p
      rw [hp] at h
      simp only [parsedOf] at h ⊢
      by_cases q : circE gs' os' = 0
      · rw [if_pos q] at h; exact absurd rfl h
      · rw [if_neg q]; exact ⟨rfl, rfl, by simp⟩
/-- are two the same, numbers by P? -/
def sameG (x y : Gt) : Bool := decide (x.kind = y.kind) && decide (x.a = y.a) && decide (x.b = y.b) && decide (toF x.n = toF y.n)
end Croft
