/- Parts of the proof, put together by a program: Plain Shift. No condition. -/
import Derived.WalkKit
namespace Croft
def P : Nat := 2147483647
theorem P_val : P = 2147483647 := rfl
theorem P_pos : 0 < P := by unfold P; decide
instance instNeZeroP : NeZero P := ⟨by unfold P; decide⟩
abbrev F := Fin P
def chkAt (d : Nat) : Bool := Nat.blt d 2 || Nat.blt 2147483647 (d * d) || !(Nat.beq (2147483647 % d) 0)
def chk : Nat → Nat → Bool
  | 0, lo => chkAt lo
  | k + 1, lo => chk k lo && chk k (lo + 2 ^ k)
theorem chk_all (k : Nat) : ∀ lo, chk k lo = true → ∀ d, lo ≤ d → d < lo + 2 ^ k → chkAt d = true := by
  induction k with
  | zero =>
    intro lo h d h1 h2
    have : d = lo := by simp at h2; omega
    subst this; exact h
  | succ k ih =>
    intro lo h d h1 h2
    simp only [chk, Bool.and_eq_true] at h
    rw [Nat.pow_succ] at h2
    by_cases hd : d < lo + 2 ^ k
    · exact ih lo h.1 d h1 hd
    · exact ih _ h.2 d (by omega) (by omega)
theorem chk_yes : chk 16 0 = true := by decide +kernel
theorem small_dvd (d : Nat) (h2 : 2 ≤ d) (hs : d * d ≤ P) : ¬ d ∣ P := by
  have hlt : d < 65536 := by
    rcases Nat.lt_or_ge d 65536 with h | h
    · exact h
    · have := Nat.mul_le_mul h h
      unfold P at hs; omega
  have := chk_all 16 0 chk_yes d (by omega) (by simpa using hlt)
  simp only [chkAt, Bool.or_eq_true, Nat.blt_eq, Bool.not_eq_true'] at this
  intro hd
  have hm := Nat.mod_eq_zero_of_dvd hd
  rw [P_val] at hm hs
  rw [hm] at this
  rcases this with (h | h) | h
  · omega
  · omega
  · cases h
theorem prime (d : Nat) (h : d ∣ P) : d = 1 ∨ d = P := by
  obtain ⟨e, he⟩ := h
  have hP := P_pos
  rcases Nat.lt_or_ge d 2 with h1 | h1
  · have : d ≠ 0 := by rintro rfl; simp at he; omega
    omega
  rcases Nat.lt_or_ge e 2 with h2 | h2
  · have : e ≠ 0 := by rintro rfl; simp at he; omega
    have : e = 1 := by omega
    subst this; simp at he; exact .inr he.symm
  rcases Nat.le_total d e with h | h
  · exact absurd ⟨e, he⟩ (small_dvd d h1 (by rw [he]; exact Nat.mul_le_mul_left d h))
  · exact absurd ⟨d, by rw [Nat.mul_comm]; exact he⟩ (small_dvd e h2 (by rw [he]; exact Nat.mul_le_mul_right e h))
theorem coprime {a : Nat} (h : ¬ P ∣ a) : Nat.Coprime P a := by
  rcases prime (Nat.gcd P a) (Nat.gcd_dvd_left P a) with h1 | h1
  · exact h1
  · exact absurd (h1 ▸ Nat.gcd_dvd_right P a) h
theorem euclid {a b : Nat} (h : P ∣ a * b) : P ∣ a ∨ P ∣ b := by
  by_cases ha : P ∣ a
  · exact .inl ha
  · exact .inr ((coprime ha).dvd_of_dvd_mul_left h)
def ch : Nat → Nat → Nat
  | _, 0 => 1
  | 0, _ + 1 => 0
  | n + 1, k + 1 => ch n k + ch n (k + 1)
theorem ch_big (n : Nat) : ∀ k, n < k → ch n k = 0 := by
  induction n with
  | zero => intro k h; cases k with
    | zero => omega
    | succ k => rfl
  | succ n ih => intro k h; cases k with
    | zero => omega
    | succ k => simp [ch, ih k (by omega), ih (k + 1) (by omega)]
theorem ch_zero (n : Nat) : ch n 0 = 1 := by cases n <;> rfl
theorem ch_full (n : Nat) : ch n n = 1 := by
  induction n with
  | zero => rfl
  | succ n ih => simp [ch, ih, ch_big n (n + 1) (by omega)]
theorem ch_mul (n : Nat) : ∀ k, ch (n + 1) (k + 1) * (k + 1) = (n + 1) * ch n k := by
  induction n with
  | zero => intro k; cases k with
    | zero => rfl
    | succ k => simp [ch]
  | succ n ih => intro k; cases k with
    | zero =>
      have h := ih 0
      simp only [ch_zero] at h ⊢
      simp only [ch, ch_zero] at h ⊢
      omega
    | succ k =>
      have h1 := ih k
      have h2 := ih (k + 1)
      have e : ch (n + 1 + 1) (k + 1 + 1) = ch (n + 1) (k + 1) + ch (n + 1) (k + 2) := rfl
      rw [e]
      have e2 : ch (n + 1) (k + 1) = ch n k + ch n (k + 1) := rfl
      generalize ch (n + 1) (k + 2) = y at *
      generalize ch (n + 1) (k + 1) = x at *
      generalize ch n k = u at *
      generalize ch n (k + 1) = v at *
      subst e2
      grind
def bs (n : Nat) (x : Nat) : Nat → Nat
  | 0 => 0
  | m + 1 => bs n x m + ch n m * x ^ m
theorem bs_pascal (n x : Nat) : ∀ m, bs (n + 1) x (m + 1) = bs n x (m + 1) + x * bs n x m := by
  intro m
  induction m with
  | zero => simp [bs, ch_zero]
  | succ m ih =>
    rw [bs, ih, show bs n x (m + 1 + 1) = bs n x (m + 1) + ch n (m + 1) * x ^ (m + 1) from rfl, show bs n x (m + 1) = bs n x m + ch n m * x ^ m from rfl,
      show ch (n + 1) (m + 1) = ch n m + ch n (m + 1) from rfl, Nat.pow_succ]
    grind
theorem binom (x n : Nat) : bs n x (n + 1) = (x + 1) ^ n := by
  induction n with
  | zero => simp [bs, ch_zero]
  | succ n ih =>
    rw [bs_pascal, show bs n x (n + 1 + 1) = bs n x (n + 1) + ch n (n + 1) * x ^ (n + 1) from rfl, ch_big n (n + 1) (by omega), ih, Nat.pow_succ]
    grind
theorem P_dvd_ch (k : Nat) (h1 : 0 < k) (h2 : k < P) : P ∣ ch P k := by
  obtain ⟨n, hn⟩ : ∃ n, P = n + 1 := ⟨P - 1, by have := P_pos; omega⟩
  obtain ⟨j, rfl⟩ : ∃ j, k = j + 1 := ⟨k - 1, by omega⟩
  have h := ch_mul n j
  rw [← hn] at h
  rcases euclid (⟨_, h⟩ : P ∣ ch P (j + 1) * (j + 1)) with h3 | h3
  · exact h3
  · exact absurd (Nat.le_of_dvd h1 h3) (by omega)
theorem bs_P (x : Nat) : ∀ m, 0 < m → m ≤ P → bs P x m % P = 1 % P := by
  intro m
  induction m with
  | zero => intro h; omega
  | succ m ih =>
    intro _ h
    rcases Nat.eq_zero_or_pos m with h0 | h0
    · subst h0; simp [bs, ch_zero]
    · obtain ⟨c, hc⟩ := P_dvd_ch m h0 (by omega)
      rw [bs, hc, Nat.mul_assoc, Nat.add_mul_mod_self_left]
      exact ih h0 (by omega)
theorem fermat (x : Nat) : x ^ P % P = x % P := by
  induction x with
  | zero => rw [Nat.zero_pow P_pos]
  | succ x ih =>
    rw [← binom, bs, ch_full, Nat.one_mul, Nat.add_mod, bs_P x P P_pos (Nat.le_refl _), ih, ← Nat.add_mod, Nat.add_comm]
theorem pow_val (a : F) (n : Nat) : (a ^ n).val = a.val ^ n % P := by
  induction n with
  | zero =>
    have : a ^ 0 = 1 := by grind
    rw [this]; rfl
  | succ n ih =>
    have : a ^ (n + 1) = a ^ n * a := by grind
    rw [this, Fin.val_mul, ih, Nat.pow_succ, Nat.mod_mul_mod]
theorem F_fermat (a : F) : a ^ P = a := by
  apply Fin.ext
  rw [pow_val, fermat, Nat.mod_eq_of_lt a.isLt]
theorem F_mz (x : F) : x * 0 = 0 := by
  have h : ∀ y : F, y = 0 → x * y = 0 := by intro y h; grind
  exact h 0 rfl
theorem F_zm (x : F) : 0 * x = 0 := by
  have h : ∀ y : F, y = 0 → y * x = 0 := by intro y h; grind
  exact h 0 rfl
theorem F_az (x : F) : x + 0 = x := by simp
theorem F_za (x : F) : 0 + x = x := by simp
theorem F_sz (x : F) : x - 0 = x := by
  have h : ∀ y : F, y = 0 → x - y = x := by intro y h; grind
  exact h 0 rfl
theorem F_mo (x : F) : x * 1 = x := by grind
theorem F_om (x : F) : 1 * x = x := by grind
theorem F_mul_zero {a b : F} (h : a * b = 0) : a = 0 ∨ b = 0 := by
  have h1 := congrArg Fin.val h
  rw [Fin.val_mul] at h1
  have h0 : ∀ a : F, P ∣ a.val → a = 0 := fun a ⟨c, hc⟩ => by
    apply Fin.ext
    have := a.isLt
    show a.val = 0
    cases c with
    | zero => simpa using hc
    | succ c => rw [Nat.mul_succ] at hc; omega
  exact (euclid (Nat.dvd_of_mod_eq_zero h1)).imp (h0 a) (h0 b)
def inv (a : F) : F := a ^ (P - 2)
theorem mul_inv {a : F} (h : a ≠ 0) : a * inv a = 1 := by
  have h1 : a * (a * inv a - 1) = 0 := by
    have h2 := F_fermat a
    have h3 : ∀ n, n = (P - 2) + 2 → a ^ n = inv a * a * a := by rintro n rfl; show a ^ (P - 2 + 2) = a ^ (P - 2) * a * a; grind
    have h4 := h3 P (by unfold P; rfl)
    grind
  rcases F_mul_zero h1 with h2 | h2
  · exact absurd h2 h
  · grind
theorem inv_unique {a b : F} (h : a * b = 1) : b = inv a := by
  have : a ≠ 0 := by
    rintro rfl
    have h1 : (0 : F) = 1 := by grind
    exact absurd h1 (by unfold F P; decide)
  have := mul_inv this
  grind
theorem one_ne : (1 : F) ≠ 0 := by unfold F P; decide
theorem inv_ne {a : F} (h : a ≠ 0) : inv a ≠ 0 := by
  intro h1
  have h2 := mul_inv h
  rw [h1] at h2
  have h3 : (0 : F) = 1 := by grind
  exact one_ne h3.symm
theorem inv_zero : inv 0 = 0 := by
  unfold inv
  have : (0 : F) ^ (P - 2) = 0 ^ (P - 3) * 0 := by
    have : P - 2 = (P - 3) + 1 := by unfold P; rfl
    rw [this]; grind
  rw [this]; grind
def toF (x : Int) : F := Fin.ofNat P (x % (P : Int)).toNat
def ofF (a : F) : Int := (a.val : Int)
theorem Pi_pos : (0 : Int) < (P : Int) := by have := P_pos; omega
theorem toF_val (x : Int) : ((toF x).val : Int) = x % (P : Int) := by
  have h1 := Int.emod_nonneg x (b := (P : Int)) (by have := Pi_pos; omega)
  have h2 := Int.emod_lt_of_pos x Pi_pos
  unfold toF
  simp only [Fin.ofNat]
  rw [Nat.mod_eq_of_lt (by omega)]
  omega
theorem ofF_toF (x : Int) : ofF (toF x) = x % (P : Int) := toF_val x
theorem ofF_inj {a b : F} (h : ofF a = ofF b) : a = b := Fin.ext (by unfold ofF at h; omega)
theorem toF_eq {x y : Int} (h : x % (P : Int) = y % (P : Int)) : toF x = toF y := ofF_inj (by rw [ofF_toF, ofF_toF, h])
theorem toF_eq_iff {x y : Int} : toF x = toF y ↔ x % (P : Int) = y % (P : Int) := ⟨fun h => by rw [← ofF_toF, ← ofF_toF, h], toF_eq⟩
theorem ofF_nonneg (a : F) : 0 ≤ ofF a := by unfold ofF; omega
theorem ofF_lt (a : F) : ofF a < 2147483647 := by unfold ofF; have h1 := a.isLt; have h2 := P_val; omega
theorem toF_ofF (a : F) : toF (ofF a) = a := by
  apply ofF_inj
  rw [ofF_toF]
  exact Int.emod_eq_of_lt (ofF_nonneg a) (by unfold ofF; have := a.isLt; omega)
theorem toF_add (x y : Int) : toF (x + y) = toF x + toF y := by
  apply Fin.ext
  have h1 := toF_val (x + y); have h2 := toF_val x; have h3 := toF_val y
  rw [Fin.val_add]
  rw [Int.add_emod, ← h2, ← h3, ← Int.natCast_add, ← Int.natCast_emod] at h1
  omega
theorem toF_mul (x y : Int) : toF (x * y) = toF x * toF y := by
  apply Fin.ext
  have h1 := toF_val (x * y); have h2 := toF_val x; have h3 := toF_val y
  rw [Fin.val_mul]
  rw [Int.mul_emod, ← h2, ← h3, ← Int.natCast_mul, ← Int.natCast_emod] at h1
  omega
theorem toF_zero : toF 0 = 0 := ofF_inj (by rw [ofF_toF]; rfl)
theorem toF_one : toF 1 = 1 := ofF_inj (by rw [ofF_toF]; rfl)
theorem ofF_zero : ofF 0 = 0 := rfl
theorem toF_neg (x : Int) : toF (-x) = - toF x := by
  have h : toF (-x) + toF x = 0 := by rw [← toF_add, ← toF_zero]; congr 1; omega
  grind
theorem toF_sub (x y : Int) : toF (x - y) = toF x - toF y := by rw [Int.sub_eq_add_neg, toF_add, toF_neg]; grind
theorem ofF_eq_zero {a : F} : ofF a = 0 ↔ a = 0 := ⟨fun h => ofF_inj (by rw [h]; rfl), fun h => by rw [h]; rfl⟩
theorem toF_eq_zero {x : Int} : toF x = 0 ↔ x % 2147483647 = 0 := by rw [← toF_zero, toF_eq_iff, P_val]; simp
def peval : List F → F → F
  | [], _ => 0
  | a :: l, x => a + x * peval l x
def Zero (l : List F) : Prop := ∀ a ∈ l, a = 0
theorem Zero.nil : Zero [] := by intro a h; cases h
theorem Zero.cons {a : F} {l : List F} : Zero (a :: l) ↔ a = 0 ∧ Zero l := by simp [Zero]
theorem peval_zero {l : List F} (h : Zero l) (x : F) : peval l x = 0 := by
  induction l with
  | nil => rfl
  | cons a l ih => rw [Zero.cons] at h; rw [peval, h.1, ih h.2, F_mz, F_az]
def quo : List F → F → List F
  | [], _ => []
  | b :: l, r => peval (b :: l) r :: quo l r
theorem quo_length (l : List F) (r : F) : (quo l r).length = l.length := by
  induction l with
  | nil => rfl
  | cons b l ih => simp [quo, ih]
theorem quo_eval (l : List F) (r x : F) : x * peval l x - r * peval l r = (x - r) * peval (quo l r) x := by
  induction l with
  | nil => simp only [quo, peval, F_mz, F_sz]
  | cons b l ih => simp only [quo, peval] at *; grind
theorem quo_zero (l : List F) (r : F) (h : Zero (quo l r)) : Zero l := by
  induction l with
  | nil => exact Zero.nil
  | cons b l ih =>
    simp only [quo] at h
    rw [Zero.cons] at h ⊢
    have hz := ih h.2
    have h1 := h.1
    rw [peval, peval_zero hz] at h1
    exact ⟨by grind, hz⟩
theorem roots (rs : List F) : ∀ l : List F, l.length ≤ rs.length → rs.Nodup → (∀ r ∈ rs, peval l r = 0) → Zero l := by
  induction rs with
  | nil =>
    intro l h _ _
    have : l = [] := List.eq_nil_of_length_eq_zero (by simpa using h)
    subst this; exact Zero.nil
  | cons r rs ih =>
    intro l hl hn hr
    cases l with
    | nil => exact Zero.nil
    | cons a l =>
      have h0 := hr r (by simp)
      rw [List.nodup_cons] at hn
      have hq : Zero (quo l r) := by
        refine ih _ (by rw [quo_length]; simpa using hl) hn.2 fun x hx => ?_
        have hx0 := hr x (by simp [hx])
        have he := quo_eval l r x
        simp only [peval] at h0 hx0
        have hm : (x - r) * peval (quo l r) x = 0 := by grind
        rcases F_mul_zero hm with h1 | h1
        · have : x = r := by grind
          subst this; exact absurd hx hn.1
        · exact h1
      have hz := quo_zero l r hq
      rw [Zero.cons]
      rw [peval, peval_zero hz] at h0
      exact ⟨by grind, hz⟩
def padd : List F → List F → List F
  | [], b => b
  | a, [] => a
  | x :: a, y :: b => (x + y) :: padd a b
def pscale (c : F) (l : List F) : List F := l.map (c * ·)
def pmul : List F → List F → List F
  | [], _ => []
  | x :: a, b => padd (pscale x b) (0 :: pmul a b)
theorem padd_nil (a : List F) : padd a [] = a := by cases a <;> rfl
theorem peval_add (a : List F) : ∀ (b : List F) (x : F), peval (padd a b) x = peval a x + peval b x := by
  induction a with
  | nil => intro b x; simp only [padd, peval]; grind
  | cons u a ih => intro b x; cases b with
    | nil => simp only [padd, peval]; grind
    | cons v b => simp only [padd, peval, ih]; grind
theorem peval_scale (c : F) (l : List F) (x : F) : peval (pscale c l) x = c * peval l x := by
  unfold pscale
  induction l with
  | nil => simp only [List.map, peval]; grind
  | cons a l ih => simp only [List.map, peval, ih]; grind
theorem peval_mul (a : List F) : ∀ (b : List F) (x : F), peval (pmul a b) x = peval a x * peval b x := by
  induction a with
  | nil => intro b x; simp only [pmul, peval]; grind
  | cons u a ih => intro b x; simp only [pmul, peval_add, peval_scale, peval, ih]; grind
theorem padd_length (a : List F) : ∀ b : List F, (padd a b).length = max a.length b.length := by
  induction a with
  | nil => intro b; simp [padd]
  | cons u a ih => intro b; cases b with
    | nil => simp [padd]
    | cons v b => simp [padd, ih]
theorem pscale_length (c : F) (l : List F) : (pscale c l).length = l.length := by simp [pscale]
def co (l : List F) (i : Nat) : F := l.getD i 0
theorem co_nil (i : Nat) : co [] i = 0 := by simp [co]
theorem co_cons_zero (a : F) (l : List F) : co (a :: l) 0 = a := by simp [co]
theorem co_cons_succ (a : F) (l : List F) (i : Nat) : co (a :: l) (i + 1) = co l i := by simp [co]
theorem co_of_le {l : List F} {i : Nat} (h : l.length ≤ i) : co l i = 0 := by simp [co, List.getElem?_eq_none h]
theorem co_add (a : List F) : ∀ (b : List F) (i : Nat), co (padd a b) i = co a i + co b i := by
  induction a with
  | nil => intro b i; rw [padd, co_nil]; grind
  | cons u a ih => intro b i; cases b with
    | nil => rw [padd_nil, co_nil]; grind
    | cons v b => cases i with
      | zero => simp only [padd, co_cons_zero]
      | succ i => simp only [padd, co_cons_succ, ih]
theorem co_scale (c : F) (l : List F) (i : Nat) : co (pscale c l) i = c * co l i := by
  induction l generalizing i with
  | nil => simp only [pscale, List.map, co_nil]; grind
  | cons a l ih => cases i with
    | zero => simp only [pscale, List.map, co_cons_zero]
    | succ i => simp only [pscale, List.map, co_cons_succ]; exact ih i
theorem Zero.iff_co {l : List F} : Zero l ↔ ∀ i, co l i = 0 := by
  induction l with
  | nil => simp [Zero.nil, co_nil]
  | cons a l ih =>
    rw [Zero.cons, ih]
    constructor
    · intro h i; cases i with
      | zero => rw [co_cons_zero]; exact h.1
      | succ i => rw [co_cons_succ]; exact h.2 i
    · intro h; exact ⟨by have := h 0; rwa [co_cons_zero] at this, fun i => by have := h (i + 1); rwa [co_cons_succ] at this⟩
def pnorm : List F → List F
  | [] => []
  | a :: l => if pnorm l = [] ∧ a = 0 then [] else a :: pnorm l
theorem pnorm_co (l : List F) : ∀ i, co (pnorm l) i = co l i := by
  induction l with
  | nil => intro i; rfl
  | cons a l ih =>
    intro i
    simp only [pnorm]
    split
    · rename_i h
      rw [co_nil]
      cases i with
      | zero => rw [co_cons_zero, h.2]
      | succ i => rw [co_cons_succ, ← ih, h.1, co_nil]
    · cases i with
      | zero => simp only [co_cons_zero]
      | succ i => simp only [co_cons_succ, ih]
theorem pnorm_eval (l : List F) (x : F) : peval (pnorm l) x = peval l x := by
  induction l with
  | nil => rfl
  | cons a l ih =>
    simp only [pnorm]
    split
    · rename_i h
      simp only [peval]
      rw [← ih, h.1, h.2]; simp only [peval, F_mz, F_az]
    · simp only [peval, ih]
theorem pnorm_length (l : List F) : (pnorm l).length ≤ l.length := by
  induction l with
  | nil => simp [pnorm]
  | cons a l ih => simp only [pnorm]; split <;> simp; exact ih
theorem pnorm_norm (l : List F) : pnorm (pnorm l) = pnorm l := by
  induction l with
  | nil => rfl
  | cons a l ih =>
    simp only [pnorm]
    split
    · rfl
    · rename_i h; simp only [pnorm, ih]; rw [if_neg h]
theorem pnorm_nil_iff (l : List F) : pnorm l = [] ↔ Zero l := by
  induction l with
  | nil => simp [pnorm, Zero.nil]
  | cons a l ih => simp only [pnorm, Zero.cons, ← ih]; split <;> simp_all; rename_i h; exact fun h1 h2 => h h2 h1
theorem pnorm_ext (a : List F) : ∀ b : List F, (∀ i, co a i = co b i) → pnorm a = pnorm b := by
  induction a with
  | nil => intro b h; symm; rw [pnorm, pnorm_nil_iff, Zero.iff_co]; intro i; rw [← h, co_nil]
  | cons u a ih => intro b h; cases b with
    | nil => rw [show pnorm [] = ([] : List F) from rfl, pnorm_nil_iff, Zero.iff_co]; intro i; rw [h, co_nil]
    | cons v b =>
      have h0 := h 0
      rw [co_cons_zero, co_cons_zero] at h0
      have h1 := ih b (fun i => by have := h (i + 1); rwa [co_cons_succ, co_cons_succ] at this)
      simp only [pnorm, h0, h1]
theorem pnorm_last (l : List F) : ∀ a, (pnorm l).getLast? = some a → a ≠ 0 := by
  induction l with
  | nil => intro a h; simp [pnorm] at h
  | cons b l ih =>
    intro a h
    simp only [pnorm] at h
    split at h
    · simp at h
    · rename_i hn
      cases hp : pnorm l with
      | nil => rw [hp] at h hn; simp at h hn; subst h; exact hn
      | cons c m => rw [hp, List.getLast?_cons_cons, ← hp] at h; exact ih a h
theorem normal_of_last (l : List F) (h : ∀ a, l.getLast? = some a → a ≠ 0) : pnorm l = l := by
  induction l with
  | nil => rfl
  | cons b l ih =>
    simp only [pnorm]
    cases l with
    | nil => have := h b (by simp); simp [pnorm, this]
    | cons c m =>
      rw [ih (fun a ha => h a (by rw [List.getLast?_cons_cons]; exact ha))]
      simp
theorem agree (a b : List F) (xs : List F) (hn : xs.Nodup) (ha : a.length ≤ xs.length) (hb : b.length ≤ xs.length)
    (h : ∀ x ∈ xs, peval a x = peval b x) : ∀ i, co a i = co b i := by
  have hz : Zero (padd a (pscale (-1) b)) := by
    refine roots xs _ (by rw [padd_length, pscale_length]; omega) hn fun x hx => ?_
    rw [peval_add, peval_scale, h x hx]; grind
  intro i
  have := Zero.iff_co.1 hz i
  rw [co_add, co_scale] at this
  grind
theorem agree_norm (a b : List F) (xs : List F) (hn : xs.Nodup) (ha : a.length ≤ xs.length) (hb : b.length ≤ xs.length)
    (h : ∀ x ∈ xs, peval a x = peval b x) : pnorm a = pnorm b := pnorm_ext a b (agree a b xs hn ha hb h)
def Interp (pts : List (F × F)) (q : List F) : Prop := pnorm q = q ∧ q.length ≤ pts.length ∧ ∀ p ∈ pts, peval q p.1 = p.2
theorem Interp.unique {pts : List (F × F)} {a b : List F} (hn : (pts.map (·.1)).Nodup) (ha : Interp pts a) (hb : Interp pts b) : a = b := by
  rw [← ha.1, ← hb.1]
  refine agree_norm a b _ hn (by simpa using ha.2.1) (by simpa using hb.2.1) fun x hx => ?_
  obtain ⟨p, hp, rfl⟩ := List.mem_map.1 hx
  rw [ha.2.2 p hp, hb.2.2 p hp]
def fsum : Nat → (Nat → F) → F
  | 0, _ => 0
  | n + 1, f => fsum n f + f n
theorem fsum_congr {n : Nat} {f g : Nat → F} (h : ∀ i, i < n → f i = g i) : fsum n f = fsum n g := by
  induction n with
  | zero => rfl
  | succ n ih => rw [fsum, fsum, ih (fun i hi => h i (by omega)), h n (by omega)]
theorem fsum_zero {n : Nat} {f : Nat → F} (h : ∀ i, i < n → f i = 0) : fsum n f = 0 := by
  induction n with
  | zero => rfl
  | succ n ih => rw [fsum, ih (fun i hi => h i (by omega)), h n (by omega), F_az]
theorem fsum_add (n : Nat) (f g : Nat → F) : fsum n (fun i => f i + g i) = fsum n f + fsum n g := by
  induction n with
  | zero => simp only [fsum, F_az]
  | succ n ih => simp only [fsum, ih]; grind
theorem fsum_mul (n : Nat) (c : F) (f : Nat → F) : fsum n (fun i => c * f i) = c * fsum n f := by
  induction n with
  | zero => simp only [fsum, F_mz]
  | succ n ih => simp only [fsum, ih]; grind
theorem fsum_head (n : Nat) (f : Nat → F) : fsum (n + 1) f = f 0 + fsum n (fun i => f (i + 1)) := by
  induction n with
  | zero => simp only [fsum, F_az, F_za]
  | succ n ih => rw [fsum, ih, fsum]; grind
theorem fsum_more {n m : Nat} {f : Nat → F} (h : n ≤ m) (hz : ∀ i, n ≤ i → i < m → f i = 0) : fsum m f = fsum n f := by
  induction m with
  | zero =>
    have : n = 0 := by omega
    subst this; rfl
  | succ m ih =>
    by_cases hn : n = m + 1
    · subst hn; rfl
    · rw [fsum, ih (by omega) (fun i h1 h2 => hz i h1 (by omega)), hz m (by omega) (by omega), F_az]
theorem fsum_swap (n m : Nat) (f : Nat → Nat → F) : fsum n (fun i => fsum m (fun j => f i j)) = fsum m (fun j => fsum n (fun i => f i j)) := by
  induction n with
  | zero => simp only [fsum]; exact (fsum_zero (fun _ _ => rfl)).symm
  | succ n ih => simp only [fsum]; rw [ih, ← fsum_add]
theorem fsum_one {n : Nat} (k : Nat) (hk : k < n) {f : Nat → F} (hz : ∀ i, i < n → i ≠ k → f i = 0) : fsum n f = f k := by
  induction n with
  | zero => omega
  | succ n ih =>
    by_cases h : k = n
    · subst h; rw [fsum, fsum_zero (fun i hi => hz i (by omega) (by omega)), F_za]
    · rw [fsum, ih (by omega) (fun i h1 h2 => hz i (by omega) h2), hz n (by omega) (by omega), F_az]
theorem pow_zero (x : F) : x ^ 0 = 1 := by grind
theorem pow_succ (x : F) (n : Nat) : x ^ (n + 1) = x ^ n * x := by grind
theorem pow_add (x : F) (n m : Nat) : x ^ (n + m) = x ^ n * x ^ m := by
  induction m with
  | zero => rw [pow_zero, F_mo, Nat.add_zero]
  | succ m ih => rw [← Nat.add_assoc, pow_succ, ih, pow_succ]; grind
theorem mul_pow (x y : F) (n : Nat) : (x * y) ^ n = x ^ n * y ^ n := by
  induction n with
  | zero => simp only [pow_zero, F_mo]
  | succ n ih => simp only [pow_succ, ih]; grind
theorem peval_sum (l : List F) (x : F) : ∀ n, l.length ≤ n → peval l x = fsum n (fun i => co l i * x ^ i) := by
  induction l with
  | nil =>
    intro n _
    rw [fsum_zero]; rfl
    intro i _; rw [co_nil, F_zm]
  | cons a l ih =>
    intro n hn
    simp at hn
    obtain ⟨m, rfl⟩ : ∃ m, n = m + 1 := ⟨n - 1, by omega⟩
    rw [fsum_head, co_cons_zero, pow_zero, F_mo, peval, ih m (by omega), ← fsum_mul]
    congr 1
    exact fsum_congr fun i _ => by rw [co_cons_succ, pow_succ]; grind
theorem peval_ext {a b : List F} (h : ∀ i, co a i = co b i) (x : F) : peval a x = peval b x := by
  rw [peval_sum a x (max a.length b.length) (by omega), peval_sum b x (max a.length b.length) (by omega)]
  exact fsum_congr fun i _ => by rw [h]
theorem co_mul (a : List F) : ∀ (b : List F) (k : Nat), co (pmul a b) k = fsum (k + 1) (fun i => co a i * co b (k - i)) := by
  induction a with
  | nil => intro b k; rw [pmul, co_nil, fsum_zero]; intro i _; rw [co_nil, F_zm]
  | cons u a ih =>
    intro b k
    rw [pmul, co_add, co_scale, fsum_head, co_cons_zero, Nat.sub_zero]
    congr 1
    cases k with
    | zero => rw [co_cons_zero]; rfl
    | succ k => rw [co_cons_succ, ih]; exact fsum_congr fun i _ => by rw [co_cons_succ, show k + 1 - (i + 1) = k - i by omega]
theorem pmul_length (a : List F) : ∀ b : List F, b ≠ [] → (pmul a b).length = if a = [] then 0 else a.length + b.length - 1 := by
  induction a with
  | nil => intro b _; rfl
  | cons u a ih =>
    intro b hb
    have hbl : 0 < b.length := List.length_pos_iff.2 hb
    rw [pmul, padd_length, pscale_length, List.length_cons, ih b hb]
    cases a <;> simp <;> omega
theorem pnorm_full {l : List F} (h : pnorm l = l) (hl : l ≠ []) : co l (l.length - 1) ≠ 0 := by
  have h1 := pnorm_last l (l.getLast hl) (by rw [h, List.getLast?_eq_some_getLast hl])
  have hp : 0 < l.length := List.length_pos_iff.2 hl
  rw [List.getLast_eq_getElem] at h1
  simpa [co, List.getElem?_eq_getElem (show l.length - 1 < l.length by omega)] using h1
theorem normal_of_co {l : List F} (h : l = [] ∨ co l (l.length - 1) ≠ 0) : pnorm l = l := by
  rcases h with rfl | h
  · rfl
  · refine normal_of_last l fun a ha => ?_
    have hl : l ≠ [] := by rintro rfl; simp at ha
    have hp : 0 < l.length := List.length_pos_iff.2 hl
    rw [List.getLast?_eq_some_getLast hl, List.getLast_eq_getElem] at ha
    simp only [Option.some.injEq] at ha
    rw [← ha]
    simpa [co, List.getElem?_eq_getElem (show l.length - 1 < l.length by omega)] using h
theorem pmul_normal {a b : List F} (ha : pnorm a = a) (hb : pnorm b = b) : b ≠ [] → pnorm (pmul a b) = pmul a b := by
  intro hb0
  apply normal_of_co
  by_cases ha0 : a = []
  · subst ha0; exact .inl rfl
  right
  have hla := List.length_pos_iff.2 ha0
  have hlb := List.length_pos_iff.2 hb0
  rw [pmul_length a b hb0, if_neg ha0, co_mul, show a.length + b.length - 1 - 1 + 1 = a.length + b.length - 1 by omega]
  rw [fsum_one (a.length - 1) (by omega)]
  · rw [show a.length + b.length - 1 - 1 - (a.length - 1) = b.length - 1 by omega]
    intro h
    rcases F_mul_zero h with h1 | h1
    · exact pnorm_full ha ha0 h1
    · exact pnorm_full hb hb0 h1
  · intro i hi hne
    rcases Nat.lt_or_ge i (a.length - 1) with h1 | h1
    · rw [co_of_le (l := b) (by omega), F_mz]
    · rw [co_of_le (l := a) (by omega), F_zm]
theorem list_ext_co {a b : List F} (hl : a.length = b.length) (h : ∀ i, co a i = co b i) : a = b := by
  apply List.ext_getElem hl
  intro i h1 h2
  have := h i
  simpa [co, h1, h2] using this
def toFs (zs : List Int) : List F := zs.map toF
def ofFs (l : List F) : List Int := l.map ofF
theorem toFs_length (zs : List Int) : (toFs zs).length = zs.length := by simp [toFs]
theorem ofFs_length (l : List F) : (ofFs l).length = l.length := by simp [ofFs]
theorem toFs_ofFs (l : List F) : toFs (ofFs l) = l := by
  unfold toFs ofFs
  rw [List.map_map]
  conv => rhs; rw [← List.map_id l]
  exact List.map_congr_left fun a _ => toF_ofF a
theorem toFs_get {zs : List Int} {j : Nat} {z : Int} (h : zs[j]? = some z) : (toFs zs)[j]? = some (toF z) := by simp [toFs, h]
theorem ofFs_get {l : List F} {j : Nat} {a : F} (h : l[j]? = some a) : (ofFs l)[j]? = some (ofF a) := by simp [ofFs, h]
theorem co_get {l : List F} {j : Nat} {a : F} (h : l[j]? = some a) : co l j = a := by simp [co, h]
theorem get_co {l : List F} {j : Nat} (h : j < l.length) : l[j]? = some (co l j) := by simp [co, List.getElem?_eq_getElem h]
theorem peval_drop {l : List F} {j : Nat} {a : F} (h : l[j]? = some a) (x : F) : peval (l.drop j) x = a + x * peval (l.drop (j + 1)) x := by
  obtain ⟨h1, h2⟩ := List.getElem?_eq_some_iff.1 h
  rw [List.drop_eq_getElem_cons h1, h2]; rfl
theorem peval_append (l : List F) (a x : F) : peval (l ++ [a]) x = peval l x + a * x ^ l.length := by
  induction l with
  | nil => simp only [List.nil_append, peval, List.length_nil, pow_zero, F_mz, F_az, F_za, F_mo]
  | cons b l ih => simp only [List.cons_append, peval, ih, List.length_cons, pow_succ]; grind
theorem peval_take {l : List F} {j : Nat} {a : F} (h : l[j]? = some a) (x : F) : peval (l.take (j + 1)) x = peval (l.take j) x + a * x ^ j := by
  obtain ⟨h1, _⟩ := List.getElem?_eq_some_iff.1 h
  rw [List.take_add_one, h]
  simp only [Option.toList]
  rw [peval_append, List.length_take, Nat.min_eq_left (by omega)]
theorem pnorm_cut (l : List F) (m : Nat) (hm : m ≤ l.length) (hz : ∀ j, m ≤ j → co l j = 0) (hl : m = 0 ∨ co l (m - 1) ≠ 0) : pnorm l = l.take m := by
  have h1 : pnorm l = pnorm (l.take m) := pnorm_ext _ _ fun i => by
    rcases Nat.lt_or_ge i m with h | h
    · simp [co, h]
    · rw [hz i h, co_of_le (by simp; omega)]
  rw [h1]
  apply normal_of_co
  rcases hl with h | h
  · left; subst h; simp
  · right
    rw [show (l.take m).length = m by simp; omega]
    by_cases hm0 : m = 0
    · subst hm0
      simp only [Nat.zero_sub] at h ⊢
      exact absurd (hz 0 (Nat.le_refl _)) h
    · simpa [co, List.getElem?_take, show m - 1 < m by omega] using h
def pmulS (a b : List F) : List F := if a = [] ∨ b = [] then [] else pmul a b
theorem pmulS_length (a b : List F) : (pmulS a b).length = if a = [] ∨ b = [] then 0 else a.length + b.length - 1 := by
  unfold pmulS
  split
  · rfl
  · rename_i h
    have h1 : a ≠ [] := fun e => h (.inl e)
    have h2 : b ≠ [] := fun e => h (.inr e)
    rw [pmul_length a b h2, if_neg h1]
theorem co_mulS (a b : List F) (k : Nat) : co (pmulS a b) k = fsum (k + 1) (fun i => co a i * co b (k - i)) := by
  unfold pmulS
  split
  · rename_i h
    rw [co_nil, fsum_zero]
    intro i _
    rcases h with h | h
    · rw [h, co_nil, F_zm]
    · rw [h, co_nil, F_mz]
  · exact co_mul a b k
theorem peval_mulS (a b : List F) (x : F) : peval (pmulS a b) x = peval a x * peval b x := by
  unfold pmulS
  split
  · rename_i h
    rcases h with h | h
    · rw [h]; simp only [peval, F_zm]
    · rw [h]; simp only [peval, F_mz]
  · exact peval_mul a b x
theorem pmulS_normal {a b : List F} (ha : pnorm a = a) (hb : pnorm b = b) : pnorm (pmulS a b) = pmulS a b := by
  unfold pmulS
  split
  · rfl
  · rename_i h
    exact pmul_normal ha hb (fun e => h (.inr e))
def mulG (a b : List F) (k j i : Nat) : F := fsum k (fun p => if p ≤ i then co a p * co b (i - p) else 0) + (if k ≤ i ∧ i < k + j then co a k * co b (i - k) else 0)
def mulL (a b : List F) (k j : Nat) : List F := (List.range (a.length + b.length - 1)).map (mulG a b k j)
theorem mulL_length (a b : List F) (k j : Nat) : (mulL a b k j).length = a.length + b.length - 1 := by simp [mulL]
theorem mulL_get (a b : List F) (k j : Nat) {i : Nat} (hi : i < a.length + b.length - 1) : (mulL a b k j)[i]? = some (mulG a b k j i) := by simp [mulL, hi]
theorem mulL_zero (a b : List F) : mulL a b 0 0 = List.replicate (a.length + b.length - 1) 0 := by
  apply List.ext_getElem
  · simp [mulL]
  · intro i h1 h2
    simp only [mulL, List.getElem_map, List.getElem_range, List.getElem_replicate, mulG, fsum]
    rw [if_neg (by omega), F_az]
theorem mulL_next (a b : List F) (k : Nat) : mulL a b k b.length = mulL a b (k + 1) 0 := by
  unfold mulL
  apply List.map_congr_left
  intro i _
  unfold mulG
  rw [fsum, if_neg (c := k + 1 ≤ i ∧ i < k + 1 + 0) (by omega), F_az]
  congr 1
  by_cases h : k ≤ i
  · rw [if_pos h]
    by_cases h2 : i < k + b.length
    · rw [if_pos ⟨h, h2⟩]
    · rw [if_neg (by omega), co_of_le (l := b) (by omega), F_mz]
  · rw [if_neg h, if_neg (by omega)]
theorem mulL_set (a b : List F) (k j : Nat) : (mulL a b k j).set (k + j) (mulG a b k j (k + j) + co a k * co b j) = mulL a b k (j + 1) := by
  apply List.ext_getElem
  · simp [mulL]
  · intro i h1 h2
    rw [List.getElem_set]
    simp only [mulL, List.getElem_map, List.getElem_range]
    by_cases hi : k + j = i
    · subst hi
      rw [if_pos rfl]
      unfold mulG
      rw [if_neg (c := k ≤ k + j ∧ k + j < k + j) (by omega), if_pos (c := k ≤ k + j ∧ k + j < k + (j + 1)) (by omega), show k + j - k = j by omega, F_az]
    · rw [if_neg hi]
      unfold mulG
      congr 1
      by_cases h : k ≤ i ∧ i < k + j
      · rw [if_pos h, if_pos (by omega)]
      · rw [if_neg h, if_neg (by omega)]
theorem mulL_full (a b : List F) (ha : a ≠ []) (hb : b ≠ []) : mulL a b a.length 0 = pmulS a b := by
  have hla := List.length_pos_iff.2 ha
  have hlb := List.length_pos_iff.2 hb
  apply list_ext_co
  · rw [mulL_length, pmulS_length, if_neg (by simp [ha, hb])]
  · intro i
    rw [co_mulS]
    rcases Nat.lt_or_ge i (a.length + b.length - 1) with h | h
    · rw [co_get (mulL_get a b a.length 0 h)]
      unfold mulG
      rw [if_neg (by omega), F_az]
      rcases Nat.lt_or_ge i a.length with h1 | h1
      · rw [fsum_more (n := i + 1) (m := a.length) (by omega) (fun p hp _ => by rw [if_neg (by omega)])]
        exact fsum_congr fun p hp => by rw [if_pos (by omega)]
      · rw [fsum_more (n := a.length) (m := i + 1) (by omega) (fun p hp _ => by rw [co_of_le (l := a) hp, F_zm])]
        exact fsum_congr fun p hp => by rw [if_pos (by omega)]
    · rw [co_of_le (by rw [mulL_length]; exact h), fsum_zero]
      intro p hp
      rcases Nat.lt_or_ge p a.length with h1 | h1
      · rw [co_of_le (l := b) (by omega), F_mz]
      · rw [co_of_le (l := a) h1, F_zm]
end Croft
namespace Go.Proofs.YtploomncapiloaaGreatDoor
def shrN (x y : Int) : Int := x / 2 ^ y.toNat
theorem shrN_nonneg {x : Int} (h : 0 ≤ x) (y : Int) : 0 ≤ shrN x y := Int.ediv_nonneg h (Int.pow_nonneg (by omega))
section
variable {P : Program} {ops : Array Oper} {rest : List Oper} {Q : Exit → Act → World → Prop} {a : Act} {w : World} {o : Oper}
theorem run_shr (k : IntKind) (t : TypeId) (x y : Int) (h0 : 0 ≤ y) (h1 : y ≤ 63) (hk : k.bits = 64) :
    (binOp .shr t (.int k x) (.int .i64 y)).run P w = .ok (.int k (shrN x y)) w := by
  simp only [binOp, shift_shr_any _ _ _ _ h0, hk]
  rw [show min y.toNat 64 = y.toNat by omega]
  rfl
theorem wpList_shr (k : IntKind) (t ty : TypeId) (s z : Operand) (x y : Int) (hgd : o.guard = none) (ho : o.op = .binOp .shr t s z ty) (hs : a.eval s = .int k x) (hz : a.eval z = .int .i64 y)
    (h0 : 0 ≤ y) (h1 : y ≤ 63) (hk : k.bits = 64) (h : wpList P ops Q rest (a.put o.dst (.int k (shrN x y))) w) : wpList P ops Q (o :: rest) a w := by
  refine wpList_plain hgd fun K hK => ?_
  unfold Oper.wp execOp
  have hr := run_shr (P := P) (w := w) k t x y h0 h1 hk
  simp [ho, hs, hz, eqGuard, hr]
  exact hK _ _ h
theorem run_quo (t : TypeId) (x y : Int) (h0 : 0 ≤ x) (h1 : 1 ≤ y) (hx : x < 18446744073709551616) : (binOp .quo t (.int .u64 x) (.int .u64 y)).run P w = .ok (.int .u64 (x / y)) w := by
  have hd : x.tdiv y = x / y := Int.tdiv_eq_ediv_of_nonneg h0
  have h2 : 0 ≤ x / y := Int.ediv_nonneg h0 (by omega)
  have h3 : x / y ≤ x := Int.ediv_le_self _ h0
  have hw : IntKind.u64.wrap (x / y) = x / y := by rw [IntKind.wrap_u64]; exact Int.emod_eq_of_lt h2 (by omega)
  have hy : ¬ y = 0 := by omega
  simp [binOp, Op.intDiv, hy, hd, hw]
theorem wpList_quo (t ty : TypeId) (s z : Operand) (x y q : Int) (hgd : o.guard = none) (ho : o.op = .binOp .quo t s z ty) (hs : a.eval s = .int .u64 x) (hz : a.eval z = .int .u64 y)
    (h0 : 0 ≤ x) (h1 : 1 ≤ y) (hx : x < 18446744073709551616) (hq : x / y = q) (h : wpList P ops Q rest (a.put o.dst (.int .u64 q)) w) : wpList P ops Q (o :: rest) a w := by
  subst hq
  refine wpList_plain hgd fun K hK => ?_
  unfold Oper.wp execOp
  have hr := run_quo (P := P) (w := w) t x y h0 h1 hx
  simp [ho, hs, hz, eqGuard, hr]
  exact hK _ _ h
end
end Go.Proofs.YtploomncapiloaaGreatDoor
