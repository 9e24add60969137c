/- Parties that run a circuit without products: what some of them see hides what the others put in: plain mathematics, no program. -/
import Derived.Test.YtcdeoccpbdncmaaEngP
import Derived.Test.YtcdeoccpbdncmaaHideP
namespace Croft
/-- the draws turned, input by input -/
def shD (t : Nat) (B D X Y : List F) (i : Nat) : List F := shiftL B ((D.drop (i * t)).take t) (co Y i - co X i)
def catS (t : Nat) (B D X Y : List F) : Nat → List F
  | 0 => []
  | k + 1 => catS t B D X Y k ++ shD t B D X Y k
theorem shD_length {t K : Nat} {B D X Y : List F} (hD : D.length = K * t) {i : Nat} (h : i < K) : (shD t B D X Y i).length = t := by
  unfold shD
  rw [shiftL_length, List.length_take, List.length_drop, hD]
  have h1 : (i + 1) * t ≤ K * t := Nat.mul_le_mul h (Nat.le_refl _)
  rw [Nat.succ_mul] at h1
  omega
theorem catS_length {t K : Nat} {B D X Y : List F} (hD : D.length = K * t) : ∀ k, k ≤ K → (catS t B D X Y k).length = k * t := by
  intro k
  induction k with
  | zero => intro _; simp [catS]
  | succ k ih =>
    intro hk
    rw [catS, List.length_append, ih (by omega), shD_length hD (by omega), Nat.succ_mul]
theorem catS_chunk {t K : Nat} {B D X Y : List F} (hD : D.length = K * t) {i : Nat} : ∀ k, i < k → k ≤ K → ((catS t B D X Y k).drop (i * t)).take t = shD t B D X Y i := by
  intro k
  induction k with
  | zero => intro h; omega
  | succ k ih =>
    intro hi hk
    have hl := catS_length (B := B) (X := X) (Y := Y) hD k (by omega)
    rw [catS]
    by_cases h : i = k
    · subst h
      rw [List.drop_append_of_le_length (by omega), ← hl, List.drop_length, List.nil_append, List.take_of_length_le (by rw [shD_length hD (by omega)]; exact Nat.le_refl _)]
    · have h1 : (i + 1) * t ≤ k * t := Nat.mul_le_mul (by omega) (Nat.le_refl _)
      rw [Nat.succ_mul] at h1
      rw [List.drop_append_of_le_length (by omega), List.take_append_of_le_length (by rw [List.length_drop]; omega)]
      exact ih (by omega) (by omega)
/-- no products -/
def noMul (gs : List Gt) : Prop := ∀ (k : Nat) (g : Gt), gs[k]? = some g → g.kind ≠ 5
theorem dat_inputs {n t : Nat} {gs : List Gt} (h : noMul gs) : ∀ k, k ≤ gs.length → dat n t gs k = cin gs k * t := by
  intro k
  induction k with
  | zero => intro _; simp [dat, cin, whoseL]
  | succ k ih =>
    intro hk
    have hg : gs[k]? = some gs[k] := List.getElem?_eq_getElem (by omega)
    rw [dat_succ hg, cin_succ hg, ih (by omega)]
    have := h k _ hg
    unfold gdraw
    by_cases h1 : gs[k].kind = 1
    · rw [if_pos h1, if_pos h1, Nat.succ_mul]
    · rw [if_neg h1, if_neg h1, if_neg this]; rfl
theorem co_zip {op : F → F → F} {a b : List F} {i n : Nat} (ha : a.length = n) (hb : b.length = n) (hi : i < n) : co (List.zipWith op a b) i = op (co a i) (co b i) :=
  co_get (by rw [List.getElem?_zipWith, get_co (by omega), get_co (by omega)])
theorem co_map {f : F → F} {a : List F} {i n : Nat} (ha : a.length = n) (hi : i < n) : co (a.map f) i = f (co a i) := co_get (by rw [List.getElem?_map, get_co (by omega)]; rfl)
theorem co_rep {n i : Nat} (x : F) (hi : i < n) : co (List.replicate n x) i = x := co_get (by simp [hi])
theorem hid1 (a b c e f g : F) : a + (b - e) * f + (c + (g - a) * f) = a + c + (b - e + (g - a)) * f := by grind
/-- what is asked -/
structure HAsk (n t : Nat) (gs : List Gt) (B D X Y : List F) (K : Nat) : Prop where
  right : ∀ (i : Nat) (g : Gt), gs[i]? = some g → gRight g i = true
  nom : noMul gs
  hn : 2 * t + 1 ≤ n
  hn9 : n ≤ 1000
  hK : K = cin gs gs.length
  hD : D.length = K * t
  b0 : co B 0 = 1
  bl : B.length ≤ t + 1
section
variable {n t : Nat} {gs : List Gt} {B D X Y : List F} {K : Nat}
theorem HAsk.input (h : HAsk n t gs B D X Y K) {k : Nat} {g : Gt} (hg : gs[k]? = some g) (hk : g.kind = 1) (z : F) :
    peval (co Y (cin gs k) :: ((catS t B D X Y K).drop (dat n t gs k)).take t) z = peval (co X (cin gs k) :: (D.drop (dat n t gs k)).take t) z + (co Y (cin gs k) - co X (cin gs k)) * peval B z := by
  have hlt := (List.getElem?_eq_some_iff.1 hg).1
  have hc : cin gs k < K := by
    have h1 : cin gs (k + 1) ≤ cin gs gs.length := cin_le (by omega)
    rw [cin_succ hg, if_pos hk] at h1
    rw [h.hK]; omega
  rw [dat_inputs h.nom k (by omega), catS_chunk h.hD K hc (Nat.le_refl _)]
  have h1 := shD_length (B := B) (X := X) (Y := Y) h.hD hc
  unfold shD at h1 ⊢
  rw [shiftL_length] at h1
  exact shift_eval h.b0 (by rw [h1]; exact h.bl) z
theorem HAsk.wires (h : HAsk n t gs B D X Y K) : ∀ k, k ≤ gs.length → ∀ i, i < k → ∀ j, j < n →
    co (wr (ew n t gs Y (catS t B D X Y K) k) i) j = co (wr (ew n t gs X D k) i) j + (co (cw gs Y k) i - co (cw gs X k) i) * peval B (pt j) := by
  intro k
  induction k with
  | zero => intro _ i hi; omega
  | succ k ih =>
    intro hk i hi j hj
    have hg : gs[k]? = some gs[k] := List.getElem?_eq_getElem (by omega)
    have ih := ih (by omega)
    have hlx : ∀ i, i < k → (wr (ew n t gs X D k) i).length = n := fun i hi => (ew_shared h.right h.hn h.hn9 k (by omega) i hi).len
    have hly : ∀ i, i < k → (wr (ew n t gs Y (catS t B D X Y K) k) i).length = n := fun i hi => (ew_shared h.right h.hn h.hn9 k (by omega) i hi).len
    rw [ew_succ hg, ew_succ hg, cw_succ hg, cw_succ hg]
    rcases Nat.lt_or_ge i k with hlt | hge
    · rw [wr_lt (by rw [ew_length]; exact hlt), wr_lt (by rw [ew_length]; exact hlt), co_append_lt (by rw [cw_length]; exact hlt), co_append_lt (by rw [cw_length]; exact hlt)]
      exact ih i hlt j hj
    · obtain rfl : i = k := by omega
      rw [wr_at (by rw [ew_length]), wr_at (by rw [ew_length]), co_append_at (by rw [cw_length]), co_append_at (by rw [cw_length])]
      have hr := h.right i _ hg
      have hm := h.nom i _ hg
      unfold gRight at hr
      unfold ewire cone
      have ahead : ∀ {z : Int}, aheadB z i = true → z.toNat < i := fun {z} h => by
        simp [aheadB] at h
        omega
      by_cases h1 : gs[i].kind = 1
      · simp only [if_pos h1]
        rw [deal_co _ hj, deal_co _ hj]
        exact h.input hg h1 _
      simp only [if_neg h1] at hr ⊢
      by_cases h2 : gs[i].kind = 2
      · simp only [if_pos h2]
        rw [co_rep _ hj]
        grind
      simp only [if_neg h2] at hr ⊢
      by_cases h3 : gs[i].kind = 3
      · rw [if_pos (.inl h3)] at hr
        simp only [Bool.and_eq_true] at hr
        have ha := ahead hr.1.1
        have hb := ahead hr.1.2
        simp only [if_pos h3]
        rw [co_zip (hlx _ ha) (hlx _ hb) hj, co_zip (hly _ ha) (hly _ hb) hj, ih _ ha j hj, ih _ hb j hj]
        grind
      by_cases h4 : gs[i].kind = 4
      · rw [if_pos (.inr (.inl h4))] at hr
        simp only [Bool.and_eq_true] at hr
        have ha := ahead hr.1.1
        have hb := ahead hr.1.2
        simp only [if_neg h3, if_pos h4]
        rw [co_zip (hlx _ ha) (hlx _ hb) hj, co_zip (hly _ ha) (hly _ hb) hj, ih _ ha j hj, ih _ hb j hj]
        grind
      rw [if_neg (by omega)] at hr
      by_cases h6 : gs[i].kind = 6
      · rw [if_pos h6] at hr
        simp only [Bool.and_eq_true] at hr
        have ha := ahead hr.1
        simp only [if_neg h3, if_neg h4, if_neg hm]
        rw [co_map (hlx _ ha) hj, co_map (hly _ ha) hj, ih _ ha j hj]
        grind
      · rw [if_neg h6] at hr; cases hr
theorem HAsk.seen (h : HAsk n t gs B D X Y K) {j : Nat} (hj : j < n) (hz : peval B (pt j) = 0) : ∀ k, k ≤ gs.length → es n t gs Y (catS t B D X Y K) k j = es n t gs X D k j := by
  intro k
  induction k with
  | zero => intro _; rfl
  | succ k ih =>
    intro hk
    have hg : gs[k]? = some gs[k] := List.getElem?_eq_getElem (by omega)
    rw [es_succ hg, es_succ hg, ih (by omega)]
    congr 1
    have hm := h.nom k _ hg
    unfold eseen
    by_cases h1 : gs[k].kind = 1
    · simp only [if_pos h1]
      rw [deal_co _ hj, deal_co _ hj, h.input hg h1, hz]
      congr 1
      grind
    · simp only [if_neg h1, if_neg hm]
theorem HAsk.views (h : HAsk n t gs B D X Y K) {os : List Int} (ho : ∀ o ∈ os, 0 ≤ o ∧ o < gs.length) (he : couts gs os X = couts gs os Y) {j : Nat} (hj : j < n) (hz : peval B (pt j) = 0) : ∀ q, q ≤ os.length → eo n t gs os Y (catS t B D X Y K) q j = eo n t gs os X D q j := by
  intro q
  induction q with
  | zero => intro _; exact h.seen hj hz _ (Nat.le_refl _)
  | succ q ih =>
    intro hq
    have hg : os[q]? = some os[q] := List.getElem?_eq_getElem (by omega)
    rw [eo_succ hg, eo_succ hg, ih (by omega)]
    congr 1
    have h1 := ho _ (List.mem_of_getElem? hg)
    have hlt : os[q].toNat < gs.length := by omega
    have e := congrArg (fun l => l[q]?) he
    simp only [couts, List.getElem?_map, hg, Option.map_some, Option.some.injEq] at e
    have hlx := (ew_shared (I := X) (D := D) h.right h.hn h.hn9 gs.length (Nat.le_refl _) _ hlt).len
    have hly := (ew_shared (I := Y) (D := catS t B D X Y K) h.right h.hn h.hn9 gs.length (Nat.le_refl _) _ hlt).len
    apply list_ext_co (by rw [hlx, hly])
    intro i
    by_cases hi : i < n
    · rw [h.wires gs.length (Nat.le_refl _) _ hlt i hi, e]
      grind
    · rw [co_of_le (by omega), co_of_le (by omega)]
end
end Croft
