/- Parties that reckon with shares: plain mathematics, no program. -/
import Derived.Test.YtljpangeodgbkaaDoorShamP
import Derived.Test.YtljpangeodgbkaaDoorCirc
namespace Croft
/-- where party i stands -/
def pt (i : Nat) : F := toF ((i : Int) + 1)
def ptsN (n : Nat) : List F := (List.range n).map pt
theorem ptsN_length (n : Nat) : (ptsN n).length = n := by simp [ptsN]
theorem ptsN_co {n i : Nat} (h : i < n) : co (ptsN n) i = pt i := co_get (by simp [ptsN, h])
theorem pt_inj {i j : Nat} (hi : i < 1000) (hj : j < 1000) (h : pt i = pt j) : i = j := by
  unfold pt at h
  rw [toF_eq_iff, P_val] at h
  omega
theorem ptsN_nodup {n : Nat} (h : n ≤ 1000) : (ptsN n).Nodup := by
  unfold ptsN
  rw [List.nodup_iff_pairwise_ne, List.pairwise_map]
  have := List.nodup_range (n := n)
  rw [List.nodup_iff_pairwise_ne] at this
  refine List.Pairwise.imp_of_mem (fun ha hb hne he => ?_) this
  rw [List.mem_range] at ha hb
  exact hne (pt_inj (by omega) (by omega) he)
/-- a polynomial dealt to n parties -/
def deal (n : Nat) (p : List F) : List F := (List.range n).map fun i => peval p (pt i)
theorem deal_length (n : Nat) (p : List F) : (deal n p).length = n := by simp [deal]
theorem deal_co {n i : Nat} (p : List F) (h : i < n) : co (deal n p) i = peval p (pt i) := co_get (by simp [deal, h])
def chunk (t : Nat) (ds : List F) (i : Nat) : List F := (ds.drop (i * t)).take t
theorem chunk_length (t : Nat) (ds : List F) (i : Nat) : (chunk t ds i).length ≤ t := by simp [chunk]; omega
/-- what party j gets of each, of a product -/
def gotM (n t : Nat) (a b ds : List F) : List (List F) := (List.range n).map fun j => (List.range n).map fun i => peval ((co a i * co b i) :: chunk t ds i) (pt j)
def wts (n : Nat) : List F := (List.range n).map fun i => wtF (ptsN n) (pt i)
theorem wts_co {n i : Nat} (h : i < n) : co (wts n) i = wtF (ptsN n) (pt i) := co_get (by simp [wts, h])
def weigh (n : Nat) (row : List F) : F := fsum n fun i => co (wts n) i * co row i
def mulOut (n t : Nat) (a b ds : List F) : List F := (gotM n t a b ds).map (weigh n)
theorem weigh_poly {n : Nat} (hn : n ≤ 1000) (p : List F) (h : p.length ≤ n) : weigh n (deal n p) = peval p 0 := by
  have h1 := lagrange0 (ptsN n) (ptsN_nodup hn) p (by rw [ptsN_length]; exact h)
  rw [ptsN_length] at h1
  rw [← h1]
  exact fsum_congr fun i hi => by rw [wts_co hi, deal_co p hi, ptsN_co hi]
/-- a wire's shares: of a polynomial of so many numbers -/
def Shared (n t : Nat) (l : List F) (x : F) : Prop := ∃ p : List F, p.length ≤ t + 1 ∧ l = deal n p ∧ peval p 0 = x
theorem peval_cons0 (a : F) (l : List F) : peval (a :: l) 0 = a := by simp only [peval, F_zm, F_az]
theorem deal_ext {n : Nat} {p q : List F} (h : ∀ x, peval p x = peval q x) : deal n p = deal n q := by
  unfold deal
  exact List.map_congr_left fun i _ => h _
theorem list_ext_deal {n : Nat} {l p : List F} (hl : l.length = n) (h : ∀ i, i < n → co l i = peval p (pt i)) : l = deal n p := by
  apply list_ext_co (by rw [hl, deal_length])
  intro i
  rcases Nat.lt_or_ge i n with hi | hi
  · rw [h i hi, deal_co p hi]
  · rw [co_of_le (by omega), co_of_le (by rw [deal_length]; exact hi)]
theorem Shared.dealt {n t : Nat} (x : F) {ds : List F} (h : ds.length ≤ t) : Shared n t (deal n (x :: ds)) x := ⟨x :: ds, by simp; exact h, rfl, peval_cons0 _ _⟩
theorem Shared.const (n t : Nat) (x : F) : Shared n t (List.replicate n x) x := by
  refine ⟨[x], by simp, ?_, peval_cons0 _ _⟩
  apply list_ext_deal (by simp)
  intro i hi
  rw [co_get (a := x) (by simp [hi])]
  simp only [peval, F_mz, F_az]
theorem Shared.map2 {n t : Nat} {a b : List F} {x y : F} (ha : Shared n t a x) (hb : Shared n t b y) (c d : F) : Shared n t (List.zipWith (fun u v => c * u + d * v) a b) (c * x + d * y) := by
  obtain ⟨p, hp, rfl, rfl⟩ := ha
  obtain ⟨q, hq, rfl, rfl⟩ := hb
  refine ⟨padd (pscale c p) (pscale d q), by rw [padd_length, pscale_length, pscale_length]; omega, ?_, by rw [peval_add, peval_scale, peval_scale]⟩
  apply list_ext_deal (by simp [deal_length])
  intro i hi
  rw [peval_add, peval_scale, peval_scale, ← deal_co p hi, ← deal_co q hi]
  exact co_get (by rw [List.getElem?_zipWith, get_co (by rw [deal_length]; exact hi), get_co (by rw [deal_length]; exact hi)])
theorem sum_poly (n t : Nat) (w : Nat → F) (P : Nat → List F) (hP : ∀ i, (P i).length ≤ t + 1) : ∃ r : List F, r.length ≤ t + 1 ∧ ∀ z, peval r z = fsum n fun i => w i * peval (P i) z := by
  induction n with
  | zero => exact ⟨[], by simp, fun z => rfl⟩
  | succ n ih =>
    obtain ⟨r, hl, he⟩ := ih
    refine ⟨padd r (pscale (w n) (P n)), by rw [padd_length, pscale_length]; have := hP n; omega, fun z => ?_⟩
    rw [peval_add, peval_scale, he z, fsum]
theorem Shared.mul {n t : Nat} {a b : List F} {x y : F} (ha : Shared n t a x) (hb : Shared n t b y) (ht : 2 * t + 1 ≤ n) (hn : n ≤ 1000) (ds : List F) : Shared n t (mulOut n t a b ds) (x * y) := by
  obtain ⟨p, hp, rfl, rfl⟩ := ha
  obtain ⟨q, hq, rfl, rfl⟩ := hb
  obtain ⟨r, hr, he⟩ := sum_poly n t (fun i => co (wts n) i) (fun i => (co (deal n p) i * co (deal n q) i) :: chunk t ds i) (fun i => by have := chunk_length t ds i; simp; exact this)
  refine ⟨r, hr, ?_, ?_⟩
  · apply list_ext_deal (by simp [mulOut, gotM])
    intro j hj
    rw [he]
    refine co_get (a := fsum n fun i => co (wts n) i * peval ((co (deal n p) i * co (deal n q) i) :: chunk t ds i) (pt j)) ?_
    simp only [mulOut, gotM, List.map_map, List.getElem?_map, List.getElem?_range hj, Option.map_some, Function.comp]
    congr 1
    exact fsum_congr fun i hi => by congr 1; exact co_get (by simp [hi])
  · rw [he]
    have h1 := weigh_poly hn (pmulS p q) (by
      rw [pmulS_length]
      split
      · omega
      · omega)
    rw [← peval_mulS, ← h1]
    exact fsum_congr fun i hi => by rw [peval_cons0, deal_co _ hi, deal_co _ hi, deal_co _ hi, peval_mulS]
end Croft
namespace Croft
/-- draws that a gate takes -/
def gdraw (n t : Nat) (g : Gt) : Nat := if g.kind = 1 then t else if g.kind = 5 then n * t else 0
def dat (n t : Nat) (gs : List Gt) : Nat → Nat
  | 0 => 0
  | k + 1 => dat n t gs k + (match gs[k]? with | some g => gdraw n t g | none => 0)
theorem dat_succ {n t k : Nat} {gs : List Gt} {g : Gt} (h : gs[k]? = some g) : dat n t gs (k + 1) = dat n t gs k + gdraw n t g := by simp only [dat, h]
theorem dat_le {n t : Nat} {gs : List Gt} {k m : Nat} (h : k ≤ m) : dat n t gs k ≤ dat n t gs m := by
  induction h with
  | refl => exact Nat.le_refl _
  | step _ ih => rw [dat]; omega
theorem dat_room {n t k : Nat} {gs : List Gt} {g : Gt} (h : gs[k]? = some g) : dat n t gs k + gdraw n t g ≤ dat n t gs gs.length := by
  rw [← dat_succ h]
  exact dat_le (List.getElem?_eq_some_iff.1 h).1
theorem gdraw_le {n t : Nat} {g : Gt} (hn : n ≤ 9) (ht : t ≤ 4) : gdraw n t g ≤ 36 := by
  have := Nat.mul_le_mul hn ht
  unfold gdraw
  split
  · omega
  · split <;> omega
theorem dat_small {n t : Nat} {gs : List Gt} (hn : n ≤ 9) (ht : t ≤ 4) : ∀ k, dat n t gs k ≤ 36 * k := by
  intro k
  induction k with
  | zero => simp [dat]
  | succ k ih =>
    rw [dat]
    cases h : gs[k]? with
    | none => simp only; omega
    | some g => have := gdraw_le (g := g) hn ht; simp only; omega
def wr (ws : List (List F)) (i : Nat) : List F := ws.getD i []
theorem wr_lt {ws : List (List F)} {l : List F} {i : Nat} (h : i < ws.length) : wr (ws ++ [l]) i = wr ws i := by
  unfold wr
  simp [List.getD, List.getElem?_append_left h]
theorem wr_at {ws : List (List F)} {l : List F} {i : Nat} (h : i = ws.length) : wr (ws ++ [l]) i = l := by
  subst h
  simp [wr, List.getD]
theorem wr_get {ws : List (List F)} {i : Nat} (h : i < ws.length) : ws[i]? = some (wr ws i) := by simp [wr, List.getD, List.getElem?_eq_getElem h]
def ewire (n t : Nat) (ws : List (List F)) (x : F) (ds : List F) (g : Gt) : List F :=
  if g.kind = 1 then deal n (x :: ds.take t)
  else if g.kind = 2 then List.replicate n (toF g.n)
  else if g.kind = 3 then List.zipWith (· + ·) (wr ws g.a.toNat) (wr ws g.b.toNat)
  else if g.kind = 4 then List.zipWith (· - ·) (wr ws g.a.toNat) (wr ws g.b.toNat)
  else if g.kind = 5 then mulOut n t (wr ws g.a.toNat) (wr ws g.b.toNat) (ds.take (n * t))
  else (wr ws g.a.toNat).map (· * toF g.n)
def eseen (n t : Nat) (ws : List (List F)) (x : F) (ds : List F) (g : Gt) (j : Nat) : List F :=
  if g.kind = 1 then [co (deal n (x :: ds.take t)) j]
  else if g.kind = 5 then (gotM n t (wr ws g.a.toNat) (wr ws g.b.toNat) (ds.take (n * t))).getD j []
  else []
/-- the wires, so many of them -/
def ew (n t : Nat) (gs : List Gt) (I D : List F) : Nat → List (List F)
  | 0 => []
  | k + 1 => ew n t gs I D k ++ [match gs[k]? with | some g => ewire n t (ew n t gs I D k) (co I (cin gs k)) (D.drop (dat n t gs k)) g | none => []]
theorem ew_length (n t : Nat) (gs : List Gt) (I D : List F) (k : Nat) : (ew n t gs I D k).length = k := by
  induction k with
  | zero => rfl
  | succ k ih => simp [ew, ih]
theorem ew_succ {n t k : Nat} {gs : List Gt} {I D : List F} {g : Gt} (h : gs[k]? = some g) : ew n t gs I D (k + 1) = ew n t gs I D k ++ [ewire n t (ew n t gs I D k) (co I (cin gs k)) (D.drop (dat n t gs k)) g] := by simp only [ew, h]
theorem ew_keep {n t : Nat} {gs : List Gt} {I D : List F} {k m i : Nat} (hk : i < k) (hm : k ≤ m) : wr (ew n t gs I D m) i = wr (ew n t gs I D k) i := by
  induction hm with
  | refl => rfl
  | @step m hkm ih =>
    have hkm' : k ≤ m := hkm
    rw [ew, wr_lt (by rw [ew_length]; omega)]; exact ih
/-- what party j has seen, behind so many gates -/
def es (n t : Nat) (gs : List Gt) (I D : List F) : Nat → Nat → List F
  | 0, _ => []
  | k + 1, j => es n t gs I D k j ++ (match gs[k]? with | some g => eseen n t (ew n t gs I D k) (co I (cin gs k)) (D.drop (dat n t gs k)) g j | none => [])
theorem es_succ {n t k : Nat} {gs : List Gt} {I D : List F} {g : Gt} (h : gs[k]? = some g) (j : Nat) : es n t gs I D (k + 1) j = es n t gs I D k j ++ eseen n t (ew n t gs I D k) (co I (cin gs k)) (D.drop (dat n t gs k)) g j := by simp only [es, h]
/-- and behind so many outputs -/
def eo (n t : Nat) (gs : List Gt) (os : List Int) (I D : List F) : Nat → Nat → List F
  | 0, j => es n t gs I D gs.length j
  | q + 1, j => eo n t gs os I D q j ++ (match os[q]? with | some o => wr (ew n t gs I D gs.length) o.toNat | none => [])
theorem eo_succ {n t q : Nat} {gs : List Gt} {os : List Int} {I D : List F} {o : Int} (h : os[q]? = some o) (j : Nat) : eo n t gs os I D (q + 1) j = eo n t gs os I D q j ++ wr (ew n t gs I D gs.length) o.toNat := by simp only [eo, h]
/-- how many numbers a gate shows -/
def glen (n : Nat) (g : Gt) : Nat := if g.kind = 1 then 1 else if g.kind = 5 then n else 0
def slen (n : Nat) (gs : List Gt) : Nat → Nat
  | 0 => 0
  | k + 1 => slen n gs k + (match gs[k]? with | some g => glen n g | none => 0)
theorem eseen_length {n t : Nat} {ws : List (List F)} {x : F} {ds : List F} {g : Gt} {j : Nat} (hj : j < n) : (eseen n t ws x ds g j).length = glen n g := by
  unfold eseen glen
  split
  · rfl
  · split
    · simp [gotM, List.getD, hj]
    · rfl
theorem es_length {n t : Nat} {gs : List Gt} {I D : List F} {j : Nat} (hj : j < n) : ∀ k, (es n t gs I D k j).length = slen n gs k := by
  intro k
  induction k with
  | zero => rfl
  | succ k ih =>
    rw [es, slen, List.length_append, ih]
    cases gs[k]? with
    | none => rfl
    | some g => simp only [eseen_length hj]
theorem slen_le {n : Nat} {gs : List Gt} (hn : n ≤ 9) : ∀ k, slen n gs k ≤ 9 * k := by
  intro k
  induction k with
  | zero => simp [slen]
  | succ k ih =>
    rw [slen]
    cases gs[k]? with
    | none => simp only; omega
    | some g =>
      simp only
      unfold glen
      split
      · omega
      · split <;> omega
theorem Shared.len {n t : Nat} {l : List F} {x : F} (h : Shared n t l x) : l.length = n := by
  obtain ⟨p, _, rfl, _⟩ := h
  exact deal_length n p
theorem Shared.add {n t : Nat} {a b : List F} {x y : F} (ha : Shared n t a x) (hb : Shared n t b y) : Shared n t (List.zipWith (· + ·) a b) (x + y) := by
  have h := ha.map2 hb 1 1
  simp only [F_om] at h
  exact h
theorem Shared.sub {n t : Nat} {a b : List F} {x y : F} (ha : Shared n t a x) (hb : Shared n t b y) : Shared n t (List.zipWith (· - ·) a b) (x - y) := by
  have h := ha.map2 hb 1 (-1)
  have e : ∀ u v : F, 1 * u + -1 * v = u - v := fun u v => by grind
  simp only [e] at h
  exact h
theorem zip_self_map (f : F → F → F) (l : List F) : List.zipWith f l l = l.map fun u => f u u := by
  induction l with
  | nil => rfl
  | cons a l _ => simp
theorem Shared.scale {n t : Nat} {a : List F} {x : F} (ha : Shared n t a x) (c : F) : Shared n t (a.map (· * c)) (x * c) := by
  have h := ha.map2 ha c 0
  have e : ∀ u v : F, c * u + 0 * v = u * c := fun u v => by grind
  simp only [e] at h
  rw [zip_self_map] at h
  exact h
theorem ewire_shared {n t k : Nat} {ws : List (List F)} {cs : List F} {x : F} {ds : List F} {g : Gt} (hr : gRight g k = true) (hn : 2 * t + 1 ≤ n) (hn9 : n ≤ 1000) (ih : ∀ i, i < k → Shared n t (wr ws i) (co cs i)) : Shared n t (ewire n t ws x ds g) (cone cs x g) := by
  unfold gRight at hr
  unfold ewire cone
  split
  · exact Shared.dealt _ (by simp; omega)
  · next h1 =>
    rw [if_neg h1] at hr
    split
    · exact Shared.const _ _ _
    · next h2 =>
      rw [if_neg h2] at hr
      have ahead : ∀ {z : Int}, aheadB z k = true → z.toNat < k := fun {z} h => by
        simp [aheadB] at h
        omega
      split
      · next h3 =>
        rw [if_pos (.inl h3)] at hr
        simp only [Bool.and_eq_true] at hr
        exact (ih _ (ahead hr.1.1)).add (ih _ (ahead hr.1.2))
      · next h3 =>
        split
        · next h4 =>
          rw [if_pos (.inr (.inl h4))] at hr
          simp only [Bool.and_eq_true] at hr
          exact (ih _ (ahead hr.1.1)).sub (ih _ (ahead hr.1.2))
        · next h4 =>
          split
          · next h5 =>
            rw [if_pos (.inr (.inr h5))] at hr
            simp only [Bool.and_eq_true] at hr
            exact (ih _ (ahead hr.1.1)).mul (ih _ (ahead hr.1.2)) hn hn9 _
          · next h5 =>
            rw [if_neg (by omega)] at hr
            split at hr
            · simp only [Bool.and_eq_true] at hr
              exact (ih _ (ahead hr.1)).scale _
            · cases hr
theorem ew_shared {n t : Nat} {gs : List Gt} {I D : List F} (hr : ∀ (i : Nat) (g : Gt), gs[i]? = some g → gRight g i = true) (hn : 2 * t + 1 ≤ n) (hn9 : n ≤ 1000) : ∀ k, k ≤ gs.length → ∀ i, i < k → Shared n t (wr (ew n t gs I D k) i) (co (cw gs I k) i) := by
  intro k
  induction k with
  | zero => intro _ i h; omega
  | succ k ih =>
    intro hk i hi
    have hg : gs[k]? = some gs[k] := List.getElem?_eq_getElem (by omega)
    have ih := ih (by omega)
    rw [ew_succ hg, cw_succ hg]
    rcases Nat.lt_or_ge i k with h | h
    · rw [wr_lt (by rw [ew_length]; exact h), co_append_lt (by rw [cw_length]; exact h)]
      exact ih i h
    · obtain rfl : i = k := by omega
      rw [wr_at (by rw [ew_length]), co_append_at (by rw [cw_length])]
      exact ewire_shared (hr i _ hg) hn hn9 ih
theorem eo_length {n t : Nat} {gs : List Gt} {os : List Int} {I D : List F} {j : Nat} (h : CircOk gs os) (hn : 2 * t + 1 ≤ n) (hn9 : n ≤ 1000) (hj : j < n) : ∀ q, q ≤ os.length → (eo n t gs os I D q j).length = slen n gs gs.length + n * q := by
  intro q
  induction q with
  | zero => intro _; rw [eo, es_length hj]; rfl
  | succ q ih =>
    intro hq
    have ho : os[q]? = some os[q] := List.getElem?_eq_getElem (by omega)
    have hz := h.outs _ (List.mem_of_getElem? ho)
    rw [eo_succ ho, List.length_append, ih (by omega), (ew_shared (D := D) (I := I) h.right hn hn9 gs.length (Nat.le_refl _) os[q].toNat (by omega)).len, Nat.mul_succ]
    omega
end Croft
