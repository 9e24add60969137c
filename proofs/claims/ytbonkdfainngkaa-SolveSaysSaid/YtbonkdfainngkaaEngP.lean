/- Parties that reckon with shares: plain mathematics, no program. -/
import Derived.Test.YtbonkdfainngkaaShamP
import Derived.Test.YtbonkdfainngkaaCirc
namespace Croft
/-- where party i stands -/
def pt (i : Nat) : F := toF ((i : Int) + 1)
def ptsN (n : Nat) : List F := (List.range n).map pt
theorem ptsN_length (n : Nat) : (ptsN n).length = n := by simp [ptsN]
theorem ptsN_co {n i : Nat} (h : i < n) : co (ptsN n) i = pt i := co_get (by simp [ptsN, h])
theorem pt_inj {i j : Nat} (hi : i < 1000) (hj : j < 1000) (h : pt i = pt j) : i = j := by
  unfold pt at h
  rw [toF_eq_iff, P_val] at h
  omega
theorem ptsN_nodup {n : Nat} (h : n ≤ 1000) : (ptsN n).Nodup := by
  unfold ptsN
  rw [List.nodup_iff_pairwise_ne, List.pairwise_map]
  have := List.nodup_range (n := n)
  rw [List.nodup_iff_pairwise_ne] at this
  refine List.Pairwise.imp_of_mem (fun ha hb hne he => ?_) this
  rw [List.mem_range] at ha hb
  exact hne (pt_inj (by omega) (by omega) he)
/-- a polynomial dealt to n parties -/
def deal (n : Nat) (p : List F) : List F := (List.range n).map fun i => peval p (pt i)
theorem deal_length (n : Nat) (p : List F) : (deal n p).length = n := by simp [deal]
theorem deal_co {n i : Nat} (p : List F) (h : i < n) : co (deal n p) i = peval p (pt i) := co_get (by simp [deal, h])
def chunk (t : Nat) (ds : List F) (i : Nat) : List F := (ds.drop (i * t)).take t
theorem chunk_length (t : Nat) (ds : List F) (i : Nat) : (chunk t ds i).length ≤ t := by simp [chunk]; omega
/-- what party j gets of each, of a product -/
def gotM (n t : Nat) (a b ds : List F) : List (List F) := (List.range n).map fun j => (List.range n).map fun i => peval ((co a i * co b i) :: chunk t ds i) (pt j)
def wts (n : Nat) : List F := (List.range n).map fun i => wtF (ptsN n) (pt i)
theorem wts_co {n i : Nat} (h : i < n) : co (wts n) i = wtF (ptsN n) (pt i) := co_get (by simp [wts, h])
def weigh (n : Nat) (row : List F) : F := fsum n fun i => co (wts n) i * co row i
def mulOut (n t : Nat) (a b ds : List F) : List F := (gotM n t a b ds).map (weigh n)
theorem weigh_poly {n : Nat} (hn : n ≤ 1000) (p : List F) (h : p.length ≤ n) : weigh n (deal n p) = peval p 0 := by
  have h1 := lagrange0 (ptsN n) (ptsN_nodup hn) p (by rw [ptsN_length]; exact h)
  rw [ptsN_length] at h1
  rw [← h1]
  exact fsum_congr fun i hi => by rw [wts_co hi, deal_co p hi, ptsN_co hi]
/-- a wire's shares: of a polynomial of so many numbers -/
def Shared (n t : Nat) (l : List F) (x : F) : Prop := ∃ p : List F, p.length ≤ t + 1 ∧ l = deal n p ∧ peval p 0 = x
theorem peval_cons0 (a : F) (l : List F) : peval (a :: l) 0 = a := by simp only [peval, F_zm, F_az]
theorem deal_ext {n : Nat} {p q : List F} (h : ∀ x, peval p x = peval q x) : deal n p = deal n q := by
  unfold deal
  exact List.map_congr_left fun i _ => h _
theorem list_ext_deal {n : Nat} {l p : List F} (hl : l.length = n) (h : ∀ i, i < n → co l i = peval p (pt i)) : l = deal n p := by
  apply list_ext_co (by rw [hl, deal_length])
  intro i
  rcases Nat.lt_or_ge i n with hi | hi
  · rw [h i hi, deal_co p hi]
  · rw [co_of_le (by omega), co_of_le (by rw [deal_length]; exact hi)]
theorem Shared.dealt {n t : Nat} (x : F) {ds : List F} (h : ds.length ≤ t) : Shared n t (deal n (x :: ds)) x := ⟨x :: ds, by simp; exact h, rfl, peval_cons0 _ _⟩
theorem Shared.const (n t : Nat) (x : F) : Shared n t (List.replicate n x) x := by
  refine ⟨[x], by simp, ?_, peval_cons0 _ _⟩
  apply list_ext_deal (by simp)
  intro i hi
  rw [co_get (a := x) (by simp [hi])]
  simp only [peval, F_mz, F_az]
theorem Shared.map2 {n t : Nat} {a b : List F} {x y : F} (ha : Shared n t a x) (hb : Shared n t b y) (c d : F) : Shared n t (List.zipWith (fun u v => c * u + d * v) a b) (c * x + d * y) := by
  obtain ⟨p, hp, rfl, rfl⟩ := ha
  obtain ⟨q, hq, rfl, rfl⟩ := hb
  refine ⟨padd (pscale c p) (pscale d q), by rw [padd_length, pscale_length, pscale_length]; omega, ?_, by rw [peval_add, peval_scale, peval_scale]⟩
  apply list_ext_deal (by simp [deal_length])
  intro i hi
  rw [peval_add, peval_scale, peval_scale, ← deal_co p hi, ← deal_co q hi]
  exact co_get (by rw [List.getElem?_zipWith, get_co (by rw [deal_length]; exact hi), get_co (by rw [deal_length]; exact hi)])
theorem sum_poly (n t : Nat) (w : Nat → F) (P : Nat → List F) (hP : ∀ i, (P i).length ≤ t + 1) : ∃ r : List F, r.length ≤ t + 1 ∧ ∀ z, peval r z = fsum n fun i => w i * peval (P i) z := by
  induction n with
  | zero => exact ⟨[], by simp, fun z => rfl⟩
  | succ n ih =>
    obtain ⟨r, hl, he⟩ := ih
    refine ⟨padd r (pscale (w n) (P n)), by rw [padd_length, pscale_length]; have := hP n; omega, fun z => ?_⟩
    rw [peval_add, peval_scale, he z, fsum]
theorem Shared.mul {n t : Nat} {a b : List F} {x y : F} (ha : Shared n t a x) (hb : Shared n t b y) (ht : 2 * t + 1 ≤ n) (hn : n ≤ 1000) (ds : List F) : Shared n t (mulOut n t a b ds) (x * y) := by
  obtain ⟨p, hp, rfl, rfl⟩ := ha
  obtain ⟨q, hq, rfl, rfl⟩ := hb
  obtain ⟨r, hr, he⟩ := sum_poly n t (fun i => co (wts n) i) (fun i => (co (deal n p) i * co (deal n q) i) :: chunk t ds i) (fun i => by have := chunk_length t ds i; simp; exact this)
  refine ⟨r, hr, ?_, ?_⟩
  · apply list_ext_deal (by simp [mulOut, gotM])
    intro j hj
    rw [he]
    refine co_get (a := fsum n fun i => co (wts n) i * peval ((co (deal n p) i * co (deal n q) i) :: chunk t ds i) (pt j)) ?_
    simp only [mulOut, gotM, List.map_map, List.getElem?_map, List.getElem?_range hj, Option.map_some, Function.comp]
    congr 1
    exact fsum_congr fun i hi => by congr 1; exact co_get (by simp [hi])
  · rw [he]
    have h1 := weigh_poly hn (pmulS p q) (by
      rw [pmulS_length]
      split
      · omega
      · omega)
    rw [← peval_mulS, ← h1]
    exact fsum_congr fun i hi => by rw [peval_cons0, deal_co _ hi, deal_co _ hi, deal_co _ hi, peval_mulS]
end Croft
