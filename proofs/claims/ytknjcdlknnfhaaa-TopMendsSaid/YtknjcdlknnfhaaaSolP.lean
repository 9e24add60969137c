/- Equations: which columns are sums of those ahead, two ways: plain mathematics, no program. -/
import Derived.Test.YtknjcdlknnfhaaaPlainB
namespace Croft
abbrev Mx := Nat → Nat → F
/-- column c is a sum of those ahead -/
def Dep (m : Nat) (M : Mx) (c : Nat) : Prop := ∃ s : Nat → F, ∀ r, r < m → M r c = fsum c fun j => s j * M r j
def Ker (m v : Nat) (M : Mx) (z : Nat → F) : Prop := ∀ r, r < m → fsum v (fun j => M r j * z j) = 0
theorem fsum_split {c v : Nat} (h : c ≤ v) (f : Nat → F) (hz : ∀ i, c ≤ i → i < v → f i = 0) : fsum v f = fsum c f := fsum_more h hz
theorem dep_ker {m v : Nat} {M : Mx} {c : Nat} (hc : c < v) : Dep m M c ↔ ∃ z : Nat → F, z c = 1 ∧ (∀ j, c < j → z j = 0) ∧ Ker m v M z := by
  constructor
  · rintro ⟨s, hs⟩
    refine ⟨fun j => if j < c then - s j else if j = c then 1 else 0, by simp, fun j hj => by dsimp only; rw [if_neg (by omega), if_neg (by omega)], fun r hr => ?_⟩
    rw [fsum_split (show c + 1 ≤ v by omega) _ (fun i h1 _ => by dsimp only; rw [if_neg (by omega), if_neg (by omega), F_mz])]
    rw [fsum]
    dsimp only
    rw [if_neg (by omega), if_pos rfl, hs r hr]
    have : fsum c (fun j => M r j * if j < c then - s j else if j = c then 1 else 0) = fsum c (fun j => (-1) * (s j * M r j)) := fsum_congr fun i hi => by rw [if_pos hi]; grind
    rw [this, fsum_mul]; grind
  · rintro ⟨z, h1, h2, h3⟩
    refine ⟨fun j => - z j, fun r hr => ?_⟩
    have h := h3 r hr
    rw [fsum_split (show c + 1 ≤ v by omega) _ (fun i hi _ => by rw [h2 i (by omega), F_mz]), fsum, h1, F_mo] at h
    have : fsum c (fun j => - z j * M r j) = (-1) * fsum c (fun j => M r j * z j) := by rw [← fsum_mul]; exact fsum_congr fun i _ => by grind
    rw [this]; grind
theorem Dep.ker_congr {m v : Nat} {M N : Mx} {c : Nat} (hc : c < v) (h : ∀ z, Ker m v M z ↔ Ker m v N z) : Dep m M c ↔ Dep m N c := by
  rw [dep_ker hc, dep_ker hc]
  exact ⟨fun ⟨z, a, b, k⟩ => ⟨z, a, b, (h z).1 k⟩, fun ⟨z, a, b, k⟩ => ⟨z, a, b, (h z).2 k⟩⟩
def ld (ls : List Nat) (i : Nat) : Nat := ls.getD i 0
theorem ld_get {ls : List Nat} {i : Nat} (h : i < ls.length) : ls[i]? = some (ld ls i) := by simp [ld, List.getElem?_eq_getElem h]
theorem ld_snoc_lt {ls : List Nat} {c i : Nat} (h : i < ls.length) : ld (ls ++ [c]) i = ld ls i := by simp [ld, List.getD, List.getElem?_append_left h]
theorem ld_snoc_at {ls : List Nat} {c i : Nat} (h : i = ls.length) : ld (ls ++ [c]) i = c := by subst h; simp [ld, List.getD]
theorem ld_mem {ls : List Nat} {c : Nat} : c ∈ ls ↔ ∃ i, i < ls.length ∧ ld ls i = c := by
  rw [List.mem_iff_getElem]
  constructor
  · rintro ⟨i, h, rfl⟩; exact ⟨i, h, by simp [ld, List.getElem?_eq_getElem h]⟩
  · rintro ⟨i, h, rfl⟩; exact ⟨i, h, by simp [ld, List.getElem?_eq_getElem h]⟩
/-- rows reduced as far as column col -/
structure Red (M0 M : Mx) (m v col : Nat) (ls : List Nat) : Prop where
  ker : ∀ z, Ker m v M z ↔ Ker m v M0 z
  len : ls.length ≤ m
  lt : ∀ i, i < ls.length → ld ls i < col
  inc : ∀ i j, i < j → j < ls.length → ld ls i < ld ls j
  one : ∀ i, i < ls.length → M i (ld ls i) = 1
  zero : ∀ i r, i < ls.length → r < m → r ≠ i → M r (ld ls i) = 0
  before : ∀ i c, i < ls.length → c < ld ls i → M i c = 0
  low : ∀ r c, ls.length ≤ r → r < m → c < col → M r c = 0
theorem Red.start (M0 : Mx) (m v : Nat) : Red M0 M0 m v 0 [] :=
  ⟨fun _ => Iff.rfl, by simp, fun i h => by simp at h, fun i j _ h => by simp at h, fun i h => by simp at h, fun i r h => by simp at h, fun i c h => by simp at h, fun r c _ _ h => by omega⟩
theorem Red.skip {M0 M : Mx} {m v col : Nat} {ls : List Nat} (h : Red M0 M m v col ls) (hz : ∀ r, ls.length ≤ r → r < m → M r col = 0) : Red M0 M m v (col + 1) ls :=
  ⟨h.ker, h.len, fun i hi => by have := h.lt i hi; omega, h.inc, h.one, h.zero, h.before, fun r c h1 h2 h3 => by
    by_cases hc : c = col
    · subst hc; exact hz r h1 h2
    · exact h.low r c h1 h2 (by omega)⟩
theorem Red.full {M0 M : Mx} {m v col : Nat} {ls : List Nat} (h : Red M0 M m v col ls) (hl : ls.length = m) : ∀ c, col ≤ c → Red M0 M m v c ls := by
  intro c hc
  induction hc with
  | refl => exact h
  | step _ ih => exact ih.skip fun r h1 h2 => by omega
/-- the step at a pivot: rows exchanged, the upper one divided, all others cleared by it -/
def swapM (M : Mx) (a k : Nat) : Mx := fun r c => if r = a then M k c else if r = k then M a c else M r c
def scaleM (M : Mx) (a : Nat) (s : F) : Mx := fun r c => if r = a then M a c * s else M r c
def clearM (M : Mx) (a col : Nat) (n : Nat) : Mx := fun r c => if r < n ∧ r ≠ a then M r c - M r col * M a c else M r c
theorem ker_swap {m v : Nat} (M : Mx) {a k : Nat} (ha : a < m) (hk : k < m) (z : Nat → F) : Ker m v (swapM M a k) z ↔ Ker m v M z := by
  unfold Ker swapM
  constructor
  · intro h r hr
    by_cases h1 : r = a
    · subst h1
      by_cases h2 : k = r
      · subst h2; simpa using h k hk
      · have := h k hk
        rw [show (fun j => (if k = r then M k j else if k = k then M r j else M k j) * z j) = fun j => M r j * z j from by funext j; rw [if_neg h2, if_pos rfl]] at this
        exact this
    · by_cases h2 : r = k
      · subst h2
        have := h a ha
        rw [show (fun j => (if a = a then M r j else if a = r then M a j else M a j) * z j) = fun j => M r j * z j from by funext j; rw [if_pos rfl]] at this
        exact this
      · have := h r hr
        rw [show (fun j => (if r = a then M k j else if r = k then M a j else M r j) * z j) = fun j => M r j * z j from by funext j; rw [if_neg h1, if_neg h2]] at this
        exact this
  · intro h r hr
    by_cases h1 : r = a
    · rw [show (fun j => (if r = a then M k j else if r = k then M a j else M r j) * z j) = fun j => M k j * z j from by funext j; rw [if_pos h1]]
      exact h k hk
    · by_cases h2 : r = k
      · rw [show (fun j => (if r = a then M k j else if r = k then M a j else M r j) * z j) = fun j => M a j * z j from by funext j; rw [if_neg h1, if_pos h2]]
        exact h a ha
      · rw [show (fun j => (if r = a then M k j else if r = k then M a j else M r j) * z j) = fun j => M r j * z j from by funext j; rw [if_neg h1, if_neg h2]]
        exact h r hr
theorem ker_scale {m v : Nat} (M : Mx) {a : Nat} {s : F} (hs : s ≠ 0) (z : Nat → F) : Ker m v (scaleM M a s) z ↔ Ker m v M z := by
  unfold Ker scaleM
  have e : ∀ r, fsum v (fun j => (if r = a then M a j * s else M r j) * z j) = if r = a then s * fsum v (fun j => M r j * z j) else fsum v (fun j => M r j * z j) := by
    intro r
    by_cases h : r = a
    · subst h
      simp only [if_pos]
      rw [← fsum_mul]
      exact fsum_congr fun i _ => by grind
    · simp only [if_neg h]
  constructor
  · intro h r hr
    have := h r hr
    rw [e] at this
    split at this
    · rcases F_mul_zero this with h1 | h1
      · exact absurd h1 hs
      · exact h1
    · exact this
  · intro h r hr
    rw [e, h r hr]
    split
    · exact F_mz _
    · rfl
theorem ker_clear {m v : Nat} (M : Mx) {a col : Nat} (ha : a < m) (n : Nat) (z : Nat → F) : Ker m v (clearM M a col n) z ↔ Ker m v M z := by
  have e : ∀ r, fsum v (fun j => clearM M a col n r j * z j) = if r < n ∧ r ≠ a then fsum v (fun j => M r j * z j) + (- M r col) * fsum v (fun j => M a j * z j) else fsum v (fun j => M r j * z j) := by
    intro r
    by_cases h : r < n ∧ r ≠ a
    · rw [if_pos h, ← fsum_mul, ← fsum_add]
      exact fsum_congr fun i _ => by unfold clearM; rw [if_pos h]; grind
    · rw [if_neg h]
      exact fsum_congr fun i _ => by unfold clearM; rw [if_neg h]
  unfold Ker
  constructor
  · intro h r hr
    have h0 := h a ha
    rw [e, if_neg (fun hh => hh.2 rfl)] at h0
    have := h r hr
    rw [e] at this
    split at this
    · rw [h0, F_mz, F_az] at this; exact this
    · exact this
  · intro h r hr
    rw [e, h r hr, h a ha]
    split
    · rw [F_mz, F_az]
    · rfl
def pivM (M : Mx) (a k col m : Nat) : Mx := clearM (scaleM (swapM M a k) a (inv (M k col))) a col m
theorem Red.pivot {M0 M : Mx} {m v col k : Nat} {ls : List Nat} (h : Red M0 M m v col ls) (hk1 : ls.length ≤ k) (hk2 : k < m) (hp : M k col ≠ 0) : Red M0 (pivM M ls.length k col m) m v (col + 1) (ls ++ [col]) := by
  have ha : ls.length < m := by omega
  have hi := inv_ne hp
  have hmi := mul_inv hp
  -- the rows, named
  have rowA : ∀ c, pivM M ls.length k col m ls.length c = M k c * inv (M k col) := fun c => by
    unfold pivM clearM scaleM swapM
    rw [if_neg (fun hh => hh.2 rfl), if_pos rfl, if_pos rfl]
  have rowR : ∀ r c, r < m → r ≠ ls.length → pivM M ls.length k col m r c = (if r = k then M ls.length c else M r c) - (if r = k then M ls.length col else M r col) * (M k c * inv (M k col)) := fun r c hr hne => by
    have e1 : ∀ x, scaleM (swapM M ls.length k) ls.length (inv (M k col)) r x = if r = k then M ls.length x else M r x := fun x => by
      unfold scaleM swapM
      rw [if_neg hne, if_neg hne]
    have e2 : scaleM (swapM M ls.length k) ls.length (inv (M k col)) ls.length c = M k c * inv (M k col) := by
      unfold scaleM swapM
      rw [if_pos rfl, if_pos rfl]
    unfold pivM clearM
    rw [if_pos ⟨hr, hne⟩, e1, e1, e2]
  refine ⟨fun z => ?_, by simp; omega, fun i hil => ?_, fun i j hij hjl => ?_, fun i hil => ?_, fun i r hil hr hne => ?_, fun i c hil hc => ?_, fun r c h1 h2 h3 => ?_⟩
  · unfold pivM
    rw [ker_clear _ ha, ker_scale _ hi, ker_swap _ ha hk2]
    exact h.ker z
  · rw [List.length_append, List.length_singleton] at hil
    rcases Nat.lt_or_ge i ls.length with h1 | h1
    · rw [ld_snoc_lt h1]; have := h.lt i h1; omega
    · rw [ld_snoc_at (by omega)]; omega
  · rw [List.length_append, List.length_singleton] at hjl
    rcases Nat.lt_or_ge j ls.length with h1 | h1
    · rw [ld_snoc_lt h1, ld_snoc_lt (by omega)]; exact h.inc i j hij h1
    · rw [ld_snoc_at (show j = ls.length by omega), ld_snoc_lt (by omega)]; exact h.lt i (by omega)
  · rw [List.length_append, List.length_singleton] at hil
    rcases Nat.lt_or_ge i ls.length with h1 | h1
    · rw [ld_snoc_lt h1, rowR i _ (by omega) (by omega), if_neg (by omega), if_neg (by omega), h.one i h1, h.low k _ hk1 hk2 (h.lt i h1), F_zm, F_mz, F_sz]
    · obtain rfl : i = ls.length := by omega
      rw [ld_snoc_at rfl, rowA, hmi]
  · rw [List.length_append, List.length_singleton] at hil
    rcases Nat.lt_or_ge i ls.length with h1 | h1
    · rw [ld_snoc_lt h1]
      have hkz := h.low k _ hk1 hk2 (h.lt i h1)
      by_cases hrl : r = ls.length
      · subst hrl; rw [rowA, hkz, F_zm]
      · rw [rowR r _ hr hrl, hkz, F_zm, F_mz, F_sz]
        split
        · exact h.low _ _ (Nat.le_refl _) ha (h.lt i h1)
        · exact h.zero i r h1 hr hne
    · obtain rfl : i = ls.length := by omega
      rw [ld_snoc_at rfl, rowR r _ hr hne, hmi, F_mo]
      grind
  · rw [List.length_append, List.length_singleton] at hil
    rcases Nat.lt_or_ge i ls.length with h1 | h1
    · rw [ld_snoc_lt h1] at hc
      rw [rowR i _ (by omega) (by omega), if_neg (by omega), if_neg (by omega), h.before i c h1 hc, h.low k c hk1 hk2 (by have := h.lt i h1; omega), F_zm, F_mz, F_sz]
    · obtain rfl : i = ls.length := by omega
      rw [ld_snoc_at rfl] at hc
      rw [rowA, h.low k c hk1 hk2 hc, F_zm]
  · rw [List.length_append, List.length_singleton] at h1
    rw [rowR r _ h2 (by omega)]
    by_cases hc : c = col
    · subst hc; rw [hmi, F_mo]; grind
    · rw [h.low k c hk1 hk2 (by omega), F_zm, F_mz, F_sz]
      split
      · exact h.low _ _ (Nat.le_refl _) ha (by omega)
      · exact h.low r c (by omega) h2 (by omega)
/-- what a column comes to by those that lead -/
def ySol (M : Mx) (ls : List Nat) (c : Nat) (j : Nat) : F := fsum ls.length fun i => if ld ls i = j then M i c else 0
theorem ySol_out {M : Mx} {ls : List Nat} {c j : Nat} (h : j ∉ ls) : ySol M ls c j = 0 := by
  unfold ySol
  apply fsum_zero
  intro i hi
  rw [if_neg]
  rintro rfl
  exact h (ld_mem.2 ⟨i, hi, rfl⟩)
theorem Red.inj {M0 M : Mx} {m v col : Nat} {ls : List Nat} (h : Red M0 M m v col ls) {i j : Nat} (hi : i < ls.length) (hj : j < ls.length) (he : ld ls i = ld ls j) : i = j := by
  rcases Nat.lt_trichotomy i j with hl | hl | hl
  · have := h.inc i j hl hj; omega
  · exact hl
  · have := h.inc j i hl hi; omega
theorem Red.ySol_at {M0 M : Mx} {m v col : Nat} {ls : List Nat} (h : Red M0 M m v col ls) (c : Nat) {i : Nat} (hi : i < ls.length) : ySol M ls c (ld ls i) = M i c := by
  unfold ySol
  rw [fsum_one i hi, if_pos rfl]
  intro k hk hne
  rw [if_neg]
  intro he
  exact hne (h.inj hk hi he)
theorem Red.sum_y {M0 M : Mx} {m v col : Nat} {ls : List Nat} (h : Red M0 M m v col ls) (hv : col ≤ v) (c r : Nat) (hr : r < m) : fsum v (fun j => M r j * ySol M ls c j) = if r < ls.length then M r c else 0 := by
  have e : fsum v (fun j => M r j * ySol M ls c j) = fsum ls.length (fun i => M r (ld ls i) * M i c) := by
    have : fsum v (fun j => M r j * ySol M ls c j) = fsum v (fun j => fsum ls.length fun i => M r j * (if ld ls i = j then M i c else 0)) := fsum_congr fun j _ => by unfold ySol; rw [fsum_mul]
    rw [this, fsum_swap]
    apply fsum_congr
    intro i hi
    rw [fsum_one (ld ls i) (by have := h.lt i hi; omega), if_pos rfl]
    intro j _ hne
    rw [if_neg (fun he => hne he.symm), F_mz]
  rw [e]
  split
  · next hl =>
    rw [fsum_one r hl, h.one r hl, F_om]
    intro i hi hne
    rw [h.zero i r hi hr (Ne.symm hne), F_zm]
  · next hl =>
    apply fsum_zero
    intro i hi
    rw [h.zero i r hi hr (by omega), F_zm]
theorem Red.ker_y {M0 M : Mx} {m v col : Nat} {ls : List Nat} (h : Red M0 M m v col ls) (hv : col ≤ v) {c : Nat} (hc : c < v) (hz : ∀ r, ls.length ≤ r → r < m → M r c = 0) : Ker m v M0 (fun j => (if j = c then 1 else 0) - ySol M ls c j) := by
  rw [← h.ker]
  intro r hr
  have : fsum v (fun j => M r j * ((if j = c then 1 else 0) - ySol M ls c j)) = fsum v (fun j => M r j * (if j = c then 1 else 0)) + (-1) * fsum v (fun j => M r j * ySol M ls c j) := by
    rw [← fsum_mul, ← fsum_add]
    exact fsum_congr fun i _ => by grind
  rw [this, h.sum_y hv c r hr, fsum_one c hc (fun i _ hne => by rw [if_neg hne, F_mz]), if_pos rfl, F_mo]
  split
  · grind
  · rw [hz r (by omega) hr, F_mz, F_az]
theorem Red.lead {M0 M : Mx} {m v col : Nat} {ls : List Nat} (h : Red M0 M m v col ls) (hv : col ≤ v) {c : Nat} (hc : c < col) : c ∈ ls ↔ ¬ Dep m M0 c := by
  constructor
  · intro hm hd
    obtain ⟨i, hi, rfl⟩ := ld_mem.1 hm
    rw [dep_ker (v := v) (by omega)] at hd
    obtain ⟨z, h1, h2, h3⟩ := hd
    rw [← h.ker] at h3
    have hl := h.len
    have h4 := h3 i (by omega)
    rw [fsum_one (ld ls i) (by omega), h.one i hi, h1] at h4
    · exact one_ne (by rw [← F_om (1 : F)]; exact h4)
    · intro j _ hne
      rcases Nat.lt_or_ge j (ld ls i) with hj | hj
      · rw [h.before i j hi hj, F_zm]
      · rw [h2 j (by omega), F_mz]
  · intro hd
    by_cases hm : c ∈ ls
    · exact hm
    · exfalso
      apply hd
      rw [dep_ker (v := v) (by omega)]
      refine ⟨_, ?_, fun j hj => ?_, h.ker_y hv (by omega) fun r h1 h2 => h.low r c h1 h2 hc⟩
      · rw [if_pos rfl, ySol_out hm, F_sz]
      · rw [if_neg (by omega)]
        by_cases hjm : j ∈ ls
        · obtain ⟨i, hi, rfl⟩ := ld_mem.1 hjm
          rw [h.ySol_at c hi, h.before i c hi hj, F_sz]
        · rw [ySol_out hjm, F_sz]
/-- the last column: a sum of the others, if it is 0 where the rest of the rows is -/
theorem Red.last {M0 M : Mx} {m n : Nat} {ls : List Nat} (h : Red M0 M m (n + 1) n ls) : Dep m M0 n ↔ ∀ r, ls.length ≤ r → r < m → M r n = 0 := by
  constructor
  · intro hd r h1 h2
    rw [dep_ker (v := n + 1) (by omega)] at hd
    obtain ⟨z, z1, _, z3⟩ := hd
    rw [← h.ker] at z3
    have := z3 r h2
    rw [fsum, z1, F_mo, fsum_zero (fun i hi => by rw [h.low r i h1 h2 hi, F_zm]), F_za] at this
    exact this
  · intro hz
    rw [dep_ker (v := n + 1) (by omega)]
    have hn : n ∉ ls := fun hm => by
      obtain ⟨i, hi, he⟩ := ld_mem.1 hm
      have := h.lt i hi
      omega
    refine ⟨_, ?_, fun j hj => ?_, h.ker_y (by omega) (by omega) hz⟩
    · rw [if_pos rfl, ySol_out hn, F_sz]
    · rw [if_neg (by omega), ySol_out (fun hm => by
        obtain ⟨i, hi, he⟩ := ld_mem.1 hm
        have := h.lt i hi
        omega), F_sz]
theorem Red.solves {M0 M : Mx} {m n : Nat} {ls : List Nat} (h : Red M0 M m (n + 1) n ls) (hz : ∀ r, ls.length ≤ r → r < m → M r n = 0) : ∀ r, r < m → fsum n (fun j => M0 r j * ySol M ls n j) = M0 r n := by
  intro r hr
  have hn : n ∉ ls := fun hm => by
    obtain ⟨i, hi, he⟩ := ld_mem.1 hm
    have := h.lt i hi
    omega
  have h1 := h.ker_y (by omega) (show n < n + 1 by omega) hz r hr
  rw [fsum] at h1
  dsimp only at h1
  rw [if_pos rfl, ySol_out hn, F_sz, F_mo] at h1
  have : fsum n (fun j => M0 r j * ((if j = n then 1 else 0) - ySol M ls n j)) = (-1) * fsum n (fun j => M0 r j * ySol M ls n j) := by
    rw [← fsum_mul]
    exact fsum_congr fun i hi => by rw [if_neg (by omega)]; grind
  rw [this] at h1
  grind
/-! the reference's way: columns cleared by those that lead -/
def Spans (m n : Nat) (B : Nat → Nat → F) (x : Nat → F) : Prop := ∃ s : Nat → F, ∀ r, r < m → x r = fsum n fun k => s k * B k r
theorem spans_trans {m n p : Nat} {B C : Nat → Nat → F} {x : Nat → F} (h : Spans m n B x) (hb : ∀ k, k < n → Spans m p C (B k)) : Spans m p C x := by
  obtain ⟨s, hs⟩ := h
  have : ∀ k, ∃ t : Nat → F, k < n → ∀ r, r < m → B k r = fsum p fun j => t j * C j r := fun k => by
    by_cases hk : k < n
    · obtain ⟨t, ht⟩ := hb k hk
      exact ⟨t, fun _ => ht⟩
    · exact ⟨fun _ => 0, fun hh => absurd hh hk⟩
  refine ⟨fun j => fsum n fun k => s k * Classical.choose (this k) j, fun r hr => ?_⟩
  rw [hs r hr]
  have e : fsum p (fun j => (fsum n fun k => s k * Classical.choose (this k) j) * C j r) = fsum p (fun j => fsum n fun k => s k * Classical.choose (this k) j * C j r) := fsum_congr fun j _ => by rw [fsum_mul_right]
  rw [e, fsum_swap]
  apply fsum_congr
  intro k hk
  rw [Classical.choose_spec (this k) hk r hr, ← fsum_mul]
  exact fsum_congr fun j _ => by grind
/-- so many columns of the basis, each with its place -/
structure Bas (M0 : Mx) (m c : Nat) (B : Nat → Nat → F) (at_ : Nat → Nat) (ls : List Nat) : Prop where
  from_ : ∀ k, k < ls.length → Spans m c (fun j r => M0 r j) (B k)
  to_ : ∀ j, j < c → Spans m ls.length B (fun r => M0 r j)
  place : ∀ k, k < ls.length → at_ k < m
  one : ∀ k, k < ls.length → B k (at_ k) = 1
  zero : ∀ k i, k < i → i < ls.length → B i (at_ k) = 0
  lt : ∀ i, i < ls.length → ld ls i < c
  inc : ∀ i j, i < j → j < ls.length → ld ls i < ld ls j
  lead : ∀ j, j < c → (j ∈ ls ↔ ¬ Dep m M0 j)
theorem Bas.start (M0 : Mx) (m : Nat) (B : Nat → Nat → F) (at_ : Nat → Nat) : Bas M0 m 0 B at_ [] :=
  ⟨fun k h => by simp at h, fun j h => by omega, fun k h => by simp at h, fun k h => by simp at h, fun k i _ h => by simp at h, fun i h => by simp at h, fun i j _ h => by simp at h, fun j h => by omega⟩
/-- a column, cleared by so many -/
structure Clr (M0 : Mx) (m c : Nat) (B : Nat → Nat → F) (at_ : Nat → Nat) (n k : Nat) (x : Nat → F) : Prop where
  diff : ∃ s : Nat → F, (∀ i, k ≤ i → s i = 0) ∧ ∀ r, r < m → x r = M0 r c - fsum n fun i => s i * B i r
  zero : ∀ i, i < k → x (at_ i) = 0
theorem Clr.start (M0 : Mx) (m c : Nat) (B : Nat → Nat → F) (at_ : Nat → Nat) (n : Nat) : Clr M0 m c B at_ n 0 (fun r => M0 r c) :=
  ⟨⟨fun _ => 0, fun _ _ => rfl, fun r _ => by rw [fsum_zero (fun i _ => F_zm _), F_sz]⟩, fun i h => by omega⟩
theorem Clr.step {M0 : Mx} {m c k : Nat} {B : Nat → Nat → F} {at_ : Nat → Nat} {ls : List Nat} {x : Nat → F} (hb : Bas M0 m c B at_ ls) (h : Clr M0 m c B at_ ls.length k x) (hk : k < ls.length) {y : Nat → F} (hy : ∀ r, r < m → y r = x r + (- x (at_ k)) * B k r) : Clr M0 m c B at_ ls.length (k + 1) y := by
  obtain ⟨⟨s, h1, h2⟩, h3⟩ := h
  refine ⟨⟨fun i => if i = k then x (at_ k) else s i, fun i hi => by dsimp only; rw [if_neg (by omega)]; exact h1 i (by omega), fun r hr => ?_⟩, fun i hi => ?_⟩
  · rw [hy r hr, h2 r hr]
    have e : fsum ls.length (fun i => (if i = k then x (at_ k) else s i) * B i r) = fsum ls.length (fun i => s i * B i r) + fsum ls.length (fun i => (if i = k then x (at_ k) else 0) * B i r) := by
      rw [← fsum_add]
      apply fsum_congr
      intro i _
      by_cases hi : i = k
      · subst hi; rw [if_pos rfl, if_pos rfl, h1 i (Nat.le_refl _), F_zm, F_za]
      · rw [if_neg hi, if_neg hi, F_zm, F_az]
    rw [e, fsum_one (f := fun i => (if i = k then x (at_ k) else 0) * B i r) k hk (fun i _ hne => by rw [if_neg hne, F_zm]), if_pos rfl]
    grind
  · by_cases hik : i = k
    · subst hik
      rw [hy _ (hb.place i hk), hb.one i hk]; grind
    · rw [hy _ (hb.place i (by omega)), h3 i (by omega), hb.zero i k (by omega) hk, F_mz, F_az]
theorem Clr.dep {M0 : Mx} {m c : Nat} {B : Nat → Nat → F} {at_ : Nat → Nat} {ls : List Nat} {x : Nat → F} (hb : Bas M0 m c B at_ ls) (h : Clr M0 m c B at_ ls.length ls.length x) : Dep m M0 c ↔ ∀ r, r < m → x r = 0 := by
  obtain ⟨⟨s, _, h2⟩, h3⟩ := h
  constructor
  · rintro ⟨t, ht⟩
    have h4 : Spans m ls.length B (fun r => M0 r c) := spans_trans (B := fun j r => M0 r j) ⟨t, ht⟩ hb.to_
    obtain ⟨u, hu⟩ := h4
    have h5 : ∀ r, r < m → x r = fsum ls.length fun i => (u i - s i) * B i r := fun r hr => by
      have e1 := hu r hr
      simp only at e1
      rw [h2 r hr, e1]
      have : fsum ls.length (fun i => (u i - s i) * B i r) = fsum ls.length (fun i => u i * B i r) + (-1) * fsum ls.length (fun i => s i * B i r) := by
        rw [← fsum_mul, ← fsum_add]
        exact fsum_congr fun i _ => by grind
      rw [this]; grind
    have h6 : ∀ k, k < ls.length → u k - s k = 0 := by
      intro k
      induction k using Nat.strongRecOn with
      | _ k ih =>
        intro hk
        have e := h5 _ (hb.place k hk)
        rw [h3 k hk, fsum_one k hk, hb.one k hk, F_mo] at e
        · exact e.symm
        · intro i hi hne
          rcases Nat.lt_or_ge i k with hl | hl
          · rw [ih i hl hi, F_zm]
          · rw [hb.zero k i (by omega) hi, F_mz]
    intro r hr
    rw [h5 r hr]
    exact fsum_zero fun i hi => by rw [h6 i hi, F_zm]
  · intro hz
    have h4 : Spans m ls.length B (fun r => M0 r c) := ⟨s, fun r hr => by have := h2 r hr; rw [hz r hr] at this; grind⟩
    obtain ⟨t, ht⟩ := spans_trans h4 hb.from_
    exact ⟨t, ht⟩
theorem spans_more {m n p : Nat} {B C : Nat → Nat → F} {x : Nat → F} (h : Spans m n B x) (hnp : n ≤ p) (hBC : ∀ k r, k < n → r < m → C k r = B k r) : Spans m p C x := by
  obtain ⟨s, hs⟩ := h
  refine ⟨fun k => if k < n then s k else 0, fun r hr => ?_⟩
  rw [fsum_more hnp (fun i h1 _ => by dsimp only; rw [if_neg (by omega), F_zm]), hs r hr]
  exact fsum_congr fun i hi => by dsimp only; rw [if_pos hi, hBC i r hi hr]
theorem Bas.skip {M0 : Mx} {m c : Nat} {B : Nat → Nat → F} {at_ : Nat → Nat} {ls : List Nat} {x : Nat → F} (hb : Bas M0 m c B at_ ls) (h : Clr M0 m c B at_ ls.length ls.length x) (hz : ∀ r, r < m → x r = 0) : Bas M0 m (c + 1) B at_ ls := by
  have hd := (h.dep hb).2 hz
  obtain ⟨⟨s, _, h2⟩, h3⟩ := h
  refine ⟨fun k hk => spans_more (hb.from_ k hk) (by omega) (fun _ _ _ _ => rfl), fun j hj => ?_, hb.place, hb.one, hb.zero, fun i hi => by have := hb.lt i hi; omega, hb.inc, fun j hj => ?_⟩
  · by_cases hjc : j = c
    · subst hjc
      exact ⟨s, fun r hr => by have := h2 r hr; rw [hz r hr] at this; grind⟩
    · exact hb.to_ j (by omega)
  · by_cases hjc : j = c
    · subst hjc
      exact ⟨fun hm => by
        obtain ⟨i, hi, he⟩ := ld_mem.1 hm
        have := hb.lt i hi
        omega, fun hn => absurd hd hn⟩
    · exact hb.lead j (by omega)
theorem Bas.add {M0 : Mx} {m c p : Nat} {B C : Nat → Nat → F} {at_ at2 : Nat → Nat} {ls : List Nat} {x : Nat → F} (hb : Bas M0 m c B at_ ls) (h : Clr M0 m c B at_ ls.length ls.length x) (hp : p < m) (hx : x p ≠ 0)
    (hC : ∀ k r, k < ls.length → r < m → C k r = B k r) (hA : ∀ k, k < ls.length → at2 k = at_ k) (hC2 : ∀ r, r < m → C ls.length r = x r * inv (x p)) (hA2 : at2 ls.length = p) : Bas M0 m (c + 1) C at2 (ls ++ [c]) := by
  have hd : ¬ Dep m M0 c := fun hd => hx ((h.dep hb).1 hd p hp)
  obtain ⟨⟨s, _, h2⟩, h3⟩ := h
  have hlen : (ls ++ [c]).length = ls.length + 1 := by simp
  have hmi := mul_inv hx
  rw [show Bas M0 m (c + 1) C at2 (ls ++ [c]) = Bas M0 m (c + 1) C at2 (ls ++ [c]) from rfl]
  refine ⟨fun k hk => ?_, fun j hj => ?_, fun k hk => ?_, fun k hk => ?_, fun k i hki hi => ?_, fun i hi => ?_, fun i j hij hj => ?_, fun j hj => ?_⟩
  · rw [hlen] at hk
    rcases Nat.lt_or_ge k ls.length with h1 | h1
    · obtain ⟨t, ht⟩ := spans_more (C := fun j r => M0 r j) (hb.from_ k h1) (show c ≤ c + 1 by omega) (fun _ _ _ _ => rfl)
      exact ⟨t, fun r hr => by rw [hC k r h1 hr]; exact ht r hr⟩
    · obtain rfl : k = ls.length := by omega
      have h4 : Spans m c (fun j r => M0 r j) (fun r => fsum ls.length fun i => s i * B i r) := spans_trans ⟨s, fun r _ => rfl⟩ hb.from_
      obtain ⟨t, ht⟩ := h4
      refine ⟨fun j => if j < c then - t j * inv (x p) else inv (x p), fun r hr => ?_⟩
      rw [hC2 r hr, h2 r hr, fsum]
      dsimp only
      rw [if_neg (by omega)]
      have e := ht r hr
      simp only at e
      rw [e]
      have : fsum c (fun j => (if j < c then - t j * inv (x p) else inv (x p)) * M0 r j) = (- inv (x p)) * fsum c (fun j => t j * M0 r j) := by
        rw [← fsum_mul]
        exact fsum_congr fun j hj => by rw [if_pos hj]; grind
      rw [this]; grind
  · rw [hlen]
    by_cases hjc : j = c
    · subst hjc
      refine ⟨fun i => if i < ls.length then s i else x p, fun r hr => ?_⟩
      rw [fsum]
      dsimp only
      rw [if_neg (by omega), hC2 r hr]
      have : fsum ls.length (fun k => (if k < ls.length then s k else x p) * C k r) = fsum ls.length (fun k => s k * B k r) := fsum_congr fun k hk => by rw [if_pos hk, hC k r hk hr]
      rw [this]
      have e := h2 r hr
      generalize fsum ls.length (fun k => s k * B k r) = u at *
      generalize inv (x p) = v at *
      grind
    · exact spans_more (hb.to_ j (by omega)) (by omega) hC
  · rw [hlen] at hk
    rcases Nat.lt_or_ge k ls.length with h1 | h1
    · rw [hA k h1]; exact hb.place k h1
    · obtain rfl : k = ls.length := by omega
      rw [hA2]; exact hp
  · rw [hlen] at hk
    rcases Nat.lt_or_ge k ls.length with h1 | h1
    · rw [hA k h1, hC k _ h1 (hb.place k h1)]; exact hb.one k h1
    · obtain rfl : k = ls.length := by omega
      rw [hA2, hC2 p hp, hmi]
  · rw [hlen] at hi
    have h0 : k < ls.length := by omega
    rw [hA k h0]
    rcases Nat.lt_or_ge i ls.length with h1 | h1
    · rw [hC i _ h1 (hb.place k h0)]; exact hb.zero k i hki h1
    · obtain rfl : i = ls.length := by omega
      rw [hC2 _ (hb.place k h0), h3 k h0, F_zm]
  · rw [hlen] at hi
    rcases Nat.lt_or_ge i ls.length with h1 | h1
    · rw [ld_snoc_lt h1]; have := hb.lt i h1; omega
    · rw [ld_snoc_at (by omega)]; omega
  · rw [hlen] at hj
    rcases Nat.lt_or_ge j ls.length with h1 | h1
    · rw [ld_snoc_lt h1, ld_snoc_lt (by omega)]; exact hb.inc i j hij h1
    · rw [ld_snoc_at (show j = ls.length by omega), ld_snoc_lt (by omega)]; exact hb.lt i (by omega)
  · by_cases hjc : j = c
    · subst hjc
      exact ⟨fun _ => hd, fun _ => by simp⟩
    · rw [List.mem_append, List.mem_singleton]
      constructor
      · rintro (h1 | h1)
        · exact (hb.lead j (by omega)).1 h1
        · exact absurd h1 hjc
      · intro h1; exact .inl ((hb.lead j (by omega)).2 h1)
/-- two lists in order of the same numbers are one -/
theorem ld_ext : ∀ (n : Nat) (a b : List Nat), a.length + b.length ≤ n → (∀ i j, i < j → j < a.length → ld a i < ld a j) → (∀ i j, i < j → j < b.length → ld b i < ld b j) → (∀ x, x ∈ a ↔ x ∈ b) → a = b := by
  have srt : ∀ l : List Nat, (∀ i j, i < j → j < l.length → ld l i < ld l j) → l.Pairwise (· < ·) := fun l h => by
    rw [List.pairwise_iff_getElem]
    intro i j hi hj hij
    have := h i j hij hj
    simpa [ld, List.getElem?_eq_getElem hi, List.getElem?_eq_getElem hj] using this
  intro n a b _ ha hb hm
  have pa := srt a ha
  have pb := srt b hb
  clear ha hb
  induction a generalizing b with
  | nil =>
    cases b with
    | nil => rfl
    | cons y b => exact absurd ((hm y).2 (by simp)) (by simp)
  | cons x a ih =>
    cases b with
    | nil => exact absurd ((hm x).1 (by simp)) (by simp)
    | cons y b =>
      rw [List.pairwise_cons] at pa pb
      have hxy : x = y := by
        have h1 := (hm x).1 (by simp)
        have h2 := (hm y).2 (by simp)
        rw [List.mem_cons] at h1 h2
        rcases h1 with h1 | h1
        · exact h1
        · rcases h2 with h2 | h2
          · exact h2.symm
          · have := pa.1 y h2; have := pb.1 x h1; omega
      subst hxy
      rw [ih b (by simp_all; omega) (fun z => ?_) pa.2 pb.2]
      constructor
      · intro hz
        have := (hm z).1 (by simp [hz])
        rw [List.mem_cons] at this
        rcases this with h1 | h1
        · subst h1; have := pa.1 z hz; omega
        · exact h1
      · intro hz
        have := (hm z).2 (by simp [hz])
        rw [List.mem_cons] at this
        rcases this with h1 | h1
        · subst h1; have := pb.1 z hz; omega
        · exact h1
theorem Red.same {M0 M : Mx} {m n : Nat} {B : Nat → Nat → F} {at_ : Nat → Nat} {ls ls' : List Nat} (h : Red M0 M m (n + 1) n ls) (hb : Bas M0 m n B at_ ls') : ls = ls' := by
  refine ld_ext _ ls ls' (Nat.le_refl _) h.inc hb.inc fun x => ?_
  by_cases hx : x < n
  · rw [h.lead (by omega) hx, hb.lead x hx]
  · constructor
    · intro hm
      obtain ⟨i, hi, he⟩ := ld_mem.1 hm
      have := h.lt i hi
      omega
    · intro hm
      obtain ⟨i, hi, he⟩ := ld_mem.1 hm
      have := hb.lt i hi
      omega
end Croft
