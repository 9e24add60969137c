/- BERLEKAMP and WELCH, plainly: equations whose solutions tell the polynomial that all but a few shares have. -/
import Derived.Test.YtbgfgkegcchaoaaRefS
import Derived.Test.YtbgfgkegcchaoaaFindP
import Derived.Test.YtbgfgkegcchaoaaKeepW
namespace Go.Proofs.Ytbgfgkegcchaoaa
open Go.RowKit Croft

theorem fsum_plus (n : Nat) (f : Nat → F) : ∀ m, fsum (n + m) f = fsum n f + fsum m fun i => f (n + i)
  | 0 => by simp [fsum]
  | m + 1 => by
    show fsum (n + m) f + f (n + m) = fsum n f + (fsum m (fun i => f (n + i)) + f (n + m))
    rw [fsum_plus n f m]
    grind
def bwQ (t w : Nat) (y : Nat → F) : List F := (List.range (t + w + 1)).map y
def bwE (t w : Nat) (y : Nat → F) : List F := ((List.range w).map fun i => y (t + w + 1 + i)) ++ [1]
def bwRow (t w : Nat) (a Y : F) : List F := (List.range (t + w + 1)).map (fun i => a ^ i) ++ (((List.range w).map fun i => 0 - Y * a ^ i) ++ [Y * a ^ w])
def bwRows (t w : Nat) (l : List (Int × Int)) : List (List Int) := l.map fun s => ofFs (bwRow t w (toF s.1) (toF s.2))
theorem bwRow_length (t w : Nat) (a Y : F) : (bwRow t w a Y).length = t + 2 * w + 2 := by simp [bwRow]; omega
theorem bwRow_lo {t w : Nat} (a Y : F) {k : Nat} (h : k < t + w + 1) : co (bwRow t w a Y) k = a ^ k := by
  refine co_get ?_
  unfold bwRow
  rw [List.getElem?_append_left (by simpa using h), List.getElem?_map, List.getElem?_range h]
  rfl
theorem bwRow_mid {t w : Nat} (a Y : F) {i : Nat} (h : i < w) : co (bwRow t w a Y) (t + w + 1 + i) = 0 - Y * a ^ i := by
  refine co_get ?_
  unfold bwRow
  rw [List.getElem?_append_right (by simp), List.length_map, List.length_range, show t + w + 1 + i - (t + w + 1) = i by omega, List.getElem?_append_left (by simpa using h), List.getElem?_map, List.getElem?_range h]
  rfl
theorem bwRow_hi (t w : Nat) (a Y : F) : co (bwRow t w a Y) (t + 2 * w + 1) = Y * a ^ w := by
  refine co_get ?_
  unfold bwRow
  rw [List.getElem?_append_right (by simp; omega), List.length_map, List.length_range, List.getElem?_append_right (by simp; omega), List.length_map, List.length_range, show t + 2 * w + 1 - (t + w + 1) - w = 0 by omega]
  rfl
theorem bwQ_length (t w : Nat) (y : Nat → F) : (bwQ t w y).length = t + w + 1 := by simp [bwQ]
theorem bwE_length (t w : Nat) (y : Nat → F) : (bwE t w y).length = w + 1 := by simp [bwE]
theorem bwQ_eval (t w : Nat) (y : Nat → F) (a : F) : peval (bwQ t w y) a = fsum (t + w + 1) fun i => a ^ i * y i := by
  rw [peval_sum _ a (t + w + 1) (by rw [bwQ_length]; omega)]
  refine fsum_congr fun i hi => ?_
  rw [show co (bwQ t w y) i = y i from co_get (by unfold bwQ; rw [List.getElem?_map, List.getElem?_range hi]; rfl)]
  grind
theorem bwE_eval (t w : Nat) (y : Nat → F) (a : F) : peval (bwE t w y) a = fsum w (fun i => a ^ i * y (t + w + 1 + i)) + a ^ w := by
  unfold bwE
  rw [peval_append, List.length_map, List.length_range, peval_sum _ a w (by simp), F_om]
  refine congrArg (· + a ^ w) (fsum_congr fun i hi => ?_)
  rw [show co ((List.range w).map fun i => y (t + w + 1 + i)) i = y (t + w + 1 + i) from co_get (by rw [List.getElem?_map, List.getElem?_range hi]; rfl)]
  grind
theorem bwE_normal (t w : Nat) (y : Nat → F) : pnorm (bwE t w y) = bwE t w y := by
  refine normal_of_last _ fun a ha => ?_
  unfold bwE at ha
  rw [List.getLast?_append] at ha
  simp at ha
  rw [← ha]
  exact one_ne
theorem bw_line (t w : Nat) (y : Nat → F) (a Y : F) : fsum (t + 2 * w + 1) (fun k => co (bwRow t w a Y) k * y k) = co (bwRow t w a Y) (t + 2 * w + 1) ↔ peval (bwQ t w y) a = Y * peval (bwE t w y) a := by
  rw [show t + 2 * w + 1 = t + w + 1 + w by omega, fsum_plus, show t + w + 1 + w = t + 2 * w + 1 by omega, bwRow_hi, bwQ_eval, bwE_eval]
  rw [fsum_congr (g := fun i => a ^ i * y i) fun i hi => by rw [bwRow_lo a Y hi]]
  rw [fsum_congr (f := fun i => co (bwRow t w a Y) (t + w + 1 + i) * y (t + w + 1 + i)) (g := fun i => -Y * (a ^ i * y (t + w + 1 + i))) fun i hi => by rw [bwRow_mid a Y hi]; grind]
  rw [fsum_mul]
  generalize fsum (t + w + 1) (fun i => a ^ i * y i) = u
  generalize fsum w (fun i => a ^ i * y (t + w + 1 + i)) = v
  generalize a ^ w = z
  constructor
  · intro h
    grind
  · intro h
    grind
theorem bwRows_len (t w : Nat) (l : List (Int × Int)) : ∀ r ∈ bwRows t w l, r.length = t + 2 * w + 1 + 1 := fun r hr => by
  obtain ⟨s, _, rfl⟩ := List.mem_map.1 hr
  rw [ofFs_length, bwRow_length]
theorem bw_meets {t w : Nat} {l : List (Int × Int)} {y : Nat → F} : Meets (bwRows t w l).length (t + 2 * w + 1) (mx (bwRows t w l)) y ↔ ∀ s ∈ l, peval (bwQ t w y) (toF s.1) = toF s.2 * peval (bwE t w y) (toF s.1) := by
  constructor
  · intro h s hs
    have := of_meets h _ (List.mem_map.2 ⟨s, hs, rfl⟩)
    rw [toFs_ofFs] at this
    exact (bw_line t w y _ _).1 this
  · intro h
    refine meets_of fun r hr => ?_
    obtain ⟨s, hs, rfl⟩ := List.mem_map.1 hr
    rw [toFs_ofFs]
    exact (bw_line t w y _ _).2 (h s hs)
/-- a polynomial that all but so many shares have -/
def Fits (t w : Nat) (l : List (Int × Int)) (p : List F) : Prop := p.length ≤ t + 1 ∧ (badL p l).length ≤ w
def goods (p : List F) (l : List (Int × Int)) : List F := (l.filter fun s => decide (peval p (toF s.1) = toF s.2)).map fun s => toF s.1
theorem goods_length (p : List F) (l : List (Int × Int)) : (goods p l).length + (badL p l).length = l.length := by
  unfold goods badL
  rw [List.length_map, List.length_map]
  induction l with
  | nil => rfl
  | cons s l ih =>
    by_cases h : peval p (toF s.1) = toF s.2
    · rw [List.filter_cons_of_pos (by simpa using h), List.filter_cons_of_neg (by simpa using h), List.length_cons, List.length_cons]
      omega
    · rw [List.filter_cons_of_neg (by simpa using h), List.filter_cons_of_pos (by simpa using h), List.length_cons, List.length_cons]
      omega
theorem goods_nodup {p : List F} {l : List (Int × Int)} (hok : AtsOk l 2147483646) : (goods p l).Nodup := by
  have h := pts_nodup hok
  have e : (ptsF l).map (·.1) = l.map fun s => toF s.1 := by simp [ptsF, Function.comp_def]
  rw [e] at h
  exact h.sublist (List.Sublist.map _ List.filter_sublist)
theorem goods_mem {p : List F} {l : List (Int × Int)} {a : F} (h : a ∈ goods p l) : ∃ s ∈ l, a = toF s.1 ∧ peval p a = toF s.2 := by
  obtain ⟨s, hs, rfl⟩ := List.mem_map.1 h
  obtain ⟨h1, h2⟩ := List.mem_filter.1 hs
  exact ⟨s, h1, rfl, by simpa using h2⟩
theorem bw_forced {t w : Nat} {l : List (Int × Int)} {p : List F} {y : Nat → F} (hok : AtsOk l 2147483646) (hl : t + 1 + 2 * w ≤ l.length) (hp : Fits t w l p) (hy : ∀ s ∈ l, peval (bwQ t w y) (toF s.1) = toF s.2 * peval (bwE t w y) (toF s.1)) :
    ∀ i, co (bwQ t w y) i = co (pmulS p (bwE t w y)) i := by
  have hg := goods_length p l
  have hb := hp.2
  have hp1 := hp.1
  have hz : Zero (padd (bwQ t w y) (pscale (-1) (pmulS p (bwE t w y)))) := by
    refine roots (goods p l) _ ?_ (goods_nodup hok) fun a ha => ?_
    · rw [padd_length, pscale_length, pmulS_length, bwQ_length, bwE_length]
      split <;> omega
    · obtain ⟨s, hs, rfl, he⟩ := goods_mem ha
      rw [peval_add, peval_scale, peval_mulS, hy s hs, he]
      grind
  intro i
  have h := Zero.iff_co.1 hz i
  rw [co_add, co_scale] at h
  grind
theorem baseN_top (xs : List F) : co (baseN xs) xs.length = 1 := by
  have key : ∀ n (xs : List F), xs.length = n → co (baseN xs) xs.length = 1 := by
    intro n
    induction n with
    | zero =>
      intro xs hx
      obtain rfl := List.length_eq_zero_iff.1 hx
      rfl
    | succ n ih =>
      intro xs hx
      obtain ⟨ys, x, rfl⟩ : ∃ ys x, xs = ys ++ [x] := ⟨xs.dropLast, xs.getLast (by intro h; subst h; simp at hx), (List.dropLast_concat_getLast _).symm⟩
      have hy : ys.length = n := by simpa using hx
      rw [baseN_snoc, co_mulS, List.length_append, List.length_singleton, fsum_one ys.length (by omega) fun i hi hne => ?_]
      · rw [ih ys hy, show ys.length + 1 - ys.length = 1 by omega]
        simp [co, F_mo]
      · rcases Nat.lt_or_ge i ys.length with h | h
        · rw [co_of_le (l := [-x, 1]) (by simp; omega), F_mz]
        · rw [co_of_le (l := baseN ys) (by rw [baseN_length]; omega), F_zm]
  exact key _ xs rfl
theorem bw_exists {t w : Nat} {l : List (Int × Int)} {p : List F} (hp : Fits t w l p) : ∃ y : Nat → F, ∀ s ∈ l, peval (bwQ t w y) (toF s.1) = toF s.2 * peval (bwE t w y) (toF s.1) := by
  obtain ⟨hp1, hb⟩ := hp
  obtain ⟨B, hB⟩ : ∃ B, B = (badL p l).map toF ++ List.replicate (w - (badL p l).length) 0 := ⟨_, rfl⟩
  have hBl : B.length = w := by rw [hB]; simp; omega
  obtain ⟨E, hE⟩ : ∃ E, E = baseN B := ⟨_, rfl⟩
  have hEl : E.length = w + 1 := by rw [hE, baseN_length, hBl]
  have hEt : co E w = 1 := by rw [hE, ← hBl]; exact baseN_top B
  refine ⟨fun k => if k < t + w + 1 then co (pmulS p E) k else co E (k - (t + w + 1)), fun s hs => ?_⟩
  have eQ : ∀ i, co (bwQ t w fun k => if k < t + w + 1 then co (pmulS p E) k else co E (k - (t + w + 1))) i = co (pmulS p E) i := fun i => by
    rcases Nat.lt_or_ge i (t + w + 1) with h | h
    · rw [show co (bwQ t w _) i = _ from co_get (by unfold bwQ; rw [List.getElem?_map, List.getElem?_range h]; rfl)]
      exact if_pos h
    · rw [co_of_le (by rw [bwQ_length]; exact h), co_of_le]
      rw [pmulS_length, hEl]
      split <;> omega
  have eE : ∀ i, co (bwE t w fun k => if k < t + w + 1 then co (pmulS p E) k else co E (k - (t + w + 1))) i = co E i := fun i => by
    unfold bwE
    rcases Nat.lt_trichotomy i w with h | h | h
    · rw [co_append_lt (by simpa using h)]
      refine (co_get (a := co E i) ?_)
      rw [List.getElem?_map, List.getElem?_range h]
      simp [show ¬ (t + w + 1 + i < t + w + 1) by omega]
    · subst h
      rw [co_append_at (by simp), hEt]
    · rw [co_of_le (by simp; omega), co_of_le (by omega)]
  rw [peval_ext eQ, peval_ext eE, peval_mulS]
  by_cases hg : peval p (toF s.1) = toF s.2
  · rw [hg]
  · have h0 : peval E (toF s.1) = 0 := by
      rw [hE, baseN_zero, hB]
      refine List.mem_append.2 (.inl (List.mem_map.2 ⟨s.1, ?_, rfl⟩))
      unfold badL
      exact List.mem_map.2 ⟨s, List.mem_filter.2 ⟨hs, by simpa using hg⟩, rfl⟩
    rw [h0, F_mz, F_mz]
theorem bw_div {t w : Nat} {l : List (Int × Int)} {p Q R : List F} {y : Nat → F} (hok : AtsOk l 2147483646) (hl : t + 1 + 2 * w ≤ l.length) (hp : Fits t w l p) (hy : ∀ s ∈ l, peval (bwQ t w y) (toF s.1) = toF s.2 * peval (bwE t w y) (toF s.1))
    (hd : DivOut (pnorm (bwQ t w y)) (pnorm (bwE t w y)) Q R) : Q = pnorm p ∧ R = [] := by
  rw [bwE_normal] at hd
  have hEne : bwE t w y ≠ [] := by unfold bwE; simp
  refine div_unique hEne (bwE_normal t w y) hd.nq hd.nr (pnorm_norm p) rfl hd.short (by rw [bwE_length]; simp) ?_
  rw [hd.eq]
  refine pnorm_ext _ _ fun i => ?_
  rw [padd_nil, bw_forced hok hl hp hy, co_mulS, co_mulS]
  exact fsum_congr fun i _ => by rw [pnorm_co]
theorem badL_norm (p : List F) (l : List (Int × Int)) : badL (pnorm p) l = badL p l := by
  unfold badL
  simp only [pnorm_eval]
theorem Fits.norm {t w : Nat} {l : List (Int × Int)} {p : List F} (h : Fits t w l p) : Fits t w l (pnorm p) := ⟨Nat.le_trans (pnorm_length p) h.1, by rw [badL_norm]; exact h.2⟩
/-- two that fit are one -/
theorem Fits.one {t w : Nat} {l : List (Int × Int)} {p q : List F} (hok : AtsOk l 2147483646) (hl : t + 1 + 2 * w ≤ l.length) (hp : Fits t w l p) (hq : Fits t w l q) : pnorm p = pnorm q := by
  obtain ⟨y, hy⟩ := bw_exists hp
  have h1 := bw_forced hok hl hp hy
  have h2 := bw_forced hok hl hq hy
  have hEne : bwE t w y ≠ [] := by unfold bwE; simp
  refine (div_unique (R := []) (R' := []) hEne (bwE_normal t w y) (pnorm_norm p) rfl (pnorm_norm q) rfl (by rw [bwE_length]; simp) (by rw [bwE_length]; simp) ?_).1
  refine pnorm_ext _ _ fun i => ?_
  rw [padd_nil, padd_nil]
  have e : ∀ r : List F, co (pmulS (pnorm r) (bwE t w y)) i = co (pmulS r (bwE t w y)) i := fun r => by
    rw [co_mulS, co_mulS]
    exact fsum_congr fun i _ => by rw [pnorm_co]
  rw [e, e, ← h1, ← h2]
end Go.Proofs.Ytbgfgkegcchaoaa
