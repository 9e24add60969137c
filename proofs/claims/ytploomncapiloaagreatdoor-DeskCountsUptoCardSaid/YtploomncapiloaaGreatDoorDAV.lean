/- Parts of the proof, put together by a program: DecW. No condition. -/
import Derived.Test.YtploomncapiloaaGreatDoorDAU
namespace Go.Proofs.YtploomncapiloaaGreatDoor
open Go.RowKit Croft
theorem fsum_plus (n : Nat) (f : Nat → F) : ∀ m, fsum (n + m) f = fsum n f + fsum m fun i => f (n + i)
  | 0 => by simp [fsum]
  | m + 1 => by
    show fsum (n + m) f + f (n + m) = fsum n f + (fsum m (fun i => f (n + i)) + f (n + m))
    rw [fsum_plus n f m]
    grind
def bwQ (t w : Nat) (y : Nat → F) : List F := (List.range (t + w + 1)).map y
def bwE (t w : Nat) (y : Nat → F) : List F := ((List.range w).map fun i => y (t + w + 1 + i)) ++ [1]
def bwRow (t w : Nat) (a Y : F) : List F := (List.range (t + w + 1)).map (fun i => a ^ i) ++ (((List.range w).map fun i => 0 - Y * a ^ i) ++ [Y * a ^ w])
def bwRows (t w : Nat) (l : List (Int × Int)) : List (List Int) := l.map fun s => ofFs (bwRow t w (toF s.1) (toF s.2))
theorem bwRow_length (t w : Nat) (a Y : F) : (bwRow t w a Y).length = t + 2 * w + 2 := by simp [bwRow]; omega
theorem bwRow_lo {t w : Nat} (a Y : F) {k : Nat} (h : k < t + w + 1) : co (bwRow t w a Y) k = a ^ k := by
  refine co_get ?_
  unfold bwRow
  rw [List.getElem?_append_left (by simpa using h), List.getElem?_map, List.getElem?_range h]
  rfl
theorem bwRow_mid {t w : Nat} (a Y : F) {i : Nat} (h : i < w) : co (bwRow t w a Y) (t + w + 1 + i) = 0 - Y * a ^ i := by
  refine co_get ?_
  unfold bwRow
  rw [List.getElem?_append_right (by simp), List.length_map, List.length_range, show t + w + 1 + i - (t + w + 1) = i by omega, List.getElem?_append_left (by simpa using h), List.getElem?_map, List.getElem?_range h]
  rfl
theorem bwRow_hi (t w : Nat) (a Y : F) : co (bwRow t w a Y) (t + 2 * w + 1) = Y * a ^ w := by
  refine co_get ?_
  unfold bwRow
  rw [List.getElem?_append_right (by simp; omega), List.length_map, List.length_range, List.getElem?_append_right (by simp; omega), List.length_map, List.length_range, show t + 2 * w + 1 - (t + w + 1) - w = 0 by omega]
  rfl
theorem bwQ_length (t w : Nat) (y : Nat → F) : (bwQ t w y).length = t + w + 1 := by simp [bwQ]
theorem bwE_length (t w : Nat) (y : Nat → F) : (bwE t w y).length = w + 1 := by simp [bwE]
theorem bwQ_eval (t w : Nat) (y : Nat → F) (a : F) : peval (bwQ t w y) a = fsum (t + w + 1) fun i => a ^ i * y i := by
  rw [peval_sum _ a (t + w + 1) (by rw [bwQ_length]; omega)]
  refine fsum_congr fun i hi => ?_
  rw [show co (bwQ t w y) i = y i from co_get (by unfold bwQ; rw [List.getElem?_map, List.getElem?_range hi]; rfl)]
  grind
theorem bwE_eval (t w : Nat) (y : Nat → F) (a : F) : peval (bwE t w y) a = fsum w (fun i => a ^ i * y (t + w + 1 + i)) + a ^ w := by
  unfold bwE
  rw [peval_append, List.length_map, List.length_range, peval_sum _ a w (by simp), F_om]
  refine congrArg (· + a ^ w) (fsum_congr fun i hi => ?_)
  rw [show co ((List.range w).map fun i => y (t + w + 1 + i)) i = y (t + w + 1 + i) from co_get (by rw [List.getElem?_map, List.getElem?_range hi]; rfl)]
  grind
theorem bwE_normal (t w : Nat) (y : Nat → F) : pnorm (bwE t w y) = bwE t w y := by
  refine normal_of_last _ fun a ha => ?_
  unfold bwE at ha
  rw [List.getLast?_append] at ha
  simp at ha
  rw [← ha]
  exact one_ne
theorem bw_line (t w : Nat) (y : Nat → F) (a Y : F) : fsum (t + 2 * w + 1) (fun k => co (bwRow t w a Y) k * y k) = co (bwRow t w a Y) (t + 2 * w + 1) ↔ peval (bwQ t w y) a = Y * peval (bwE t w y) a := by
  rw [show t + 2 * w + 1 = t + w + 1 + w by omega, fsum_plus, show t + w + 1 + w = t + 2 * w + 1 by omega, bwRow_hi, bwQ_eval, bwE_eval]
  rw [fsum_congr (g := fun i => a ^ i * y i) fun i hi => by rw [bwRow_lo a Y hi]]
  rw [fsum_congr (f := fun i => co (bwRow t w a Y) (t + w + 1 + i) * y (t + w + 1 + i)) (g := fun i => -Y * (a ^ i * y (t + w + 1 + i))) fun i hi => by rw [bwRow_mid a Y hi]; grind]
  rw [fsum_mul]
  generalize fsum (t + w + 1) (fun i => a ^ i * y i) = u
  generalize fsum w (fun i => a ^ i * y (t + w + 1 + i)) = v
  generalize a ^ w = z
  constructor
  · intro h
    grind
  · intro h
    grind
theorem bwRows_len (t w : Nat) (l : List (Int × Int)) : ∀ r ∈ bwRows t w l, r.length = t + 2 * w + 1 + 1 := fun r hr => by
  obtain ⟨s, _, rfl⟩ := List.mem_map.1 hr
  rw [ofFs_length, bwRow_length]
theorem bw_meets {t w : Nat} {l : List (Int × Int)} {y : Nat → F} : Meets (bwRows t w l).length (t + 2 * w + 1) (mx (bwRows t w l)) y ↔ ∀ s ∈ l, peval (bwQ t w y) (toF s.1) = toF s.2 * peval (bwE t w y) (toF s.1) := by
  constructor
  · intro h s hs
    have := of_meets h _ (List.mem_map.2 ⟨s, hs, rfl⟩)
    rw [toFs_ofFs] at this
    exact (bw_line t w y _ _).1 this
  · intro h
    refine meets_of fun r hr => ?_
    obtain ⟨s, hs, rfl⟩ := List.mem_map.1 hr
    rw [toFs_ofFs]
    exact (bw_line t w y _ _).2 (h s hs)
def Fits (t w : Nat) (l : List (Int × Int)) (p : List F) : Prop := p.length ≤ t + 1 ∧ (badL p l).length ≤ w
def goods (p : List F) (l : List (Int × Int)) : List F := (l.filter fun s => decide (peval p (toF s.1) = toF s.2)).map fun s => toF s.1
theorem goods_length (p : List F) (l : List (Int × Int)) : (goods p l).length + (badL p l).length = l.length := by
  unfold goods badL
  rw [List.length_map, List.length_map]
  induction l with
  | nil => rfl
  | cons s l ih =>
    by_cases h : peval p (toF s.1) = toF s.2
    · rw [List.filter_cons_of_pos (by simpa using h), List.filter_cons_of_neg (by simpa using h), List.length_cons, List.length_cons]
      omega
    · rw [List.filter_cons_of_neg (by simpa using h), List.filter_cons_of_pos (by simpa using h), List.length_cons, List.length_cons]
      omega
theorem goods_nodup {p : List F} {l : List (Int × Int)} (hok : AtsOk l 2147483646) : (goods p l).Nodup := by
  have h := pts_nodup hok
  have e : (ptsF l).map (·.1) = l.map fun s => toF s.1 := by simp [ptsF, Function.comp_def]
  rw [e] at h
  exact h.sublist (List.Sublist.map _ List.filter_sublist)
theorem goods_mem {p : List F} {l : List (Int × Int)} {a : F} (h : a ∈ goods p l) : ∃ s ∈ l, a = toF s.1 ∧ peval p a = toF s.2 := by
  obtain ⟨s, hs, rfl⟩ := List.mem_map.1 h
  obtain ⟨h1, h2⟩ := List.mem_filter.1 hs
  exact ⟨s, h1, rfl, by simpa using h2⟩
theorem bw_forced {t w : Nat} {l : List (Int × Int)} {p : List F} {y : Nat → F} (hok : AtsOk l 2147483646) (hl : t + 1 + 2 * w ≤ l.length) (hp : Fits t w l p) (hy : ∀ s ∈ l, peval (bwQ t w y) (toF s.1) = toF s.2 * peval (bwE t w y) (toF s.1)) :
    ∀ i, co (bwQ t w y) i = co (pmulS p (bwE t w y)) i := by
  have hg := goods_length p l
  have hb := hp.2
  have hp1 := hp.1
  have hz : Zero (padd (bwQ t w y) (pscale (-1) (pmulS p (bwE t w y)))) := by
    refine roots (goods p l) _ ?_ (goods_nodup hok) fun a ha => ?_
    · rw [padd_length, pscale_length, pmulS_length, bwQ_length, bwE_length]
      split <;> omega
    · obtain ⟨s, hs, rfl, he⟩ := goods_mem ha
      rw [peval_add, peval_scale, peval_mulS, hy s hs, he]
      grind
  intro i
  have h := Zero.iff_co.1 hz i
  rw [co_add, co_scale] at h
  grind
theorem baseN_top (xs : List F) : co (baseN xs) xs.length = 1 := by
  have key : ∀ n (xs : List F), xs.length = n → co (baseN xs) xs.length = 1 := by
    intro n
    induction n with
    | zero =>
      intro xs hx
      obtain rfl := List.length_eq_zero_iff.1 hx
      rfl
    | succ n ih =>
      intro xs hx
      obtain ⟨ys, x, rfl⟩ : ∃ ys x, xs = ys ++ [x] := ⟨xs.dropLast, xs.getLast (by intro h; subst h; simp at hx), (List.dropLast_concat_getLast _).symm⟩
      have hy : ys.length = n := by simpa using hx
      rw [baseN_snoc, co_mulS, List.length_append, List.length_singleton, fsum_one ys.length (by omega) fun i hi hne => ?_]
      · rw [ih ys hy, show ys.length + 1 - ys.length = 1 by omega]
        simp [co, F_mo]
      · rcases Nat.lt_or_ge i ys.length with h | h
        · rw [co_of_le (l := [-x, 1]) (by simp; omega), F_mz]
        · rw [co_of_le (l := baseN ys) (by rw [baseN_length]; omega), F_zm]
  exact key _ xs rfl
theorem bw_exists {t w : Nat} {l : List (Int × Int)} {p : List F} (hp : Fits t w l p) : ∃ y : Nat → F, ∀ s ∈ l, peval (bwQ t w y) (toF s.1) = toF s.2 * peval (bwE t w y) (toF s.1) := by
  obtain ⟨hp1, hb⟩ := hp
  obtain ⟨B, hB⟩ : ∃ B, B = (badL p l).map toF ++ List.replicate (w - (badL p l).length) 0 := ⟨_, rfl⟩
  have hBl : B.length = w := by rw [hB]; simp; omega
  obtain ⟨E, hE⟩ : ∃ E, E = baseN B := ⟨_, rfl⟩
  have hEl : E.length = w + 1 := by rw [hE, baseN_length, hBl]
  have hEt : co E w = 1 := by rw [hE, ← hBl]; exact baseN_top B
  refine ⟨fun k => if k < t + w + 1 then co (pmulS p E) k else co E (k - (t + w + 1)), fun s hs => ?_⟩
  have eQ : ∀ i, co (bwQ t w fun k => if k < t + w + 1 then co (pmulS p E) k else co E (k - (t + w + 1))) i = co (pmulS p E) i := fun i => by
    rcases Nat.lt_or_ge i (t + w + 1) with h | h
    · rw [show co (bwQ t w _) i = _ from co_get (by unfold bwQ; rw [List.getElem?_map, List.getElem?_range h]; rfl)]
      exact if_pos h
    · rw [co_of_le (by rw [bwQ_length]; exact h), co_of_le]
      rw [pmulS_length, hEl]
      split <;> omega
  have eE : ∀ i, co (bwE t w fun k => if k < t + w + 1 then co (pmulS p E) k else co E (k - (t + w + 1))) i = co E i := fun i => by
    unfold bwE
    rcases Nat.lt_trichotomy i w with h | h | h
    · rw [co_append_lt (by simpa using h)]
      refine (co_get (a := co E i) ?_)
      rw [List.getElem?_map, List.getElem?_range h]
      simp [show ¬ (t + w + 1 + i < t + w + 1) by omega]
    · subst h
      rw [co_append_at (by simp), hEt]
    · rw [co_of_le (by simp; omega), co_of_le (by omega)]
  rw [peval_ext eQ, peval_ext eE, peval_mulS]
  by_cases hg : peval p (toF s.1) = toF s.2
  · rw [hg]
  · have h0 : peval E (toF s.1) = 0 := by
      rw [hE, baseN_zero, hB]
      refine List.mem_append.2 (.inl (List.mem_map.2 ⟨s.1, ?_, rfl⟩))
      unfold badL
      exact List.mem_map.2 ⟨s, List.mem_filter.2 ⟨hs, by simpa using hg⟩, rfl⟩
    rw [h0, F_mz, F_mz]
theorem bw_div {t w : Nat} {l : List (Int × Int)} {p Q R : List F} {y : Nat → F} (hok : AtsOk l 2147483646) (hl : t + 1 + 2 * w ≤ l.length) (hp : Fits t w l p) (hy : ∀ s ∈ l, peval (bwQ t w y) (toF s.1) = toF s.2 * peval (bwE t w y) (toF s.1))
    (hd : DivOut (pnorm (bwQ t w y)) (pnorm (bwE t w y)) Q R) : Q = pnorm p ∧ R = [] := by
  rw [bwE_normal] at hd
  have hEne : bwE t w y ≠ [] := by unfold bwE; simp
  refine div_unique hEne (bwE_normal t w y) hd.nq hd.nr (pnorm_norm p) rfl hd.short (by rw [bwE_length]; simp) ?_
  rw [hd.eq]
  refine pnorm_ext _ _ fun i => ?_
  rw [padd_nil, bw_forced hok hl hp hy, co_mulS, co_mulS]
  exact fsum_congr fun i _ => by rw [pnorm_co]
theorem badL_norm (p : List F) (l : List (Int × Int)) : badL (pnorm p) l = badL p l := by
  unfold badL
  simp only [pnorm_eval]
theorem Fits.one {t w : Nat} {l : List (Int × Int)} {p q : List F} (hok : AtsOk l 2147483646) (hl : t + 1 + 2 * w ≤ l.length) (hp : Fits t w l p) (hq : Fits t w l q) : pnorm p = pnorm q := by
  obtain ⟨y, hy⟩ := bw_exists hp
  have h1 := bw_forced hok hl hp hy
  have h2 := bw_forced hok hl hq hy
  have hEne : bwE t w y ≠ [] := by unfold bwE; simp
  refine (div_unique (R := []) (R' := []) hEne (bwE_normal t w y) (pnorm_norm p) rfl (pnorm_norm q) rfl (by rw [bwE_length]; simp) (by rw [bwE_length]; simp) ?_).1
  refine pnorm_ext _ _ fun i => ?_
  rw [padd_nil, padd_nil]
  have e : ∀ r : List F, co (pmulS (pnorm r) (bwE t w y)) i = co (pmulS r (bwE t w y)) i := fun r => by
    rw [co_mulS, co_mulS]
    exact fsum_congr fun i _ => by rw [pnorm_co]
  rw [e, e, ← h1, ← h2]
def bwLo (m : Nat) (a : F) : List F := (List.range m).map fun i => a ^ i
def bwMid (m : Nat) (a Y : F) (p : Nat) : List F := bwLo m a ++ (List.range p).map fun i => 0 - Y * a ^ i
theorem bwLo_next (m : Nat) (a : F) : ofFs (bwLo (m + 1) a) = ofFs (bwLo m a) ++ [ofF (a ^ m)] := by simp [bwLo, ofFs, List.range_succ]
theorem bwMid_next (m : Nat) (a Y : F) (p : Nat) : ofFs (bwMid m a Y (p + 1)) = ofFs (bwMid m a Y p) ++ [ofF (0 - Y * a ^ p)] := by simp [bwMid, ofFs, List.range_succ]
theorem bwMid_zero (m : Nat) (a Y : F) : bwMid m a Y 0 = bwLo m a := by simp [bwMid]
theorem bwRow_end (t w : Nat) (a Y : F) : ofFs (bwRow t w a Y) = ofFs (bwMid (t + w + 1) a Y w) ++ [ofF (Y * a ^ w)] := by simp [bwRow, bwMid, bwLo, ofFs]
theorem fpow_nat (a : F) (n : Nat) : fpow a (n : Int) = a ^ n := by unfold fpow; rw [Int.toNat_natCast]
theorem bwRows_next {t w : Nat} {l : List (Int × Int)} {k : Nat} {a y : Int} (h : l[k]? = some (a, y)) : bwRows t w (l.take k) ++ [ofFs (bwRow t w (toF a) (toF y))] = bwRows t w (l.take (k + 1)) := by
  unfold bwRows
  rw [List.take_add_one, h, List.map_append]
  rfl
theorem bwRows_length (t w : Nat) (l : List (Int × Int)) : (bwRows t w l).length = l.length := by simp [bwRows]
set_option maxRecDepth 100000 in
set_option maxHeartbeats 2000000 in
theorem dEquations_any (t wq : Nat) (va : Value) (l : List (Int × Int)) (w : World) (h1 : IsShares w va l) (ht : t ≤ 4) (hwq : wq ≤ 4) (hat : ∀ s ∈ l, 0 ≤ s.1) (h20 : l.length ≤ 20) :
    Calls Tryz.prog 196 #[.int .i64 t, .int .i64 wq, va] w fun e w' => ∃ v vs, e = .returned v ∧ Grid w' w.heap.size v vs (bwRows t wq l) ∧ Below w.heap.size w w' := by
  have KA := Lib.hid h1
  have HAT := Lib.hid hat
  suffices hgoal : ∀ Post : Ending → World → Prop, (∀ w' v vs, Grid w' w.heap.size v vs (bwRows t wq l) → Below w.heap.size w w' → Post (.returned v) w') → Calls Tryz.prog 196 #[.int .i64 t, .int .i64 wq, va] w Post from hgoal _ fun w' v vs h h2 => ⟨v, vs, rfl, h, h2⟩
  intro Post hpo
  have HP := Lib.hid hpo
  obtain ⟨A1, c1, rfl, hc1, hm1, hl1, hu1, hr1⟩ := h1
  clear hu1 hr1 hm1 hpo hat
  obtain ⟨m, hm⟩ : ∃ m, m = t + wq + 1 := ⟨_, rfl⟩
  have hm9 : m ≤ 9 := by omega
  have HM := Lib.hid hm
  have hmi : (t : Int) + (wq : Int) + 1 = (m : Int) := by omega
  clear hm
  go_enter Tryz.func196, Tryz.ntmps196
  go_wp2_with fail
  go_loopw [7, 16] (fun v i wr => ∃ (k : Nat) (vs : List Value), k ≤ l.length ∧ i = .int .i64 k ∧ Grid wr w.heap.size v vs (bwRows t wq (l.take k)) ∧ Below w.heap.size w wr) (fun _ i _ => l.length - (intOf i).toNat)
  case atStart => exact ⟨0, [], Nat.zero_le _, rfl, Grid.nil _ _, Below.refl _ _⟩
  case round =>
    obtain ⟨k, vs, hk, rfl, hgr, hbel⟩ := hrel
    have KG := Lib.hid hgr
    have BEL := Lib.hid hbel
    have hsz := hbel.size
    clear hgr hbel
    by_cases hlt : k < l.length
    · obtain ⟨A, c, hA, _, _, _, hu, hr⟩ := KA.out.below BEL.out
      injection hA with hA1 hA2 hA3
      subst hA1 hA3
      clear hA2
      obtain ⟨b1, o1, a0, y0, rfl, hb1, hgk, hia, huy, hca, hcb⟩ := share_at hr hu hlt
      have HGK := Lib.hid hgk
      have hat0 : 0 ≤ a0 := HAT.out _ (List.mem_of_getElem? hgk)
      have hua : U64 a0 := ⟨hat0, by have := hia.2; omega⟩
      have hwa : IntKind.u64.wrap a0 = a0 := by rw [IntKind.wrap_u64]; exact Int.emod_eq_of_lt hua.1 (by have := hua.2; omega)
      have BX := Lib.hid (Box.new wr 71 [.int .i64 a0, .int .u64 y0])
      have B2 := Lib.hid (BEL.out.alloc hsz (.cells #[.int .i64 a0, .int .u64 y0] 71))
      have KG2 := Lib.hid (KG.out.alloc (.cells #[.int .i64 a0, .int .u64 y0] 71))
      have hs2 : (wr.alloc (.cells #[.int .i64 a0, .int .u64 y0] 71)).heap.size = wr.heap.size + 1 := size_alloc _ _
      clear hr hu hgk hb1 KG hia
      go_upto_region 6 with fail
      obtain ⟨w2, hw2⟩ : ∃ w2, w2 = wr.alloc (.cells #[.int .i64 a0, .int .u64 y0] 71) := ⟨_, rfl⟩
      replace BX := Lib.hid (show Box w2 wr.heap.size 71 [.int .i64 a0, .int .u64 y0] by rw [hw2]; exact BX.out)
      rw [← hw2] at B2 KG2 hs2 ⊢
      obtain ⟨cb, hcb2⟩ : ∃ cb, cb = wr.heap.size := ⟨_, rfl⟩
      rw [← hcb2] at BX ⊢
      have hcb3 : cb < w2.heap.size := by omega
      clear hw2 hcb2 hca hcb hs2
      go_wp2_with fail
      go_loopw [11, 27] (fun v i wx => ∃ p : Nat, p ≤ m ∧ i = .int .i64 p ∧ OwnNums wx w2.heap.size v (ofFs (bwLo p (toF a0))) ∧ Below w2.heap.size w2 wx) (fun _ i _ => m - (intOf i).toNat)
      case atStart => exact ⟨0, Nat.zero_le _, rfl, OwnNums.nil _ _, Below.refl _ _⟩
      case round =>
        obtain ⟨p, hp, rfl, hown, hbx⟩ := hrel
        have KO := Lib.hid hown
        have BQ := Lib.hid hbx
        have hsq := hbx.size
        clear hown hbx
        by_cases hlp : p < m
        · have hup : U64 (p : Int) := ⟨by omega, by omega⟩
          have hwp : IntKind.u64.wrap (p : Int) = (p : Int) := by rw [IntKind.wrap_u64]; exact Int.emod_eq_of_lt hup.1 (by have := hup.2; omega)
          have HOL := Lib.hid (show (ofFs (bwLo p (toF a0))).length + 1 ≤ 17592186043904 by simp [bwLo, ofFs]; omega)
          go_wp2_with fail
          refine (fPow_any _ _ _ hua.1 hup).mono ?_
          rintro e w' ⟨rfl, rfl⟩
          rw [fpow_nat]
          try dsimp only
          go_wp2_with (at_builtin; go_loud (refine wpList_push rfl _ _ rfl w2.heap.size _ _ (ofF (toF a0 ^ p)) wr.heap.size 1 rfl (KO.out.alloc _) rfl (new_cell _ _ _) (U64.of_ofF _) HOL.out (by rw [size_alloc]; omega) ?_))
          intro v5 w5 ho5 hb5
          have K5 := Lib.hid (show OwnNums w5 w2.heap.size v5 (ofFs (bwLo (p + 1) (toF a0))) by rw [bwLo_next]; exact ho5)
          have B5 := Lib.hid ((BQ.out.alloc hsq (.cells #[.int .u64 (ofF (toF a0 ^ p))] 67)).trans hb5)
          clear ho5 hb5
          go_wp2_with fail
          exact ⟨⟨p + 1, by omega, by go_num, K5.out, B5.out⟩, by simp [intOf] <;> omega⟩
        · obtain rfl : p = m := by omega
          go_wp2_with fail
          have KO2 := Lib.hid (show OwnNums wr w2.heap.size _ (ofFs (bwMid p (toF a0) (toF y0) 0)) by rw [bwMid_zero]; exact KO.out)
          clear KO
          go_loopw [11, 39] (fun v i wx => ∃ q : Nat, q ≤ wq ∧ i = .int .i64 q ∧ OwnNums wx w2.heap.size v (ofFs (bwMid p (toF a0) (toF y0) q)) ∧ Below w2.heap.size w2 wx) (fun _ i _ => wq - (intOf i).toNat)
          case atStart => exact ⟨0, Nat.zero_le _, rfl, KO2.out, BQ.out⟩
          case round =>
            obtain ⟨q, hq, rfl, hown, hbx⟩ := hrel
            clear KO2 BQ hsq
            have KO := Lib.hid hown
            have BQ := Lib.hid hbx
            have hsq := hbx.size
            have BXq := Lib.hid (BX.out.under hbx hcb3)
            clear hown hbx
            have hy := BXq.out.cell (i := 1) rfl
            by_cases hlq : q < wq
            · have huq : U64 (q : Int) := ⟨by omega, by omega⟩
              have hwq2 : IntKind.u64.wrap (q : Int) = (q : Int) := by rw [IntKind.wrap_u64]; exact Int.emod_eq_of_lt huq.1 (by have := huq.2; omega)
              have HOL := Lib.hid (show (ofFs (bwMid p (toF a0) (toF y0) q)).length + 1 ≤ 17592186043904 by simp [bwMid, bwLo, ofFs]; omega)
              go_wp2_with fail
              refine wp_region_quiet_tail_from 1 9 (by kernel_rfl) (by kernel_rfl) (fun _ _ _ _ _ h => h) ?_
              simp only [List.take_succ_cons, List.take_zero, List.drop_succ_cons, List.drop_zero, putAll, moved]
              simp [Act.put, Act.eval]
              repeat (go_big_quiet_step ((first | exact quietL (fPow_any _ _ _ hua.1 huq) | exact quietL (fMul_any _ _ _ huy.1 (ofF_nonneg _)) | exact quietL (fSub_any _ _ _ (by omega) (ofF_nonneg _)))))
              refine wpQuiet_nil ?_
              intro nq
              have hx : ofF (toF 0 - toF (ofF (toF y0 * toF (ofF (fpow (toF a0) (q : Int)))))) = ofF (0 - toF y0 * toF a0 ^ q) := by rw [toF_ofF, toF_ofF, fpow_nat, toF_zero]
              rw [hx]
              obtain ⟨wz, hwz⟩ : ∃ wz, wz = wr.drewN nq := ⟨_, rfl⟩
              have KO2 := Lib.hid (show OwnNums wz w2.heap.size _ (ofFs (bwMid p (toF a0) (toF y0) q)) by rw [hwz]; exact KO.out.drewN nq)
              have BQ2 := Lib.hid (show Below w2.heap.size w2 wz by rw [hwz]; exact below_drewN BQ.out nq)
              have hsq2 : w2.heap.size ≤ wz.heap.size := by rw [hwz]; exact hsq
              rw [← hwz]
              clear hwz hy hx
              go_wp2_with (at_builtin; go_loud (refine wpList_push rfl _ _ rfl w2.heap.size _ _ (ofF (0 - toF y0 * toF a0 ^ q)) wz.heap.size 1 rfl (KO2.out.alloc _) rfl (new_cell _ _ _) (U64.of_ofF _) HOL.out (by rw [size_alloc]; omega) ?_))
              intro v5 w5 ho5 hb5
              have K5 := Lib.hid (show OwnNums w5 w2.heap.size v5 (ofFs (bwMid p (toF a0) (toF y0) (q + 1))) by rw [bwMid_next]; exact ho5)
              have B5 := Lib.hid ((BQ2.out.alloc hsq2 (.cells #[.int .u64 (ofF (0 - toF y0 * toF a0 ^ q))] 67)).trans hb5)
              clear ho5 hb5
              go_wp2_with fail
              exact ⟨⟨q + 1, by omega, by go_num, K5.out, B5.out⟩, by simp [intOf] <;> omega⟩
            · obtain rfl : q = wq := by omega
              have huq : U64 (q : Int) := ⟨by omega, by omega⟩
              have hwq2 : IntKind.u64.wrap (q : Int) = (q : Int) := by rw [IntKind.wrap_u64]; exact Int.emod_eq_of_lt huq.1 (by have := huq.2; omega)
              have HOL := Lib.hid (show (ofFs (bwMid p (toF a0) (toF y0) q)).length + 1 ≤ 17592186043904 by simp [bwMid, bwLo, ofFs]; omega)
              go_wp2_with fail
              refine wp_region_quiet_tail_from 2 9 (by kernel_rfl) (by kernel_rfl) (fun _ _ _ _ _ h => h) ?_
              simp only [List.take_succ_cons, List.take_zero, List.drop_succ_cons, List.drop_zero, putAll, moved]
              simp [Act.put, Act.eval]
              repeat (go_big_quiet_step ((first | exact quietL (fPow_any _ _ _ hua.1 huq) | exact quietL (fMul_any _ _ _ huy.1 (ofF_nonneg _)))))
              refine wpQuiet_nil ?_
              intro nq
              have hx : ofF (toF y0 * toF (ofF (fpow (toF a0) (q : Int)))) = ofF (toF y0 * toF a0 ^ q) := by rw [toF_ofF, fpow_nat]
              rw [hx]
              obtain ⟨wz, hwz⟩ : ∃ wz, wz = wr.drewN nq := ⟨_, rfl⟩
              have KO2 := Lib.hid (show OwnNums wz w2.heap.size _ (ofFs (bwMid p (toF a0) (toF y0) q)) by rw [hwz]; exact KO.out.drewN nq)
              have BQ2 := Lib.hid (show Below w2.heap.size w2 wz by rw [hwz]; exact below_drewN BQ.out nq)
              have hsq2 : w2.heap.size ≤ wz.heap.size := by rw [hwz]; exact hsq
              rw [← hwz]
              clear hwz hy hx
              go_wp2_with (at_builtin; go_loud (refine wpList_push rfl _ _ rfl w2.heap.size _ _ (ofF (toF y0 * toF a0 ^ q)) wz.heap.size 1 rfl (KO2.out.alloc _) rfl (new_cell _ _ _) (U64.of_ofF _) HOL.out (by rw [size_alloc]; omega) ?_))
              intro v6 w6 ho6 hb6
              have hrow6 : OwnNums w6 w2.heap.size v6 (ofFs (bwRow t q (toF a0) (toF y0))) := by rw [bwRow_end, ← HM.out]; exact ho6
              obtain ⟨A6, c6, hv6, _, _⟩ := own_form hrow6.1
              rw [ofFs_length, bwRow_length] at hv6
              subst hv6
              have B6 := Lib.hid ((BQ2.out.alloc hsq2 (.cells #[.int .u64 (ofF (toF y0 * toF a0 ^ q))] 67)).trans hb6)
              have KG6 := Lib.hid (KG2.out.below B6.out)
              have KR6 := Lib.hid hrow6
              have hs26 := B6.out.size
              have hws2 := B2.out.size
              have HFAR := Lib.hid (show ∀ (k : Nat) (z : Value) (b : Nat), vs[k]? = some z → z.ownBlock = some b → (Value.slice A6 (t + 2 * q + 2) c6).ownBlock ≠ some b from fun k z b hz hzb hb => by
                have h1 := (hrow6.1.lt b hb).1
                have hk := (List.getElem?_eq_some_iff.1 hz).1
                rw [KG2.out.vlen] at hk
                have h2 := ((KG2.out.row k z _ hz (List.getElem?_eq_getElem hk)).1.lt b hzb).2
                omega)
              have BE6 := Lib.hid (below_trans B2.out B6.out hws2)
              have hsz6 := BE6.out.size
              have HTK := Lib.hid (bwRows_next (t := t) (w := q) HGK.out)
              have HLN := Lib.hid (show (bwRows t q (l.take k)).length + 1 ≤ 5864062014805 by rw [bwRows_length, List.length_take]; omega)
              clear ho6 hb6 hrow6 KO KO2 BQ BQ2
              go_wp2_with (at_builtin; go_loud (refine wpList_push_row4 rfl _ _ (by rfl) w.heap.size _ vs (bwRows t q (l.take k)) (.slice A6 (t + 2 * q + 2) c6) (ofFs (bwRow t q (toF a0) (toF y0))) w6.heap.size 1 (by rfl) (KG6.out.alloc _) (by rfl) (new_cell _ _ _) ((KR6.out.less hws2).alloc _) HFAR.out HLN.out (by rw [size_alloc]; omega) ?_))
              intro v7 w7 hg7 hb7 _ _
              rw [HTK.out] at hg7
              have KG7 := Lib.hid hg7
              have BE7 := Lib.hid ((BE6.out.alloc hsz6 (.cells #[.slice A6 (t + 2 * q + 2) c6] 64)).trans hb7)
              clear hg7 hb7
              go_wp2_with fail
              exact ⟨⟨k + 1, _, by omega, by go_num, KG7.out, BE7.out⟩, by simp [intOf] <;> omega⟩
    · obtain rfl : k = l.length := by omega
      have HTE := Lib.hid (show l.take l.length = l from List.take_of_length_le (Nat.le_refl _))
      rw [HTE.out] at KG
      go_wp2_with fail
      exact HP.out _ _ _ KG.out BEL.out
theorem nslice_from (A : Option Addr) (m c lo : Nat) (h1 : lo ≤ m) (W : World) :
    (Instr.sliceAt 64 (.slice A m c) (some (.int .i64 (lo : Int))) none none).run Tryz.prog W = .ok (.slice (if c = lo then A else A.map (·.add (lo * 1))) (m - lo) (c - lo)) W := by
  have hU : Program.underlying Tryz.prog 64 = some (.slice (Program.elem Tryz.prog 64)) := by kernel_rfl
  have hs : ∀ W, (sizeOf (Program.elem Tryz.prog 64)).run Tryz.prog W = .ok 1 W := fun W => by kernel_rfl
  rw [run_sliceAt_slice _ _ _ _ _ _ hU, run_slice_l W _ A m c hU .i64 _ (by omega) (by omega), hs]
  simp [Result.andThen, sliced]
set_option maxRecDepth 100000 in
theorem slice_nums_run (A : Option Addr) (m c hi : Nat) (h2 : hi ≤ c) (W : World) :
    (Instr.sliceAt 64 (.slice A m c) none (some (.int .i64 (hi : Int))) none).run Tryz.prog W = .ok (.slice A hi c) W := by
  have hU : Program.underlying Tryz.prog 64 = some (.slice (Program.elem Tryz.prog 64)) := by kernel_rfl
  have hs : ∀ W, (sizeOf (Program.elem Tryz.prog 64)).run Tryz.prog W = .ok 1 W := fun W => by kernel_rfl
  rw [run_sliceAt_slice _ _ _ _ _ _ hU, run_slice_h W _ A m c hU .i64 _ (by omega) (by omega), hs]
  simp only [Result.andThen, sliced, Nat.zero_mul, Nat.sub_zero, Int.toNat_natCast]
  congr 2
  split
  · rfl
  · cases A with
    | none => rfl
    | some a =>
      obtain ⟨b, o, s⟩ := a
      simp [Addr.add]
set_option maxRecDepth 100000 in
theorem nClone_at (b o c : Nat) (l : List Int) (w : World) (h1 : IsNums w (.slice (some ⟨b, o, none⟩) l.length c) l) :
    Calls Tryz.prog 197 #[.slice (some ⟨b, o, none⟩) l.length c] w fun e w' => ∃ v, e = .returned v ∧ OwnNums w' w.heap.size v l ∧ Below w.heap.size w w' := by
  have KA := Lib.hid h1
  obtain ⟨A1, c1, hv, hc1, hm1, hl1, hu1, hr1⟩ := h1
  injection hv with e1 _ e3
  subst e1 e3
  have KO := Lib.hid (lit_own w w.heap.size [] (by simp) (by simp) (Nat.le_refl _))
  have hnil : ∀ W, (binOp .eql 64 (.slice (some ⟨b, o, none⟩) l.length c) (.slice none 0 0)).run Tryz.prog W = .ok (.bool false) W := fun W => Lib.run_eql_slice_nil W _ _ _ _ _ _ _ Tryz.underlying64
  clear hu1 hr1 hm1
  go_enter Tryz.func197, Tryz.ntmps197
  go_wp2_with (at_builtin; go_loud (refine wpList_join rfl _ _ rfl w.heap.size _ _ [] l rfl KO.out rfl (KA.out.below ((Below.refl _ _).alloc (Nat.le_refl _) _)) (by simp; omega) (by rw [size_alloc]; omega) ?_))
  intro v' w' ho hb
  have K := Lib.hid (show OwnNums w' w.heap.size v' l from ho)
  have B := Lib.hid (((Below.refl w.heap.size w).alloc (Nat.le_refl _) (.cells (u64s []).toArray 67)).trans hb)
  clear ho hb
  go_wp2_with fail
  go_ret
  exact ⟨_, rfl, K.out, B.out⟩
theorem solE_all {n : Nat} {L : List (List Int)} (hv1 : 1 ≤ n) (hv20 : n ≤ 20) (hm20 : L.length ≤ 20) (hlen : ∀ r ∈ L, r.length = n + 1) : solE L n = 0 := by
  unfold solE
  rw [if_pos (by omega), if_neg (by omega), if_neg]
  rw [List.any_eq_true]
  rintro ⟨r, hr, h⟩
  unfold lenP at h
  rw [bne_iff_ne] at h
  have := hlen r hr
  omega
theorem solF_drop (t wq : Nat) (y : Nat → F) : ((ofFs ((List.range (t + 2 * wq + 1)).map y)).drop (t + wq + 1)) ++ [1] = ofFs (bwE t wq y) := by
  unfold ofFs bwE
  rw [List.map_append, ← List.map_drop, ← List.map_drop]
  refine congr (congrArg _ (congrArg (List.map ofF) ?_)) rfl
  apply List.ext_getElem
  · simp; omega
  · intro i h1 h2
    simp
theorem solF_take (t wq : Nat) (y : Nat → F) : (ofFs ((List.range (t + 2 * wq + 1)).map y)).take (t + wq + 1) = ofFs (bwQ t wq y) := by
  unfold ofFs bwQ
  rw [← List.map_take, ← List.map_take]
  refine congrArg (List.map ofF) ?_
  apply List.ext_getElem
  · simp; omega
  · intro i h1 h2
    simp
def FoundRes (w : World) (e : Ending) (w' : World) (t wq : Nat) (l : List (Int × Int)) : Prop :=
  ∃ v b q, e = .returned (.tuple #[v, .bool b]) ∧ OwnNums w' w.heap.size v (ofFs q) ∧ pnorm q = q ∧ (b = true → q.length ≤ t + 1) ∧ (∀ p, Fits t wq l p → b = true ∧ q = pnorm p) ∧ Below w.heap.size w w'
set_option maxRecDepth 100000 in
set_option maxHeartbeats 2000000 in
theorem dFound_any (t wq : Nat) (va : Value) (l : List (Int × Int)) (w : World) (h1 : IsShares w va l) (ht : t ≤ 4) (hwq : wq ≤ 4) (hok : AtsOk l 9) (hl : t + 1 + 2 * wq ≤ l.length) :
    Calls Tryz.prog 180 #[.int .i64 t, .int .i64 wq, va] w fun e w' => FoundRes w e w' t wq l := by
  have KA := Lib.hid h1
  have HOK := Lib.hid hok
  have hl9 := hok.few
  suffices hgoal : ∀ Post : Ending → World → Prop, (∀ e w', FoundRes w e w' t wq l → Post e w') → Calls Tryz.prog 180 #[.int .i64 t, .int .i64 wq, va] w Post from hgoal _ fun e w' h => h
  intro Post hpo
  have HP := Lib.hid hpo
  clear hpo hok h1
  obtain ⟨m, hm⟩ : ∃ m, m = t + wq + 1 := ⟨_, rfl⟩
  obtain ⟨n, hn⟩ : ∃ n, n = t + 2 * wq + 1 := ⟨_, rfl⟩
  have hmi : (t : Int) + (wq : Int) + 1 = (m : Int) := by omega
  have hni : (t : Int) + 2 * (wq : Int) + 1 = (n : Int) := by omega
  have hmn : m + wq = n := by omega
  have hn20 : n ≤ 20 := by omega
  have HM := Lib.hid hm
  have HN := Lib.hid hn
  have hn1 : 1 ≤ n := by omega
  have hmn' : m ≤ n := by omega
  have HMN := Lib.hid hmn
  clear hm hn hmn
  go_enter Tryz.func180, Tryz.ntmps180
  go_wp2_with fail
  refine (dEquations_any t wq va l w KA.out ht hwq (fun s hs => by have := (HOK.out.1 s hs).1; omega) (by omega)).mono ?_
  rintro e W1 ⟨v1, vs1, rfl, hg1, hb1⟩
  have KG := Lib.hid hg1.is
  have B1 := Lib.hid hb1
  clear hg1 hb1
  have hrl : ∀ r ∈ bwRows t wq l, r.length = n + 1 := fun r hr => by rw [bwRows_len t wq l r hr, HN.out]
  have hrn : (bwRows t wq l).length ≤ 20 := by rw [bwRows_length]; omega
  have C2 := Lib.hid (sSolve_ok v1 (bwRows t wq l) n W1 KG.out (solE_all hn1 hn20 hrn hrl) hn1 hn20 hrn hrl)
  clear hrl hrn
  try dsimp only
  go_wp2_with fail
  refine C2.out.mono ?_
  rintro e W2 ⟨rows, ls, hred, hcase⟩
  rcases hcase with ⟨⟨r, hr1, hr2, hr3⟩, v2, rfl, ho2, hb2⟩ | ⟨hz, v2, rfl, ho2, hb2⟩
  · have NOF := Lib.hid (show ∀ p, ¬ Fits t wq l p from fun p hp => by
      obtain ⟨y, hy⟩ := bw_exists hp
      have hy2 := bw_meets.2 hy
      rw [← HN.out] at hy2
      exact hr3 (hred.fits hy2 r hr1 hr2))
    have B2 := Lib.hid (below_trans B1.out hb2 B1.out.size)
    clear ho2 hb2 hred hr3 hr2 hr1
    try dsimp only
    go_wp2_with fail
    exact HP.out _ _ ⟨_, _, [], rfl, OwnNums.nil _ _, rfl, by simp, fun p hp => absurd hp (NOF.out p), B2.out⟩
  · obtain ⟨y, hy⟩ : ∃ y, y = ySol (mx rows) ls n := ⟨_, rfl⟩
    have HY := Lib.hid (show ∀ s ∈ l, peval (bwQ t wq y) (toF s.1) = toF s.2 * peval (bwE t wq y) (toF s.1) from by
      have h := hred.sol (show ∀ r, ls.length ≤ r → r < (bwRows t wq l).length → mx rows r n = 0 from hz)
      rw [← hy] at h
      rw [HN.out] at h
      exact bw_meets.1 h)
    have hs : ofFs (solF (mx rows) ls n) = ofFs ((List.range n).map y) := by rw [hy]; rfl
    rw [hs] at ho2
    have B2 := Lib.hid (below_trans B1.out hb2 B1.out.size)
    clear hs hy hred hz hb2
    have hl2 : (ofFs ((List.range n).map y)).length = n := by simp [ofFs]
    have K2 := Lib.hid ho2.is
    obtain ⟨g2, c2, hv2, hc2⟩ : ∃ g c, v2 = .slice (some ⟨g, 0, none⟩) n c ∧ n ≤ c := by
      have h := ho2.1
      rcases h.2 with ⟨_, h0⟩ | ⟨g, cap, cur, rfl, _, _, hn', _⟩
      · rw [hl2] at h0; omega
      · exact ⟨g, cap, by rw [hl2], by rw [hl2] at hn'; exact hn'⟩
    subst hv2
    have HL2 := Lib.hid hl2
    clear ho2 hl2
    have hsl1 := nslice_from (some ⟨g2, 0, none⟩) n c2 m hmn'
    have hsl2 := slice_nums_run (some ⟨g2, 0, none⟩) n c2 m (by omega)
    obtain ⟨o3, ho3⟩ : ∃ o, (if c2 = m then some (⟨g2, 0, none⟩ : Addr) else (some (⟨g2, 0, none⟩ : Addr)).map (·.add (m * 1))) = some ⟨g2, o, none⟩ := by
      split
      · exact ⟨0, rfl⟩
      · exact ⟨0 + m * 1, by rw [Option.map_some, add_addr]⟩
    rw [ho3, show n - m = wq by have := HMN.out; omega] at hsl1
    have KC := Lib.hid (show IsNums W2 (.slice (some ⟨g2, o3, none⟩) wq (c2 - m)) ((ofFs ((List.range n).map y)).drop m) from by
      have h := K2.out.cut m n (by omega) (by rw [HL2.out]; omega)
      rw [ho3, show n - m = wq by have := HMN.out; omega, List.take_of_length_le (by rw [List.length_drop, HL2.out]; have := HMN.out; omega)] at h
      exact h)
    have HLC := Lib.hid (show ((ofFs ((List.range n).map y)).drop m).length = wq by rw [List.length_drop, HL2.out]; have := HMN.out; omega)
    have KT := Lib.hid (show IsNums W2 (.slice (some ⟨g2, 0, none⟩) m c2) (ofFs (bwQ t wq y)) from by
      have h := K2.out.cut 0 m (by omega) (by rw [HL2.out]; omega)
      rw [List.drop_zero, Nat.sub_zero, Nat.sub_zero, HN.out, HM.out, solF_take, ← HM.out] at h
      have e : (if c2 = 0 then some (⟨g2, 0, none⟩ : Addr) else (some (⟨g2, 0, none⟩ : Addr)).map (·.add (0 * 1))) = some ⟨g2, 0, none⟩ := by
        split
        · rfl
        · rw [Option.map_some, add_addr]
      rw [e] at h
      exact h)
    have HDE := Lib.hid (show ((ofFs ((List.range n).map y)).drop m) ++ [1] = ofFs (bwE t wq y) by rw [HN.out, HM.out]; exact solF_drop t wq y)
    clear ho3
    try dsimp only
    go_wp2_with fail
    have C3 := nClone_at g2 o3 (c2 - m) _ W2 (by rw [HLC.out]; exact KC.out)
    rw [HLC.out] at C3
    refine C3.mono ?_
    clear C3
    rintro e W3 ⟨v3, rfl, ho3, hb3⟩
    have K3 := Lib.hid ho3
    have B3 := Lib.hid (below_trans B2.out hb3 B2.out.size)
    have HB23 := Lib.hid hb3
    have hs3 : W2.heap.size ≤ W3.heap.size := hb3.size
    have HLC1 := Lib.hid (show ((ofFs ((List.range n).map y)).drop m).length + 1 ≤ 17592186043904 by rw [HLC.out]; omega)
    clear ho3 hb3
    try dsimp only
    go_wp2_with (at_builtin; go_loud (refine wpList_push rfl _ _ rfl W2.heap.size _ _ 1 W3.heap.size 1 rfl (K3.out.alloc _) rfl (new_cell _ _ _) ⟨by omega, by omega⟩ HLC1.out (by rw [size_alloc]; omega) ?_))
    intro v4 W4 ho4 hb4
    rw [HDE.out] at ho4
    have K4 := Lib.hid ho4.is
    have B4 := Lib.hid ((B3.out.alloc B3.out.size (.cells #[.int .u64 1] 67)).trans (hb4.mono B2.out.size))
    have KT4 := Lib.hid (KT.out.below (HB23.out.trans (((Below.refl W2.heap.size W3).alloc hs3 (.cells #[.int .u64 1] 67)).trans hb4)))
    clear ho4 hb4 hsl1
    go_wp2_with fail
    refine (pDiv_small _ _ _ _ _ KT4.out K4.out (by rw [ofFs_length, bwQ_length]; omega) (by rw [ofFs_length, bwE_length]; omega)).mono ?_
    intro e W5 h5
    obtain ⟨vq, vr, Q, R, rfl, hoq, hor, hd, hb5⟩ := h5.2 (by rw [toFs_ofFs, bwE_normal]; unfold bwE; simp)
    rw [toFs_ofFs, toFs_ofFs] at hd
    have FIT := Lib.hid (fun p (hp : Fits t wq l p) => bw_div HOK.out.more hl hp HY.out hd)
    have NQ := Lib.hid hd.nq
    have KQ := Lib.hid (hoq.less B4.out.size)
    have B5 := Lib.hid (below_trans B4.out hb5 B4.out.size)
    obtain ⟨Aq, cq, hvq, _, _⟩ := own_form hoq.1
    obtain ⟨Ar, cr, hvr, _, _⟩ := own_form hor.1
    rw [ofFs_length] at hvq hvr
    subst hvq hvr
    clear h5 hoq hor hd hb5 hsl2
    try dsimp only
    by_cases hR : R.length = 0
    · have hR' : ((R.length : Int) == 0) = true := by rw [beq_iff_eq]; omega
      by_cases hQ : Q.length ≤ t + 1
      · have hQ' : decide ((Q.length : Int) ≤ (t : Int) + 1) = true := decide_eq_true (by omega)
        have HQ := Lib.hid hQ
        go_wp2_with fail
        exact HP.out _ _ ⟨_, true, Q, rfl, KQ.out, NQ.out, fun _ => HQ.out, fun p hp => ⟨rfl, (FIT.out p hp).1⟩, B5.out⟩
      · have hQ' : decide ((Q.length : Int) ≤ (t : Int) + 1) = false := decide_eq_false (by omega)
        have HNO := Lib.hid (show ∀ p, ¬ Fits t wq l p from fun p hp => hQ (by rw [(FIT.out p hp).1]; exact Nat.le_trans (pnorm_length p) hp.1))
        go_wp2_with fail
        exact HP.out _ _ ⟨_, false, Q, rfl, KQ.out, NQ.out, (fun h => by cases h), fun p hp => absurd hp (HNO.out p), B5.out⟩
    · have hR' : ((R.length : Int) == 0) = false := by rw [beq_eq_false_iff_ne]; omega
      have HNO := Lib.hid (show ∀ p, ¬ Fits t wq l p from fun p hp => hR (by rw [(FIT.out p hp).2]; rfl))
      go_wp2_with fail
      exact HP.out _ _ ⟨_, false, Q, rfl, KQ.out, NQ.out, (fun h => by cases h), fun p hp => absurd hp (HNO.out p), B5.out⟩
def decE (t wrong : Int) (l : List (Int × Int)) : Int :=
  if checkE t l ≠ 0 ∧ checkE t l ≠ 4 then checkE t l else if wrong < 0 ∨ 4 < wrong then 1 else if (l.length : Int) < t + 1 + 2 * wrong then 4 else 0
def DecErr (w : World) (e : Ending) (w' : World) (err : Int) : Prop := e = .returned (.tuple #[.slice none 0 0, .slice none 0 0, .int .i64 err]) ∧ Below w.heap.size w w'
def DecRes (w : World) (e : Ending) (w' : World) (t wq : Nat) (l : List (Int × Int)) : Prop :=
  (∃ p, pnorm p = p ∧ Fits t wq l p ∧ ∃ vp vb, e = .returned (.tuple #[vp, vb, .int .i64 0]) ∧ OwnNums w' w.heap.size vp (fillL (ofFs p) (t + 1)) ∧ OwnInts w' w.heap.size vb (srt (badL p l)) ∧ Below w.heap.size w w') ∨
  ((∀ p, ¬ Fits t wq l p) ∧ DecErr w e w' 6)
theorem decE_zero {t wrong : Int} {l : List (Int × Int)} (h : decE t wrong l = 0) : ∃ T W : Nat, t = T ∧ wrong = W ∧ T ≤ 4 ∧ W ≤ 4 ∧ AtsOk l 9 ∧ T + 1 + 2 * W ≤ l.length ∧ checkE t l = 0 := by
  unfold decE at h
  by_cases h1 : checkE t l ≠ 0 ∧ checkE t l ≠ 4
  · rw [if_pos h1] at h
    exact absurd h h1.1
  · rw [if_neg h1] at h
    by_cases h2 : wrong < 0 ∨ 4 < wrong
    · rw [if_pos h2] at h; omega
    · rw [if_neg h2] at h
      by_cases h3 : (l.length : Int) < t + 1 + 2 * wrong
      · rw [if_pos h3] at h; omega
      · have hc : checkE t l = 0 := by
          refine Classical.byContradiction fun h0 => ?_
          have h4 : checkE t l = 4 := Classical.byContradiction fun h4 => h1 ⟨h0, h4⟩
          unfold checkE at h4
          split at h4
          · split at h4
            · split at h4 <;> omega
            · omega
          · omega
        obtain ⟨⟨t1, t2⟩, hok, _⟩ := checkE_zero.1 hc
        exact ⟨t.toNat, wrong.toNat, by omega, by omega, by omega, by omega, hok, by omega, hc⟩
set_option maxRecDepth 100000 in
set_option maxHeartbeats 2000000 in
theorem dDecode_ok (t wq : Nat) (va : Value) (l : List (Int × Int)) (w : World) (h1 : IsShares w va l) (h : decE t wq l = 0) :
    Calls Tryz.prog 155 #[.int .i64 t, .int .i64 wq, va] w fun e w' => DecRes w e w' t wq l := by
  obtain ⟨T, W, hT, hW, ht, hwq, hok, hl, hck⟩ := decE_zero h
  obtain rfl : t = T := by omega
  obtain rfl : wq = W := by omega
  clear h hT hW
  have KA := Lib.hid h1
  have HOK := Lib.hid hok
  have HCK := Lib.hid hck
  have hl9 := hok.few
  suffices hgoal : ∀ Post : Ending → World → Prop, (∀ e w', DecRes w e w' t wq l → Post e w') → Calls Tryz.prog 155 #[.int .i64 t, .int .i64 wq, va] w Post from hgoal _ fun e w' h => h
  intro Post hpo
  have HP := Lib.hid hpo
  obtain ⟨A1, c1, rfl, hc1, hm1, hl1, hu1, hr1⟩ := h1
  clear hpo hok hck hu1 hr1 hm1
  go_enter Tryz.func155, Tryz.ntmps155
  go_wp2_with fail
  refine (sCheck_any t _ l _ KA.out).mono ?_
  rintro e W0 ⟨rfl, hb0⟩
  rw [HCK.out]
  have B0 := Lib.hid hb0
  clear hb0
  try dsimp only
  go_wp2_with fail
  refine (dFound_any t wq _ l _ (KA.out.below B0.out) ht hwq HOK.out hl).mono ?_
  rintro e W1 ⟨v, b, q, rfl, ho, hn, hlen, hfit, hb1⟩
  have B1 := Lib.hid (below_trans B0.out hb1 B0.out.size)
  have KQ := Lib.hid (ho.less B0.out.size)
  have FIT := Lib.hid hfit
  have NQ := Lib.hid hn
  have LEN := Lib.hid hlen
  have hs1 := B1.out.size
  clear ho hn hfit hb1 hlen
  try dsimp only
  cases b with
  | false =>
    go_wp2_with fail
    go_ret3
    exact HP.out _ _ (.inr ⟨(fun p hp => by have := (FIT.out p hp).1; cases this), rfl, B1.out⟩)
  | true =>
    have HQL := Lib.hid (LEN.out rfl)
    clear LEN
    obtain ⟨Aq, cq, hvq, _, _⟩ := own_form KQ.out.1
    rw [ofFs_length] at hvq
    subst hvq
    go_wp2_with fail
    go_loopw [12, 53] (fun vb i wr => ∃ k : Nat, k ≤ l.length ∧ i = .int .i64 k ∧ OwnInts wr W1.heap.size vb (badL q (l.take k)) ∧ Below W1.heap.size W1 wr) (fun _ i _ => l.length - (intOf i).toNat)
    case atStart => exact ⟨0, Nat.zero_le _, rfl, OwnInts.nil _ _, Below.refl _ _⟩
    case round =>
      obtain ⟨k, hk, rfl, hown, hbel⟩ := hrel
      have KO := Lib.hid hown
      have BEL := Lib.hid hbel
      have hsz := hbel.size
      clear hown hbel
      by_cases hlt : k < l.length
      · obtain ⟨A, c, hA, _, _, _, hu, hr⟩ := KA.out.below (below_trans B1.out BEL.out B1.out.size)
        injection hA with hA1 hA2 hA3
        subst hA1 hA3
        clear hA2
        obtain ⟨b1, o1, at_, y, rfl, hb1, hgk, hat, huy, hca, hcb⟩ := share_at hr hu hlt
        have HBN := Lib.hid (badL_next (Q := q) hgk)
        have HBL := Lib.hid (Nat.le_trans (badL_length q (l.take k)) (by rw [List.length_take]; exact Nat.min_le_left _ _))
        have hat0 : 0 ≤ at_ := by have := (HOK.out.1 _ (List.mem_of_getElem? hgk)).1; dsimp only at this; omega
        have hua : U64 at_ := ⟨hat0, by have := hat.2; omega⟩
        have HI := Lib.hid hat
        have hwa : IntKind.u64.wrap at_ = at_ := by rw [IntKind.wrap_u64]; exact Int.emod_eq_of_lt hua.1 (by have := hua.2; omega)
        have BX := Lib.hid (Box.new wr 71 [.int .i64 at_, .int .u64 y])
        have KO2 := Lib.hid (KO.out.alloc (.cells #[.int .i64 at_, .int .u64 y] 71))
        have BEL2 := Lib.hid (BEL.out.alloc hsz (.cells #[.int .i64 at_, .int .u64 y] 71))
        have KQ2 := Lib.hid (KQ.out.is.below (below_trans (Below.refl _ _) BEL2.out (Nat.le_refl _)))
        clear hr hu hgk hb1 KO BEL
        go_upto_region 15 with fail
        obtain ⟨w2, hw2⟩ : ∃ w2, w2 = wr.alloc (.cells #[.int .i64 at_, .int .u64 y] 71) := ⟨_, rfl⟩
        replace BX := Lib.hid (show Box w2 wr.heap.size 71 [.int .i64 at_, .int .u64 y] by rw [hw2]; exact BX.out)
        rw [← hw2] at KO2 BEL2 KQ2 ⊢
        obtain ⟨cb, hcb2⟩ : ∃ cb, cb = wr.heap.size := ⟨_, rfl⟩
        rw [← hcb2] at BX ⊢
        have hsz2 := BEL2.out.size
        clear hw2 hcb2 hca hcb
        have g0 := BX.out.cell (i := 0) rfl
        have g1 := BX.out.cell (i := 1) rfl
        go_quiet ((first | exact quietN (pAt_any _ _ _ _ (KQ2.out.drewN _) hua.1) | exact quietL (fNorm_any _ _ huy.1)))
        rw [toFs_ofFs]
        obtain ⟨wo, hwo⟩ : ∃ wo, wo = w2.drewN nq := ⟨_, rfl⟩
        have KO3 := Lib.hid (KO2.out.drewN nq)
        have BEL3 := Lib.hid (below_drewN BEL2.out nq)
        have BX3 := Lib.hid (BX.out.drewN nq)
        have hsz3 : W1.heap.size ≤ wo.heap.size := by rw [hwo]; exact hsz2
        rw [← hwo] at KO3 BEL3 BX3 ⊢
        have q0 := BX3.out.cell (i := 0) rfl
        clear hwo KO2 BEL2 BX g0 g1
        by_cases hc : peval q (toF at_) = toF y
        · have hbe : (ofF (peval q (toF at_)) != ofF (toF y)) = false := by rw [hc]; simp
          have HBM := Lib.hid (show badL q (l.take (k + 1)) = badL q (l.take k) by rw [HBN.out, if_neg (by simp [hc]), List.append_nil])
          clear hc HBN
          go_wp2_with fail
          exact ⟨⟨k + 1, by omega, by go_num, by rw [HBM.out]; exact KO3.out, BEL3.out⟩, by simp [intOf] <;> omega⟩
        · have hbe : (ofF (peval q (toF at_)) != ofF (toF y)) = true := by rw [bne_iff_ne]; exact fun h => hc (ofF_inj h)
          have HBM := Lib.hid (show badL q (l.take (k + 1)) = badL q (l.take k) ++ [at_] by rw [HBN.out, if_pos hc])
          clear hc HBN
          go_wp2_with (at_builtin; go_loud (refine wpList_push_int rfl _ _ rfl W1.heap.size _ _ at_ wo.heap.size 1 rfl (KO3.out.alloc _) rfl (new_cell _ _ _) HI.out (by have := HBL.out; omega) (by rw [size_alloc]; omega) ?_))
          intro v' w5 hown' hbel'
          rw [← HBM.out] at hown'
          have K5 := Lib.hid hown'
          have B5 := Lib.hid ((BEL3.out.alloc hsz3 (.cells #[.int .i64 at_] 3)).trans hbel')
          clear hown' hbel'
          go_wp2_with fail
          exact ⟨⟨k + 1, by omega, by go_num, K5.out, B5.out⟩, by simp [intOf] <;> omega⟩
      · obtain rfl : l.length = k := by omega
        have HTE := Lib.hid (show l.take l.length = l from List.take_of_length_le (Nat.le_refl _))
        rw [HTE.out] at KO
        have hbl := badL_length q l
        obtain ⟨Ab, cb, hvb, _, _⟩ := own_form KO.out.1
        obtain ⟨bn, hbn⟩ : ∃ bn, bn = (badL q l).length := ⟨_, rfl⟩
        rw [← hbn] at hvb hbl
        subst hvb
        have HBN := Lib.hid hbn
        clear hbn
        by_cases hbig : wq < bn
        · have HNO := Lib.hid (show ∀ p, ¬ Fits t wq l p from fun p hp => by
            have h1 := (FIT.out p hp).2
            have h2 := hp.2
            rw [← badL_norm, ← h1, ← HBN.out] at h2
            omega)
          go_wp2_with fail
          go_ret3
          exact HP.out _ _ (.inr ⟨HNO.out, rfl, below_trans B1.out BEL.out hs1⟩)
        · have HYES := Lib.hid (show Fits t wq l q from ⟨HQL.out, by rw [← HBN.out]; omega⟩)
          have C8 := Lib.hid (sort_any _ _ _ _ KO.out)
          go_wp2_with fail
          refine C8.out.mono ?_
          rintro e W8 ⟨rfl, ho, hb⟩
          have KS := Lib.hid ho
          have B8 := Lib.hid (BEL.out.trans hb)
          have B08 := Lib.hid (below_trans B1.out B8.out hs1)
          have hs8 := B08.out.size
          have KQ8 := Lib.hid (KQ.out.is.below B8.out)
          clear ho hb KO BEL
          obtain ⟨n1, hn1⟩ : ∃ n1, n1 = t + 1 := ⟨_, rfl⟩
          have hti : (t : Int) + 1 = (n1 : Int) := by omega
          have HN1 := Lib.hid hn1
          have hn15 : n1 ≤ 5 := by omega
          clear hn1
          try dsimp only
          go_wp2_with (refine wpList_make_nums rfl _ _ rfl W8.heap.size _ n1 rfl rfl rfl (by omega) (Nat.le_refl _) ?_)
          intro W9 ho hb
          have BX := Lib.hid ho.box
          have BEL := Lib.hid hb
          have KA1 := Lib.hid (KQ8.out.below hb)
          obtain ⟨xs, hxs⟩ : ∃ xs, xs = ofFs q := ⟨_, rfl⟩
          obtain ⟨xn, hxn⟩ : ∃ xn, xn = q.length := ⟨_, rfl⟩
          have hxl' : xs.length = xn := by rw [hxs, hxn, ofFs_length]
          rw [← hxs, ← hxn] at KA1
          rw [← hxn]
          obtain ⟨Z, hZ⟩ : ∃ Z, Z = u64s (List.replicate n1 0) := ⟨_, rfl⟩
          obtain ⟨C, hC⟩ : ∃ C, C = u64s (xs.take n1) := ⟨_, rfl⟩
          rw [← hZ] at BX
          have HXS := Lib.hid hxs
          have HXL := Lib.hid hxl'
          have HZ := Lib.hid hZ
          have HC := Lib.hid hC
          have HCL := Lib.hid (show C.length = Nat.min xn n1 by rw [hC, u64s_length, List.length_take, hxl']; exact Nat.min_comm _ _)
          clear ho hb hZ hC hxs hxn hxl'
          go_wp2_with (refine wpList_copy_splice (o := ⟨some 83, _, _, _, _, _⟩) rfl _ _ _ _ rfl 67 Tryz.underlying64 size_one (some ⟨W8.heap.size, 0, none⟩) Aq n1 n1 xn cq rfl rfl W8.heap.size 0 Z 67 BX.out C HCL.out ?c1 ?c2 ?c3 W8.heap.size W8 BEL.out (Nat.le_refl _) ?_)
          case c1 =>
            intro h0
            obtain ⟨A, c, hA, _, _, _, hu, hr⟩ := KA1.out
            injection hA with hA1 hA2 hA3
            subst hA1
            have hxl : 0 < xn := by
              rw [HCL.out] at h0
              exact Nat.lt_of_lt_of_le h0 (Nat.min_le_left _ _)
            obtain ⟨b, o, rfl, hb, hc⟩ := hr.at_ (j := 0) (by rw [u64s_length, HXL.out]; exact hxl)
            refine ⟨_, rfl, fun j v hj => ?_⟩
            have hj2 := (List.getElem?_eq_some_iff.1 hj).1
            rw [HCL.out] at hj2
            have hjx : j < xn := Nat.lt_of_lt_of_le hj2 (Nat.min_le_left _ _)
            have hjn : j < n1 := Nat.lt_of_lt_of_le hj2 (Nat.min_le_right _ _)
            rw [add_addr, hc j (by rw [u64s_length, HXL.out]; exact hjx), ← hj, HC.out, u64s_get, u64s_get, List.getElem?_take, if_pos hjn]
          case c2 => rw [HCL.out, HZ.out, u64s_length, List.length_replicate, Nat.zero_add]; exact Nat.min_le_right _ _
          case c3 => rw [HC.out]; exact u64s_one _
          intro W10 hB hBel
          have KB := Lib.hid (show Box W10 W8.heap.size 67 (u64s (fillL xs n1)) from by
            have h := hB.out
            rw [HZ.out, HC.out, splice_fill] at h
            exact h)
          have B10 := Lib.hid hBel
          clear hB hBel
          go_wp2_with fail
          go_ret3
          refine HP.out _ _ (.inl ⟨q, NQ.out, HYES.out, _, _, rfl, ?_, (KS.out.less hs1).below B10.out, below_trans B08.out B10.out hs8⟩)
          have h := KB.out.own (base := w.heap.size) hs8 (by rw [fillL_length]; omega) (fillL_u64 (by rw [HXS.out]; exact KQ8.out.u64) n1)
          rw [fillL_length, HXS.out, HN1.out] at h
          rw [HN1.out]
          exact h
theorem srt_eq {a b : List Int} (h : a.Perm b) : srt a = srt b := by
  have h1 : (srt a).Perm (srt b) := (srt_perm a).trans (h.trans (srt_perm b).symm)
  exact h1.eq_of_pairwise (fun x y _ _ h1 h2 => Int.le_antisymm h1 h2) (srt_pairwise a) (srt_pairwise b)
def fstL (s : Nat) (l : List (Int × Int)) : Nat → List (Int × Int)
  | 0 => []
  | k + 1 => fstL s l k ++ (if s.testBit k = true then (l[k]?).toList else [])
def rstL (s : Nat) (l : List (Int × Int)) : Nat → List (Int × Int)
  | 0 => []
  | k + 1 => rstL s l k ++ (if s.testBit k = true then [] else (l[k]?).toList)
theorem both_perm (s : Nat) (l : List (Int × Int)) : ∀ k, (fstL s l k ++ rstL s l k).Perm (l.take k)
  | 0 => by simp [fstL, rstL]
  | k + 1 => by
    rw [List.take_add_one, fstL, rstL]
    have ih := both_perm s l k
    by_cases hb : s.testBit k = true
    · rw [if_pos hb, if_pos hb, List.append_nil, List.append_assoc]
      have : (fstL s l k ++ ((l[k]?).toList ++ rstL s l k)).Perm (fstL s l k ++ (rstL s l k ++ (l[k]?).toList)) := List.Perm.append_left _ List.perm_append_comm
      refine this.trans ?_
      rw [← List.append_assoc]
      exact ih.append_right _
    · rw [if_neg hb, if_neg hb, List.append_nil, ← List.append_assoc]
      exact ih.append_right _
theorem fst_len (s : Nat) (l : List (Int × Int)) (k : Nat) : (fstL s l k).length + (rstL s l k).length = (l.take k).length := by
  have := (both_perm s l k).length_eq
  rwa [List.length_append] at this
theorem badL_perm {Q : List F} {a b : List (Int × Int)} (h : a.Perm b) : (badL Q a).Perm (badL Q b) := (h.filter _).map _
theorem atsOk_perm {a b : List (Int × Int)} {most : Int} (h : a.Perm b) (hok : AtsOk b most) : AtsOk a most :=
  ⟨fun s hs => hok.1 s (h.mem_iff.1 hs), (h.map _).nodup_iff.2 hok.2⟩
theorem atsOk_left {a b : List (Int × Int)} {most : Int} (hok : AtsOk (a ++ b) most) : AtsOk a most :=
  ⟨fun s hs => hok.1 s (List.mem_append.2 (.inl hs)), by have := hok.2; rw [List.map_append] at this; exact (List.nodup_append.1 this).1⟩
theorem fst_ok {s : Nat} {l : List (Int × Int)} {most : Int} (hok : AtsOk l most) : AtsOk (fstL s l l.length) most := by
  refine atsOk_left (b := rstL s l l.length) (atsOk_perm (both_perm s l l.length) ?_)
  rw [List.take_of_length_le (Nat.le_refl _)]
  exact hok
theorem fst_low {s u : Nat} {l : List (Int × Int)} : ∀ {k : Nat}, (∀ i, i < k → s.testBit i = u.testBit i) → fstL s l k = fstL u l k
  | 0, _ => rfl
  | k + 1, h => by rw [fstL, fstL, fst_low (fun i hi => h i (by omega)), h k (by omega)]
theorem choice (good : Int × Int → Bool) (l : List (Int × Int)) : ∀ (k m : Nat), m ≤ ((l.take k).filter good).length → ∃ s, s < 2 ^ k ∧ (fstL s l k).length = m ∧ ∀ a ∈ fstL s l k, good a = true
  | 0, m, h => ⟨0, by simp, by simp at h; simp [fstL]; omega, by simp [fstL]⟩
  | k + 1, m, h => by
    by_cases hm : m ≤ ((l.take k).filter good).length
    · obtain ⟨s, h1, h2, h3⟩ := choice good l k m hm
      have hb : s.testBit k = false := Nat.testBit_lt_two_pow h1
      refine ⟨s, by rw [Nat.pow_succ]; omega, ?_, ?_⟩
      · rw [fstL, hb]; simpa using h2
      · rw [fstL, hb]; simpa using h3
    · rw [List.take_add_one, List.filter_append, List.length_append] at h
      cases hx : l[k]? with
      | none => rw [hx] at h; simp at h; omega
      | some a =>
        rw [hx] at h
        by_cases hg : good a = true
        · have h1' : ([a].filter good).length = 1 := by simp [hg]
          rw [Option.toList_some, h1'] at h
          obtain ⟨s, h1, h2, h3⟩ := choice good l k (m - 1) (by omega)
          have e : fstL (2 ^ k + s) l k = fstL s l k := fst_low fun i hi => Nat.testBit_two_pow_add_gt hi s
          have hb : (2 ^ k + s).testBit k = true := by rw [Nat.testBit_two_pow_add_eq, Nat.testBit_lt_two_pow h1]; rfl
          refine ⟨2 ^ k + s, by rw [Nat.pow_succ]; omega, ?_, ?_⟩
          · rw [fstL, e, if_pos hb, hx, List.length_append, h2]; simp; omega
          · rw [fstL, e, if_pos hb, hx]
            intro b hb2
            rcases List.mem_append.1 hb2 with h4 | h4
            · exact h3 b h4
            · simp at h4; subst h4; exact hg
        · rw [Option.toList_some, List.filter_cons_of_neg hg] at h
          simp at h
          omega
def NoSet (t w : Nat) (l : List (Int × Int)) (s : Nat) : Prop := ∀ u, u < s → ∀ Q, (fstL u l l.length).length = t + 1 → Interp (ptsF (fstL u l l.length)) Q → w < (badL Q l).length
theorem NoSet.all {t w : Nat} {l : List (Int × Int)} (hl : t + 1 + 2 * w ≤ l.length) (h : NoSet t w l (2 ^ l.length)) : ∀ p, ¬ Fits t w l p := fun p hp => by
  have hg := goods_length p l
  have hb := hp.2
  unfold goods at hg
  rw [List.length_map] at hg
  obtain ⟨s, h1, h2, h3⟩ := choice (fun s => decide (peval p (toF s.1) = toF s.2)) l l.length (t + 1) (by rw [List.take_of_length_le (Nat.le_refl _)]; omega)
  have hI : Interp (ptsF (fstL s l l.length)) (pnorm p) := by
    refine ⟨pnorm_norm p, ?_, fun q hq => ?_⟩
    · have := pnorm_length p
      have := hp.1
      have : (ptsF (fstL s l l.length)).length = t + 1 := by unfold ptsF; rw [List.length_map, h2]
      omega
    · unfold ptsF at hq
      obtain ⟨a, ha, rfl⟩ := List.mem_map.1 hq
      rw [pnorm_eval]
      have := h3 a ha
      simpa using this
  have := h s h1 _ h2 hI
  rw [badL_norm] at this
  omega
section
variable {P : Program} {ops : Array Oper} {rest : List Oper} {Q : Exit → Act → World → Prop} {a : Act} {w : World} {o : Oper}
theorem run_shl_one (t : TypeId) (n N : Nat) (hN : N = 2 ^ n) (h1 : n ≤ 20) : (binOp .shl t (.int .i64 1) (.int .i64 n)).run P w = .ok (.int .i64 N) w := by
  simp only [binOp, shift_shl_any _ _ _ _ (show (0 : Int) ≤ (n : Int) by omega)]
  have h2 : N ≤ 2 ^ 20 := by rw [hN]; exact Nat.pow_le_pow_right (by omega) h1
  have e : IntKind.i64.wrap (1 * 2 ^ min ((n : Int).toNat) IntKind.i64.bits) = (N : Int) := by
    rw [Int.toNat_natCast, show min n IntKind.i64.bits = n from Nat.min_eq_left (by show n ≤ 64; omega), Int.one_mul]
    rw [show ((2 : Int) ^ n) = (N : Int) by rw [hN]; simp]
    exact IntWalk.i64_in _ (by omega)
  rw [e]
  rfl
theorem wpList_shl_one (t ty : TypeId) (s z : Operand) (n N : Nat) (hN : N = 2 ^ n) (hgd : o.guard = none) (ho : o.op = .binOp .shl t s z ty) (hs : a.eval s = .int .i64 1) (hz : a.eval z = .int .i64 n)
    (h1 : n ≤ 20) (h : wpList P ops Q rest (a.put o.dst (.int .i64 N)) w) : wpList P ops Q (o :: rest) a w := by
  refine wpList_plain hgd fun K hK => ?_
  unfold Oper.wp execOp
  have hr := run_shl_one (P := P) (w := w) t n N hN h1
  simp [ho, hs, hz, eqGuard, hr]
  exact hK _ _ h
end
theorem bit_is (s k : Nat) : shrN (s : Int) (k : Int) % 2 = if s.testBit k = true then 1 else 0 := by
  have h : shrN (s : Int) (k : Int) = ((s / 2 ^ k : Nat) : Int) := by
    unfold shrN
    rw [Int.toNat_natCast]
    simp
  rw [h, Nat.testBit_eq_decide_div_mod_eq]
  by_cases hb : s / 2 ^ k % 2 = 1
  · rw [if_pos (by simpa using hb)]
    omega
  · rw [if_neg (by simpa using hb)]
    omega
theorem bit_nonneg (s k : Nat) : 0 ≤ shrN (s : Int) (k : Int) := shrN_nonneg (by omega) _
theorem OwnShares.in {w : World} {base : Nat} {v : Value} {l : List (Int × Int)} (h : OwnShares w base v l) (b : Nat) (hb : v.ownBlock = some b) : b < w.heap.size := (h.1.lt b hb).2
theorem wpList_push_share4 {ops : Array Oper} {rest : List Oper} {o : Oper} {a : Act} {Q : Exit → Act → World → Prop} {w : World} (hgd : o.guard = none) (s x : Operand)
    (ho : o.op = .call { callee := .builtin .append, args := #[s, x], argTypes := #[69, 69] })
    (base : Nat) (v : Value) (l : List (Int × Int)) (n z : Int) (g c : Nat) (hs : a.eval s = v) (hown : OwnShares w base v l) (hx : a.eval x = .slice (some ⟨g, 0, none⟩) 1 c)
    (hc : w.cell? ⟨g, 0, none⟩ = some (.int .i64 n)) (hc2 : w.cell? ⟨g, 1, none⟩ = some (.int .u64 z)) (hn : I64 n) (hz : U64 z) (hl : l.length + 1 ≤ 8796093022208) (hb : base ≤ w.heap.size)
    (h : ∀ v' w', OwnShares w' base v' (l ++ [(n, z)]) → Below base w w' → w.grownBy w' v.ownBlock → (v'.ownBlock = v.ownBlock ∨ v'.ownBlock = some w.heap.size) → wpList Tryz.prog ops Q rest (a.put o.dst v') w') : wpList Tryz.prog ops Q (o :: rest) a w := by
  obtain ⟨i0, hi, hz0, hz1, hz2⟩ := info_parts sinfo
  refine wpList_append_own_at w hgd s x 69 ho base 71 i0 (.agg #[.int .i64 0, .int .u64 0]) 2 16 Tryz.underlying69 hi hz0 hz1 hz2 rfl (by decide) v l.length (shs l) hs hown.1 ⟨g, 0, none⟩ 1 c [.int .i64 n, .int .u64 z] hx rfl ?_ ?_ ?_ ?_ hb ?_
  · intro j u hu
    match j, hu with
    | 0, hu =>
      simp at hu
      subst hu
      rw [add_addr]; exact hc
    | 1, hu =>
      simp at hu
      subst hu
      rw [add_addr]; exact hc2
  · intro u hu
    simp at hu
    rcases hu with rfl | rfl <;> rfl
  · unfold maxLen; omega
  · omega
  · intro v' w' h1 h2 _ h4
    refine h v' w' ⟨?_, ?_, ?_⟩ ((Below.refl _ _).grown h2 hb (fun k hk => (hown.1.lt k hk).1)) h2 h4
    · have e : (l ++ [(n, z)]).length = l.length + 1 := by simp
      rw [e, shs_snoc]; exact h1
    · simpa using hl
    · intro y hy
      rcases List.mem_append.1 hy with h3 | h3
      · exact hown.2.2 y h3
      · simp at h3; subst h3; exact ⟨hn, hz⟩
theorem wpList_join_shares2 {ops : Array Oper} {rest : List Oper} {o : Oper} {a : Act} {Q : Exit → Act → World → Prop} {w : World} (hgd : o.guard = none) (s x : Operand)
    (ho : o.op = .call { callee := .builtin .append, args := #[s, x], argTypes := #[69, 69] })
    (base : Nat) (v y : Value) (zs ds : List (Int × Int)) (hs : a.eval s = v) (hown : OwnShares w base v zs) (hx : a.eval x = y) (hy : IsShares w y ds) (hl : zs.length + ds.length ≤ 8796093022208)
    (hb : base ≤ w.heap.size)
    (h : ∀ v' w', OwnShares w' base v' (zs ++ ds) → Below base w w' → wpList Tryz.prog ops Q rest (a.put o.dst v') w') : wpList Tryz.prog ops Q (o :: rest) a w := by
  obtain ⟨i0, hi, hz0, hz1, hz2⟩ := info_parts sinfo
  obtain ⟨A, cap, rfl, k1, k2, k3, k4, k5⟩ := hy
  cases A with
  | none =>
    have h0 : ds = [] := by
      rcases k5 with k5 | ⟨b, o, k5, _⟩
      · cases ds with
        | nil => rfl
        | cons d ds => simp [shs] at k5
      · cases k5
    subst h0
    refine wpList_append_none hgd s x 69 ho base 71 i0 2 cap Tryz.underlying69 hi v zs.length (shs zs) hs hown.1 hx ?_
    exact h v w (by rw [List.append_nil]; exact hown) (Below.refl _ _)
  | some ad =>
    refine wpList_append_own w hgd s x 69 ho base 71 i0 (.agg #[.int .i64 0, .int .u64 0]) 2 16 Tryz.underlying69 hi hz0 hz1 hz2 rfl (by decide) v zs.length (shs zs) hs hown.1 ad ds.length cap (shs ds) hx (by rw [shs_length]) ?_ (shs_one ds) ?_ ?_ hb ?_
    · intro j u hu
      rcases k5 with k5 | ⟨b, o, k5, _, hc⟩
      · rw [k5] at hu; simp at hu
      · obtain rfl := Option.some.inj k5
        rw [add_addr, hc j (List.getElem?_eq_some_iff.1 hu).1, hu]
    · unfold maxLen; omega
    · omega
    · intro v' w' h1 h2 _
      refine h v' w' ⟨?_, by simpa using hl, fun z hz => ?_⟩ ((Below.refl _ _).grown h2 hb (fun k hk => (hown.1.lt k hk).1))
      · rw [List.length_append, shs_append]; exact h1
      · rcases List.mem_append.1 hz with h3 | h3
        · exact hown.2.2 z h3
        · exact k4 z h3
theorem fillL_more {xs : List Int} {k : Nat} : xs ++ List.replicate k 0 ++ [0] = xs ++ List.replicate (k + 1) 0 := by
  rw [List.append_assoc, ← List.replicate_succ']
theorem wpList_push_num5 {ops : Array Oper} {rest : List Oper} {o : Oper} {a : Act} {Q : Exit → Act → World → Prop} {w : World} (hgd : o.guard = none) (s x : Operand)
    (ho : o.op = .call { callee := .builtin .append, args := #[s, x], argTypes := #[64, 64] })
    (base : Nat) (v : Value) (zs : List Int) (z : Int) (g c : Nat) (hs : a.eval s = v) (hown : OwnNums w base v zs) (hx : a.eval x = .slice (some ⟨g, 0, none⟩) 1 c)
    (hc : w.cell? ⟨g, 0, none⟩ = some (.int .u64 z)) (hz : U64 z) (hl : zs.length + 1 ≤ 17592186043904) (hb : base ≤ w.heap.size)
    (h : ∀ v' w', OwnNums w' base v' (zs ++ [z]) → Below base w w' → w.grownBy w' v.ownBlock → (v'.ownBlock = v.ownBlock ∨ v'.ownBlock = some w.heap.size) → wpList Tryz.prog ops Q rest (a.put o.dst v') w') : wpList Tryz.prog ops Q (o :: rest) a w := by
  obtain ⟨i0, hi, hz0, hz1, hz2⟩ := info_parts uinfo
  refine wpList_append_own_at w hgd s x 64 ho base 67 i0 (.int .u64 0) 1 8 Tryz.underlying64 hi hz0 hz1 hz2 rfl (by decide) v zs.length (u64s zs) hs hown.1 ⟨g, 0, none⟩ 1 c [.int .u64 z] hx rfl ?_ ?_ ?_ ?_ hb ?_
  · intro j u hu
    match j, hu with
    | 0, hu =>
      simp at hu
      subst hu
      rw [add_addr]; exact hc
  · intro u hu
    simp at hu
    subst hu; rfl
  · unfold maxLen; omega
  · omega
  · intro v' w' h1 h2 _ h4
    refine h v' w' ⟨?_, ?_, ?_⟩ ((Below.refl _ _).grown h2 hb (fun k hk => (hown.1.lt k hk).1)) h2 h4
    · have e : (zs ++ [z]).length = zs.length + 1 := by simp
      have e2 : u64s (zs ++ [z]) = u64s zs ++ [.int .u64 z] := by simp [u64s]
      rw [e, e2]; exact h1
    · simpa using hl
    · intro y hy
      rcases List.mem_append.1 hy with h3 | h3
      · exact hown.2.2 y h3
      · simp at h3; subst h3; exact hz
theorem fillL_short {xs : List Int} {n : Nat} (h : xs.length ≤ n) : fillL xs n = xs ++ List.replicate (n - xs.length) 0 := by
  unfold fillL
  rw [List.take_of_length_le h]
def vlen : Value → Nat
  | .slice _ n _ => n
  | _ => 0
theorem fst_next {s k : Nat} {l : List (Int × Int)} {a : Int × Int} (h : l[k]? = some a) : fstL s l (k + 1) = fstL s l k ++ (if s.testBit k = true then [a] else []) := by rw [fstL, h]; rfl
theorem rst_next {s k : Nat} {l : List (Int × Int)} {a : Int × Int} (h : l[k]? = some a) : rstL s l (k + 1) = rstL s l k ++ (if s.testBit k = true then [] else [a]) := by rw [rstL, h]; rfl
theorem NoSet.skip {t w s : Nat} {l : List (Int × Int)} (h : NoSet t w l s) (hn : (fstL s l l.length).length ≠ t + 1) : NoSet t w l (s + 1) := fun u hu Q h1 h2 => by
  rcases Nat.lt_or_ge u s with h3 | h3
  · exact h u h3 Q h1 h2
  · obtain rfl : u = s := by omega
    exact absurd h1 hn
theorem NoSet.fail {t w s : Nat} {l : List (Int × Int)} (hok : AtsOk l 2147483646) (h : NoSet t w l s) {Q0 : List F} (h0 : Interp (ptsF (fstL s l l.length)) Q0) (hw : w < (badL Q0 l).length) : NoSet t w l (s + 1) := fun u hu Q h1 h2 => by
  rcases Nat.lt_or_ge u s with h3 | h3
  · exact h u h3 Q h1 h2
  · obtain rfl : u = s := by omega
    obtain rfl := h0.unique (pts_nodup (fst_ok hok)) h2
    exact hw
set_option maxRecDepth 100000 in
set_option maxHeartbeats 4000000 in
theorem rDecode_ok (t wq : Nat) (va : Value) (l : List (Int × Int)) (w : World) (h1 : IsShares w va l) (h : decE t wq l = 0) :
    Calls Tryz.prog 82 #[.int .i64 t, .int .i64 wq, va] w fun e w' => DecRes w e w' t wq l := by
  obtain ⟨T, W, hT, hW, ht, hwq, hok, hl, hck⟩ := decE_zero h
  obtain rfl : t = T := by omega
  obtain rfl : wq = W := by omega
  clear h hT hW
  have KA := Lib.hid h1
  have HOK := Lib.hid hok
  have HCK := Lib.hid hck
  have hl9 := hok.few
  suffices hgoal : ∀ Post : Ending → World → Prop, (∀ e w', DecRes w e w' t wq l → Post e w') → Calls Tryz.prog 82 #[.int .i64 t, .int .i64 wq, va] w Post from hgoal _ fun e w' h => h
  intro Post hpo
  have HP := Lib.hid hpo
  obtain ⟨A1, c1, rfl, hc1, hm1, hl1, hu1, hr1⟩ := h1
  obtain ⟨NN, hNN⟩ : ∃ NN, NN = 2 ^ l.length := ⟨_, rfl⟩
  have hNNb : NN ≤ 512 := by rw [hNN]; exact Nat.pow_le_pow_right (n := 2) (by omega) hl9
  have HNN := Lib.hid hNN
  clear hpo hok hck hu1 hr1 hm1 hNN
  have hin : decide (0 ≤ (wq : Int) ∧ (wq : Int) ≤ 4) = true := decide_eq_true (by omega)
  go_enter Tryz.func82, Tryz.ntmps82
  go_wp2_with fail
  refine (rShares_any t _ l _ KA.out).mono ?_
  rintro e W0 ⟨rfl, nd, rfl⟩
  rw [HCK.out]
  obtain ⟨W1, hW1⟩ : ∃ W1, W1 = w.drewN nd := ⟨_, rfl⟩
  have B1 := Lib.hid (show Below w.heap.size w W1 by rw [hW1]; exact below_drewN (Below.refl _ _) nd)
  have hs1 : w.heap.size ≤ W1.heap.size := B1.out.size
  rw [← hW1]
  clear hW1
  try dsimp only
  go_wp2_with fail
  refine (rIn_any (wq : Int) 0 4 _).mono ?_
  rintro e w' ⟨rfl, rfl⟩
  rw [hin]
  clear hin
  try dsimp only
  go_wp2_with fail
  go_loopw [10] (fun sv wr => ∃ s : Nat, s ≤ NN ∧ sv = .int .i64 s ∧ NoSet t wq l s ∧ Below w.heap.size w wr) (fun sv _ => NN - (intOf sv).toNat)
  case atStart => exact ⟨0, Nat.zero_le _, rfl, fun u hu => absurd hu (by omega), B1.out⟩
  case round =>
    obtain ⟨s, hs, rfl, hno, hbel⟩ := hrel
    have NO := Lib.hid hno
    have BEL := Lib.hid hbel
    have hsz := hbel.size
    clear hno hbel
    by_cases hlt : s < NN
    · go_wp2_with (refine wpList_shl_one _ _ _ _ l.length NN HNN.out rfl rfl rfl rfl (by omega) ?_)
      obtain ⟨wo, hwo⟩ : ∃ wo, wo = wr := ⟨_, rfl⟩
      subst hwo
      go_loopw [11, 12, 13] (fun v1 v2 i wx => ∃ k : Nat, k ≤ l.length ∧ i = .int .i64 k ∧ OwnShares wx wo.heap.size v1 (fstL s l k) ∧ OwnShares wx wo.heap.size v2 (rstL s l k) ∧ Far v1 v2 ∧ Below wo.heap.size wo wx) (fun _ _ i _ => l.length - (intOf i).toNat)
      case atStart => exact ⟨0, Nat.zero_le _, rfl, OwnShares.nil _ _, OwnShares.nil _ _, Far.nil _, Below.refl _ _⟩
      case round =>
        obtain ⟨k, hk, rfl, ho1, ho2, hfar, hbx⟩ := hrel
        have K1 := Lib.hid ho1
        have K2 := Lib.hid ho2
        have FAR := Lib.hid hfar
        have BX := Lib.hid hbx
        have hsx := hbx.size
        clear ho1 ho2 hfar hbx
        by_cases hlk : k < l.length
        · obtain ⟨A, c, hA, _, _, _, hu, hr⟩ := KA.out.below (below_trans BEL.out BX.out hsz)
          injection hA with hA1 hA2 hA3
          subst hA1 hA3
          clear hA2
          obtain ⟨b1, o1, at_, y, rfl, hb1, hgk, hat, huy, hca, hcb⟩ := share_at hr hu hlk
          have HAT := Lib.hid hat
          have HUY := Lib.hid huy
          have HF := Lib.hid (fst_next (s := s) hgk)
          have HR := Lib.hid (rst_next (s := s) hgk)
          have hfl := fst_len s l k
          rw [List.length_take] at hfl
          have HL1 := Lib.hid (show (fstL s l k).length + 1 ≤ 8796093022208 by omega)
          have HL2 := Lib.hid (show (rstL s l k).length + 1 ≤ 8796093022208 by omega)
          have hbit := bit_is s k
          have hbn := bit_nonneg s k
          clear hr hu hgk hb1 hfl hat huy
          by_cases hb : s.testBit k = true
          · rw [if_pos hb] at hbit
            rw [if_pos hb] at HF HR
            clear hb
            go_wp2_with (first | (refine wpList_shr .i64 _ _ _ _ (s : Int) (k : Int) rfl rfl rfl rfl (by omega) (by omega) rfl ?_) | (at_builtin; go_loud (refine wpList_push_share4 rfl _ _ rfl wo.heap.size _ (fstL s l k) at_ y wr.heap.size 1 rfl (K1.out.alloc _) rfl (pair_cell0 _ _ _ _) (pair_cell1 _ _ _ _) HAT.out HUY.out HL1.out (by rw [size_alloc]; omega) ?_)))
            intro v5 w5 ho5 hb5 hg5 hk5
            have K15 := Lib.hid (show OwnShares w5 wo.heap.size v5 (fstL s l (k + 1)) by rw [HF.out]; exact ho5)
            have K25 := Lib.hid (show OwnShares w5 wo.heap.size _ (rstL s l (k + 1)) by rw [HR.out, List.append_nil]; exact (K2.out.alloc (.cells #[.int .i64 at_, .int .u64 y] 71)).kept hg5 FAR.out.symm.kept)
            have FAR5 := Lib.hid ((FAR.out.symm.grow (fun b hb => by have := K2.out.in b hb; omega) hk5).symm)
            have B5 := Lib.hid ((BX.out.alloc hsx (.cells #[.int .i64 at_, .int .u64 y] 71)).trans hb5)
            clear ho5 hb5 hg5 hk5
            go_wp2_with fail
            exact ⟨⟨k + 1, by omega, by go_num, K15.out, K25.out, FAR5.out, B5.out⟩, by simp [intOf] <;> omega⟩
          · rw [if_neg hb] at hbit HF HR
            clear hb
            go_wp2_with (first | (refine wpList_shr .i64 _ _ _ _ (s : Int) (k : Int) rfl rfl rfl rfl (by omega) (by omega) rfl ?_) | (at_builtin; go_loud (refine wpList_push_share4 rfl _ _ rfl wo.heap.size _ (rstL s l k) at_ y wr.heap.size 1 rfl (K2.out.alloc _) rfl (pair_cell0 _ _ _ _) (pair_cell1 _ _ _ _) HAT.out HUY.out HL2.out (by rw [size_alloc]; omega) ?_)))
            intro v5 w5 ho5 hb5 hg5 hk5
            have K25 := Lib.hid (show OwnShares w5 wo.heap.size v5 (rstL s l (k + 1)) by rw [HR.out]; exact ho5)
            have K15 := Lib.hid (show OwnShares w5 wo.heap.size _ (fstL s l (k + 1)) by rw [HF.out, List.append_nil]; exact (K1.out.alloc (.cells #[.int .i64 at_, .int .u64 y] 71)).kept hg5 FAR.out.kept)
            have FAR5 := Lib.hid (FAR.out.grow (fun b hb => by have := K1.out.in b hb; omega) hk5)
            have B5 := Lib.hid ((BX.out.alloc hsx (.cells #[.int .i64 at_, .int .u64 y] 71)).trans hb5)
            clear ho5 hb5 hg5 hk5
            go_wp2_with fail
            exact ⟨⟨k + 1, by omega, by go_num, K15.out, K25.out, FAR5.out, B5.out⟩, by simp [intOf] <;> omega⟩
        · obtain rfl : k = l.length := by omega
          have hfl := fst_len s l l.length
          rw [List.take_of_length_le (Nat.le_refl _)] at hfl
          obtain ⟨A1', cf, hv1, _, _⟩ := own_form K1.out.1
          obtain ⟨fn, hfn⟩ : ∃ fn, fn = (fstL s l l.length).length := ⟨_, rfl⟩
          have HFN := Lib.hid hfn
          rw [← hfn] at hv1 hfl
          subst hv1
          have B6 := Lib.hid (below_trans BEL.out BX.out hsz)
          have hs6 := B6.out.size
          clear hfn
          by_cases hF : fn = t + 1
          · have hF' : ((fn : Int) != (t : Int) + 1) = false := by rw [bne_eq_false_iff_eq]; omega
            have HFL := Lib.hid (show (fstL s l l.length).length + (rstL s l l.length).length ≤ 8796093022208 by rw [← HFN.out]; omega)
            have HPERM := Lib.hid (show (fstL s l l.length ++ rstL s l l.length).Perm l by have := both_perm s l l.length; rwa [List.take_of_length_le (Nat.le_refl _)] at this)
            obtain ⟨Q, hQ⟩ := interp_ex (pts_nodup (fst_ok (s := s) HOK.out.more))
            have HQ := Lib.hid hQ
            have HF1 := Lib.hid hF
            clear hQ hF
            go_wp2_with (at_builtin; go_loud (refine wpList_join_shares2 rfl _ _ rfl wo.heap.size _ _ (fstL s l l.length) (rstL s l l.length) rfl K1.out rfl K2.out.is HFL.out (by omega) ?_))
            intro v7 w7 ho7 hb7
            have K7 := Lib.hid ho7.is
            have B7 := Lib.hid (B6.out.trans (hb7.mono (by omega)))
            have hs7 := B7.out.size
            have HLL := Lib.hid (show (fstL s l l.length ++ rstL s l l.length).length = l.length from HPERM.out.length_eq)
            have HTK := Lib.hid (show (fstL s l l.length ++ rstL s l l.length).take (t + 1) = fstL s l l.length from List.take_left' (by rw [← HFN.out, HF1.out]))
            clear ho7 hb7
            go_wp2_with fail
            refine (rFit_any t _ (fstL s l l.length ++ rstL s l l.length) Q _ K7.out (by rw [HLL.out]; omega) (by rw [HLL.out]; omega) (by rw [HTK.out]; exact fst_ok HOK.out.more) (fun a ha => by have := (HOK.out.1 a (HPERM.out.mem_iff.1 ha)).1; omega) (by rw [HTK.out]; exact HQ.out)).mono ?_
            rintro e w8 ⟨vp, vb, rfl, hop, hob, hb8⟩
            have HSB := Lib.hid (show srt (badL Q (fstL s l l.length ++ rstL s l l.length)) = srt (badL Q l) from srt_eq (badL_perm HPERM.out))
            rw [HSB.out] at hob
            have KP := Lib.hid hop
            have KB := Lib.hid hob
            have B8 := Lib.hid (below_trans B7.out hb8 hs7)
            have HS78 := Lib.hid hb8.size
            obtain ⟨Ab, cb, hvb, _, _⟩ := own_form hob.1
            rw [srt_length] at hvb
            obtain ⟨bn, hbn⟩ : ∃ bn, bn = (badL Q l).length := ⟨_, rfl⟩
            have HBN := Lib.hid hbn
            rw [← hbn] at hvb
            subst hvb
            clear hbn hop hob hb8
            try dsimp only
            by_cases hbig : wq < bn
            · have NX := Lib.hid (NO.out.fail HOK.out.more HQ.out (by rw [← HBN.out]; exact hbig))
              go_wp2_with fail
              exact ⟨⟨s + 1, by omega, by go_num, NX.out, B8.out⟩, by simp [intOf] <;> omega⟩
            · have hQl : Q.length ≤ t + 1 := by
                have h2 := HQ.out.2.1
                unfold ptsF at h2
                rw [List.length_map, ← HFN.out, HF1.out] at h2
                exact h2
              have HFIT := Lib.hid (show Fits t wq l Q from ⟨hQl, by rw [← HBN.out]; omega⟩)
              have hs8 := B8.out.size
              go_wp2_with fail
              go_loopw [14] (fun vq wx => ∃ c : Nat, Q.length + c ≤ t + 1 ∧ w7.heap.size ≤ wx.heap.size ∧ OwnNums wx w7.heap.size vq (ofFs Q ++ List.replicate c 0) ∧ OwnInts wx w7.heap.size (.slice Ab bn cb) (srt (badL Q l)) ∧ Below w.heap.size w wx) (fun vq _ => t + 1 - vlen vq)
              case atStart => exact ⟨0, by omega, HS78.out, by rw [List.replicate_zero, List.append_nil]; exact KP.out, KB.out, B8.out⟩
              case round =>
                obtain ⟨c, hc, hw7, hown, hob, hbx⟩ := hrel
                obtain ⟨Aq, cq, rfl, _, _⟩ := own_form hown.1
                have hql : (ofFs Q ++ List.replicate c 0).length = Q.length + c := by rw [List.length_append, ofFs_length, List.length_replicate]
                have KQ := Lib.hid hown
                have KBr := Lib.hid hob
                have BX := Lib.hid hbx
                have hsx := hbx.size
                have HQL := Lib.hid hql
                rw [hql]
                clear hown hob hbx hql KP KB
                by_cases hlc : Q.length + c < t + 1
                · have hlc' : decide (((Q.length + c : Nat) : Int) < (t : Int) + 1) = true := decide_eq_true (by omega)
                  have HL1 := Lib.hid (show (ofFs Q ++ List.replicate c 0).length + 1 ≤ 17592186043904 by rw [HQL.out]; omega)
                  have KQ2 := Lib.hid (show OwnNums wr w7.heap.size (.slice Aq (Q.length + c) cq) (ofFs Q ++ List.replicate c 0) by have := KQ.out; rwa [HQL.out] at this)
                  go_wp2_with (at_builtin; go_loud (refine wpList_push_num5 rfl _ _ rfl w7.heap.size _ _ 0 wr.heap.size 1 rfl (KQ2.out.alloc _) rfl (new_cell _ _ _) u64_zero HL1.out (by rw [size_alloc]; omega) ?_))
                  intro v9 w9 ho9 hb9 hg9 _
                  have ho9' : OwnNums w9 w7.heap.size v9 (ofFs Q ++ List.replicate (c + 1) 0) := by
                    rw [← fillL_more, List.append_assoc]
                    exact ho9
                  have K9 := Lib.hid ho9'
                  have KB9 := Lib.hid ((KBr.out.alloc (.cells #[.int .u64 0] 67)).kept hg9 (by
                    cases hzb : (Value.slice Ab bn cb).ownBlock with
                    | none => exact .inl rfl
                    | some b => exact .inr fun hvb => kinds_apart (KBr.out.alloc (.cells #[.int .u64 0] 67)).1 (KQ2.out.alloc (.cells #[.int .u64 0] 67)).1 (by decide) hzb hvb.symm))
                  have B9 := Lib.hid ((BX.out.alloc hsx (.cells #[.int .u64 0] 67)).trans (hb9.mono (by omega)))
                  have HS9 := Lib.hid (show w7.heap.size ≤ w9.heap.size by have h := hb9.size; rw [size_alloc] at h; omega)
                  obtain ⟨Az, cz, hvz, _, _⟩ := own_form ho9'.1
                  clear ho9 ho9' hb9 hg9
                  go_wp2_with fail
                  exact ⟨⟨c + 1, by omega, HS9.out, K9.out, KB9.out, B9.out⟩, by rw [hvz]; simp [vlen, ofFs_length]; omega⟩
                · have hlc' : decide (((Q.length + c : Nat) : Int) < (t : Int) + 1) = false := decide_eq_false (by omega)
                  have HC := Lib.hid (show c = t + 1 - Q.length by omega)
                  go_wp2_with fail
                  go_ret3
                  refine HP.out _ _ (.inl ⟨Q, HQ.out.1, HFIT.out, _, _, rfl, ?_, KBr.out.less (by omega), BX.out⟩)
                  have h := KQ.out.less (base' := w.heap.size) (by omega)
                  rw [HQL.out] at h
                  rw [fillL_short (by rw [ofFs_length]; omega), ofFs_length, ← HC.out]
                  exact h
          · have hF' : ((fn : Int) != (t : Int) + 1) = true := by rw [bne_iff_ne]; omega
            have NX := Lib.hid (NO.out.skip (by rw [← HFN.out]; exact hF))
            clear hF
            go_wp2_with fail
            exact ⟨⟨s + 1, by omega, by go_num, NX.out, B6.out⟩, by simp [intOf] <;> omega⟩
    · obtain rfl : s = NN := by omega
      have HNO := Lib.hid (show ∀ p, ¬ Fits t wq l p from NoSet.all hl (by have := NO.out; rwa [HNN.out] at this))
      go_wp2_with (refine wpList_shl_one _ _ _ _ l.length s HNN.out rfl rfl rfl rfl (by omega) ?_)
      go_ret3
      exact HP.out _ _ (.inr ⟨HNO.out, rfl, BEL.out⟩)
def OpenErr (w : World) (e : Ending) (w' : World) (err : Int) : Prop := e = .returned (.tuple #[.int .u64 0, .slice none 0 0, .int .i64 err]) ∧ Below w.heap.size w w'
def OpenRes (w : World) (e : Ending) (w' : World) (t wq : Nat) (l : List (Int × Int)) : Prop :=
  (∃ p, pnorm p = p ∧ Fits t wq l p ∧ ∃ vb, e = .returned (.tuple #[.int .u64 (ofF (peval p 0)), vb, .int .i64 0]) ∧ OwnInts w' w.heap.size vb (srt (badL p l)) ∧ Below w.heap.size w w') ∨
  ((∀ p, ¬ Fits t wq l p) ∧ OpenErr w e w' 6)
def mostW (t n : Nat) : Nat := min 4 ((n - t - 1) / 2)
theorem decE_most {t : Nat} {l : List (Int × Int)} (h : checkE t l = 0) : decE t (mostW t l.length) l = 0 := by
  obtain ⟨_, _, hl⟩ := checkE_zero.1 h
  unfold decE
  rw [if_neg (by rw [h]; decide), if_neg (by unfold mostW; omega), if_neg (by unfold mostW; omega)]
theorem dOpen_bad (t : Int) (va : Value) (l : List (Int × Int)) (w : World) (h1 : IsShares w va l) (h : checkE t l ≠ 0) :
    Calls Tryz.prog 111 #[.int .i64 t, va] w fun e w' => OpenErr w e w' (checkE t l) := by
  have KA := Lib.hid h1
  have hb : (checkE t l != 0) = true := by rw [bne_iff_ne]; exact h
  clear h h1
  go_enter Tryz.func111, Tryz.ntmps111
  go_wp2_with fail
  refine (sCheck_any t va l w KA.out).mono ?_
  rintro e w' ⟨rfl, hb'⟩
  have HB := Lib.hid hb'
  clear hb'
  try dsimp only
  go_wp2_with fail
  go_ret3
  exact ⟨rfl, HB.out⟩
theorem rRobust_bad (t : Int) (va : Value) (l : List (Int × Int)) (w : World) (h1 : IsShares w va l) (h : checkE t l ≠ 0) :
    Calls Tryz.prog 39 #[.int .i64 t, va] w fun e w' => OpenErr w e w' (checkE t l) := by
  have KA := Lib.hid h1
  have hb : (checkE t l != 0) = true := by rw [bne_iff_ne]; exact h
  clear h h1
  go_enter Tryz.func39, Tryz.ntmps39
  go_wp2_with fail
  refine (rShares_any t va l w KA.out).mono ?_
  rintro e w' ⟨rfl, nd, rfl⟩
  try dsimp only
  go_wp2_with fail
  go_ret3
  exact ⟨rfl, below_drewN (Below.refl _ _) _⟩
theorem fill_eval {p : List F} {n : Nat} (h : p.length ≤ n) (x : F) : peval (toFs (fillL (ofFs p) n)) x = peval p x := by
  refine peval_ext (fun i => ?_) x
  rw [fillL_short (by rw [ofFs_length]; exact h), toFs_append, toFs_ofFs]
  rcases Nat.lt_or_ge i p.length with h1 | h1
  · exact co_append_lt h1
  · rw [co_of_le h1]
    unfold co
    rw [List.getD_eq_getElem?_getD, List.getElem?_append_right h1]
    have e : toFs (List.replicate (n - (ofFs p).length) 0) = List.replicate (n - (ofFs p).length) 0 := by simp [toFs, toF_zero]
    rw [e]
    rcases Nat.lt_or_ge (i - p.length) (n - (ofFs p).length) with h2 | h2
    · rw [List.getElem?_replicate, if_pos h2]; rfl
    · rw [List.getElem?_replicate, if_neg (by omega)]; rfl
theorem peval_zero_co (p : List F) : peval p 0 = co p 0 := by
  cases p with
  | nil => rfl
  | cons a l => rw [peval_cons0, co_cons_zero]
set_option maxRecDepth 100000 in
theorem dOpen_ok (t : Nat) (va : Value) (l : List (Int × Int)) (w : World) (h1 : IsShares w va l) (h : checkE t l = 0) :
    Calls Tryz.prog 111 #[.int .i64 t, va] w fun e w' => OpenRes w e w' t (mostW t l.length) l := by
  have KA := Lib.hid h1
  have HE := Lib.hid h
  have HD := Lib.hid (decE_most h)
  obtain ⟨⟨_, ht4⟩, hok, hl⟩ := checkE_zero.1 h
  have hl9 := hok.few
  obtain ⟨A1, c1, rfl, hc1, hm1, hl1, hu1, hr1⟩ := h1
  obtain ⟨wq, hwq⟩ : ∃ wq, wq = mostW t l.length := ⟨_, rfl⟩
  rw [← hwq] at HD ⊢
  unfold mostW at hwq
  have HW := Lib.hid hwq
  clear hu1 hr1 hm1 hok h hwq
  suffices hgoal : ∀ Post : Ending → World → Prop, (∀ e w', OpenRes w e w' t wq l → Post e w') → Calls Tryz.prog 111 #[.int .i64 t, .slice A1 l.length c1] w Post from hgoal _ fun e w' h => h
  intro Post hpo
  have HP := Lib.hid hpo
  clear hpo
  obtain ⟨q, hq⟩ : ∃ q : Nat, q = (l.length - t - 1) / 2 := ⟨_, rfl⟩
  have hqi : ((l.length : Int) - (t : Int) - 1).tdiv 2 = (q : Int) := by
    rw [Int.tdiv_eq_ediv_of_nonneg (by omega)]; omega
  have hq4 : wq = min 4 q := by rw [HW.out, hq]
  have hqb : q ≤ 9 := by omega
  have hmin : min (4 : Int) (q : Int) = (wq : Int) := by omega
  clear hq hq4
  go_enter Tryz.func111, Tryz.ntmps111
  go_wp2_with fail
  refine (sCheck_any t _ l w KA.out).mono ?_
  rintro e W1 ⟨rfl, hb1⟩
  rw [HE.out]
  have B1 := Lib.hid hb1
  have C2 := Lib.hid (dDecode_ok t wq _ l W1 (KA.out.below hb1) HD.out)
  clear hb1
  try dsimp only
  go_wp2_with fail
  refine C2.out.mono ?_
  rintro e W2 (⟨p, hn, hf, vp, vb, rfl, hop, hob, hb2⟩ | ⟨hno, rfl, hb2⟩)
  · have KP := Lib.hid hop.is
    have KB := Lib.hid hob
    have B2 := Lib.hid (below_trans B1.out hb2 B1.out.size)
    have NP := Lib.hid hn
    have FP := Lib.hid hf
    have hs1 := B1.out.size
    clear hn hf hop hob hb2
    try dsimp only
    go_wp2_with fail
    refine (pAt_any _ _ 0 _ KP.out (by omega)).mono ?_
    rintro e W3 ⟨rfl, nd, rfl⟩
    rw [toF_zero, fill_eval FP.out.1]
    try dsimp only
    go_wp2_with fail
    go_ret3
    exact HP.out _ _ (.inl ⟨p, NP.out, FP.out, _, rfl, (KB.out.less hs1).drewN nd, below_drewN B2.out nd⟩)
  · have B2 := Lib.hid (below_trans B1.out hb2 B1.out.size)
    have NO := Lib.hid hno
    clear hb2 hno
    try dsimp only
    go_wp2_with fail
    go_ret3
    exact HP.out _ _ (.inr ⟨NO.out, rfl, B2.out⟩)
set_option maxRecDepth 100000 in
theorem rRobust_ok (t : Nat) (va : Value) (l : List (Int × Int)) (w : World) (h1 : IsShares w va l) (h : checkE t l = 0) :
    Calls Tryz.prog 39 #[.int .i64 t, va] w fun e w' => OpenRes w e w' t (mostW t l.length) l := by
  have KA := Lib.hid h1
  have HE := Lib.hid h
  have HD := Lib.hid (decE_most h)
  obtain ⟨⟨_, ht4⟩, hok, hl⟩ := checkE_zero.1 h
  have hl9 := hok.few
  obtain ⟨A1, c1, rfl, hc1, hm1, hl1, hu1, hr1⟩ := h1
  obtain ⟨wq, hwq⟩ : ∃ wq, wq = mostW t l.length := ⟨_, rfl⟩
  rw [← hwq] at HD ⊢
  unfold mostW at hwq
  have hw4 : wq ≤ 4 := by omega
  have HW := Lib.hid hwq
  clear hu1 hr1 hm1 hok h hwq
  suffices hgoal : ∀ Post : Ending → World → Prop, (∀ e w', OpenRes w e w' t wq l → Post e w') → Calls Tryz.prog 39 #[.int .i64 t, .slice A1 l.length c1] w Post from hgoal _ fun e w' h => h
  intro Post hpo
  have HP := Lib.hid hpo
  clear hpo
  go_enter Tryz.func39, Tryz.ntmps39
  go_wp2_with fail
  refine (rShares_any t _ l w KA.out).mono ?_
  rintro e W1' ⟨rfl, nd, rfl⟩
  rw [HE.out]
  obtain ⟨W1, hW1⟩ : ∃ W1, W1 = w.drewN nd := ⟨_, rfl⟩
  have B1 := Lib.hid (show Below w.heap.size w W1 by rw [hW1]; exact below_drewN (Below.refl _ _) nd)
  have hs1 : w.heap.size ≤ W1.heap.size := B1.out.size
  rw [← hW1]
  have C2 := Lib.hid (rDecode_ok t wq _ l W1 (KA.out.below B1.out) HD.out)
  clear hW1
  try dsimp only
  go_wp2_with fail
  go_loopw [8] (fun i wx => ∃ k : Nat, k ≤ wq ∧ i = .int .i64 k ∧ wx = W1) (fun i _ => wq - (intOf i).toNat)
  case atStart => exact ⟨0, Nat.zero_le _, rfl, rfl⟩
  case round =>
    obtain ⟨k, hk, rfl, rfl⟩ := hrel
    have key : k < wq ↔ k < 4 ∧ (t : Int) + 1 + 2 * ((k : Int) + 1) ≤ (l.length : Int) := by rw [HW.out]; omega
    by_cases hlk : k < wq
    · obtain ⟨k1, k2⟩ := key.1 hlk
      have d1 : decide ((k : Int) < 4) = true := decide_eq_true (by omega)
      have d2 : decide ((t : Int) + 1 + 2 * ((k : Int) + 1) ≤ (l.length : Int)) = true := decide_eq_true k2
      clear key
      go_wp2_with fail
      exact ⟨⟨k + 1, by omega, by go_num, trivial⟩, by simp [intOf] <;> omega⟩
    · obtain rfl : k = wq := by omega
      by_cases hk4 : k < 4
      · have d1 : decide ((k : Int) < 4) = true := decide_eq_true (by omega)
        have d2 : decide ((t : Int) + 1 + 2 * ((k : Int) + 1) ≤ (l.length : Int)) = false := decide_eq_false (fun h => hlk (key.2 ⟨hk4, h⟩))
        clear key hlk
        go_wp2_with fail
        refine C2.out.mono ?_
        rintro e W2 (⟨p, hn, hf, vp, vb, rfl, hop, hob, hb2⟩ | ⟨hno, rfl, hb2⟩)
        · have KP := Lib.hid hop.is
          have KB := Lib.hid hob
          have B2 := Lib.hid (below_trans B1.out hb2 B1.out.size)
          have NP := Lib.hid hn
          have FP := Lib.hid hf
          obtain ⟨A, c, rfl, _, _, _, hu, hr⟩ := hop.is
          obtain ⟨b1, o1, z, rfl, hb1, hg0, huz, hcz⟩ := nums_at hr hu (k := 0) (by rw [fillL_length]; omega)
          rw [fillL_length]
          have hcz0 : W2.cell? ⟨b1, o1, none⟩ = some (.int .u64 z) := by simpa using hcz
          have HZ := Lib.hid (show ofF (toF z) = ofF (peval p 0) from by
            rw [← fill_eval FP.out.1 0]
            have hh := toFs_get hg0
            rw [peval_zero_co, co_get hh])
          clear hn hf hop hob hb2 hu hr hg0 hb1
          try dsimp only
          go_wp2_with fail
          refine (rNorm_any _ _ huz).mono ?_
          rintro e w' ⟨rfl, rfl⟩
          rw [HZ.out]
          try dsimp only
          go_wp2_with fail
          go_ret3
          exact HP.out _ _ (.inl ⟨p, NP.out, FP.out, _, rfl, KB.out.less hs1, B2.out⟩)
        · have B2 := Lib.hid (below_trans B1.out hb2 B1.out.size)
          have NO := Lib.hid hno
          clear hb2 hno
          try dsimp only
          go_wp2_with fail
          go_ret3
          exact HP.out _ _ (.inr ⟨NO.out, rfl, B2.out⟩)
      · have d1 : decide ((k : Int) < 4) = false := decide_eq_false (by omega)
        clear key hlk
        go_wp2_with fail
        refine C2.out.mono ?_
        rintro e W2 (⟨p, hn, hf, vp, vb, rfl, hop, hob, hb2⟩ | ⟨hno, rfl, hb2⟩)
        · have KP := Lib.hid hop.is
          have KB := Lib.hid hob
          have B2 := Lib.hid (below_trans B1.out hb2 B1.out.size)
          have NP := Lib.hid hn
          have FP := Lib.hid hf
          obtain ⟨A, c, rfl, _, _, _, hu, hr⟩ := hop.is
          obtain ⟨b1, o1, z, rfl, hb1, hg0, huz, hcz⟩ := nums_at hr hu (k := 0) (by rw [fillL_length]; omega)
          rw [fillL_length]
          have hcz0 : W2.cell? ⟨b1, o1, none⟩ = some (.int .u64 z) := by simpa using hcz
          have HZ := Lib.hid (show ofF (toF z) = ofF (peval p 0) from by
            rw [← fill_eval FP.out.1 0]
            have hh := toFs_get hg0
            rw [peval_zero_co, co_get hh])
          clear hn hf hop hob hb2 hu hr hg0 hb1
          try dsimp only
          go_wp2_with fail
          refine (rNorm_any _ _ huz).mono ?_
          rintro e w' ⟨rfl, rfl⟩
          rw [HZ.out]
          try dsimp only
          go_wp2_with fail
          go_ret3
          exact HP.out _ _ (.inl ⟨p, NP.out, FP.out, _, rfl, KB.out.less hs1, B2.out⟩)
        · have B2 := Lib.hid (below_trans B1.out hb2 B1.out.size)
          have NO := Lib.hid hno
          clear hb2 hno
          try dsimp only
          go_wp2_with fail
          go_ret3
          exact HP.out _ _ (.inr ⟨NO.out, rfl, B2.out⟩)
end Go.Proofs.YtploomncapiloaaGreatDoor
