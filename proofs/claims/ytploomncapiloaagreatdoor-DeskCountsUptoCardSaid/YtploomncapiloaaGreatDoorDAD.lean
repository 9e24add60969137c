/- Parts of the proof, put together by a program: PolyM Shares ShareW Ints PlainB. No condition. -/
import Derived.Test.YtploomncapiloaaGreatDoorDAC
namespace Go.Proofs.YtploomncapiloaaGreatDoor
open Go.RowKit Croft
def sumL (A B : List F) (k : Nat) : List F := (List.range k).map fun i => co A i + co B i
theorem sumL_next (A B : List F) (k : Nat) : ofFs (sumL A B (k + 1)) = ofFs (sumL A B k) ++ [ofF (co A k + co B k)] := by
  simp [sumL, List.range_succ, ofFs]
theorem sumL_norm (A B : List F) (k : Nat) (hA : A.length ≤ k) (hB : B.length ≤ k) : pnorm (sumL A B k) = pnorm (padd A B) := by
  apply pnorm_ext
  intro i
  rw [co_add]
  rcases Nat.lt_or_ge i k with h | h
  · exact co_get (by simp [sumL, h])
  · rw [co_of_le (by simp [sumL]; exact h), co_of_le (l := A) (by omega), co_of_le (l := B) (by omega), F_az]
set_option maxRecDepth 100000 in
theorem rSum_any (va vb : Value) (xs ys : List Int) (w : World) (h1 : IsNums w va xs) (h2 : IsNums w vb ys) :
    Calls Tryz.prog 191 #[va, vb] w fun e w' => ∃ v, e = .returned v ∧ OwnNums w' w.heap.size v (ofFs (pnorm (padd (toFs xs) (toFs ys)))) ∧ Below w.heap.size w w' := by
  obtain ⟨A1, c1, rfl, hc1, hm1, hl1, hu1, hr1⟩ := h1
  obtain ⟨A2, c2, rfl, hc2, hm2, hl2, hu2, hr2⟩ := h2
  go_enter Tryz.func191, Tryz.ntmps191
  go_wp2_with fail
  go_loopw [5, 6] (fun v i wr => ∃ k : Nat, (k ≤ xs.length ∨ k ≤ ys.length) ∧ i = .int .i64 k ∧ OwnNums wr w.heap.size v (ofFs (sumL (toFs xs) (toFs ys) k)) ∧ Below w.heap.size w wr) (fun _ i _ => max xs.length ys.length - (intOf i).toNat)
  case atStart => exact ⟨0, .inl (Nat.zero_le _), rfl, OwnNums.nil _ _, Below.refl _ _⟩
  case round =>
    obtain ⟨k, hk, rfl, hown, hbel⟩ := hrel
    have hsz := hbel.size
    have HO := Lib.hid hown
    have HBE := Lib.hid hbel
    have k1 := hr1.below hbel
    have k2 := hr2.below hbel
    have HN := Lib.hid (sumL_next (toFs xs) (toFs ys) k)
    clear hown hbel hr1 hr2
    by_cases hx : k < xs.length
    · obtain ⟨b1, o1, x, rfl, hb1, hx1, hux, hcx⟩ := nums_at k1 hu1 hx
      have HX := Lib.hid (co_toFs hx1)
      by_cases hy : k < ys.length
      · obtain ⟨b2, o2, y, rfl, hb2, hy1, huy, hcy⟩ := nums_at k2 hu2 hy
        have HY := Lib.hid (co_toFs hy1)
        clear hx1 hy1 k1 k2 hb1 hb2
        go_wp2_with fail
        refine (rAdd_any _ _ _ u64_zero hux).mono ?_
        rintro e w' ⟨rfl, rfl⟩
        rw [toF_zero, F_za]
        try dsimp only
        go_wp2_with fail
        refine (rAdd_any _ _ _ (U64.of_ofF _) huy).mono ?_
        rintro e w' ⟨rfl, rfl⟩
        rw [toF_ofF]
        go_wp2_with (at_builtin; refine wpList_push rfl _ _ rfl w.heap.size _ _ (ofF (toF x + toF y)) wr.heap.size 1 rfl (HO.out.alloc _) rfl (new_cell _ _ _) (U64.of_ofF _) (by rw [ofFs_length]; simp only [sumL, List.length_map, List.length_range]; omega) (by simp; omega) ?_)
        intro v' w' hown' hbel'
        go_wp2_with fail
        refine ⟨⟨k + 1, by omega, by go_num, by rw [HN.out, HX.out, HY.out]; exact hown', (HBE.out.alloc hsz _).trans hbel'⟩, by simp [intOf]; omega⟩
      · have HY := Lib.hid (show co (toFs ys) k = 0 from co_of_le (by rw [toFs_length]; omega))
        clear hx1 k1 k2 hb1
        go_wp2_with fail
        refine (rAdd_any _ _ _ u64_zero hux).mono ?_
        rintro e w' ⟨rfl, rfl⟩
        rw [toF_zero, F_za]
        go_wp2_with (at_builtin; refine wpList_push rfl _ _ rfl w.heap.size _ _ (ofF (toF x)) wr.heap.size 1 rfl (HO.out.alloc _) rfl (new_cell _ _ _) (U64.of_ofF _) (by rw [ofFs_length]; simp only [sumL, List.length_map, List.length_range]; omega) (by simp; omega) ?_)
        intro v' w' hown' hbel'
        go_wp2_with fail
        refine ⟨⟨k + 1, by omega, by go_num, by rw [HN.out, HX.out, HY.out, F_az]; exact hown', (HBE.out.alloc hsz _).trans hbel'⟩, by simp [intOf]; omega⟩
    · have HX := Lib.hid (show co (toFs xs) k = 0 from co_of_le (by rw [toFs_length]; omega))
      by_cases hy : k < ys.length
      · obtain ⟨b2, o2, y, rfl, hb2, hy1, huy, hcy⟩ := nums_at k2 hu2 hy
        have HY := Lib.hid (co_toFs hy1)
        clear hy1 k1 k2 hb2
        go_wp2_with fail
        refine (rAdd_any _ _ _ u64_zero huy).mono ?_
        rintro e w' ⟨rfl, rfl⟩
        rw [toF_zero, F_za]
        go_wp2_with (at_builtin; refine wpList_push rfl _ _ rfl w.heap.size _ _ (ofF (toF y)) wr.heap.size 1 rfl (HO.out.alloc _) rfl (new_cell _ _ _) (U64.of_ofF _) (by rw [ofFs_length]; simp only [sumL, List.length_map, List.length_range]; omega) (by simp; omega) ?_)
        intro v' w' hown' hbel'
        go_wp2_with fail
        refine ⟨⟨k + 1, by omega, by go_num, by rw [HN.out, HX.out, HY.out, F_za]; exact hown', (HBE.out.alloc hsz _).trans hbel'⟩, by simp [intOf]; omega⟩
      · have HE := Lib.hid (sumL_norm (toFs xs) (toFs ys) k (by rw [toFs_length]; omega) (by rw [toFs_length]; omega))
        clear k1 k2
        go_wp2_with fail
        refine (rNormal_any _ _ _ HO.out.is).mono ?_
        rintro e w' ⟨v, rfl, ho, hb⟩
        rw [toFs_ofFs, HE.out] at ho
        have ho2 := ho.less hsz
        have hb2 := below_trans HBE.out hb hsz
        clear ho hb
        go_wp2_with fail
        go_ret
        exact ⟨_, rfl, ho2, hb2⟩
theorem ofFs_set (l : List F) (k : Nat) (a : F) : (ofFs l).set k (ofF a) = ofFs (l.set k a) := by simp [ofFs, List.map_set]
theorem pmulS_none {A B : List F} (h : A.length = 0 ∨ B.length = 0) : pmulS A B = [] := by
  unfold pmulS
  rw [if_pos]
  exact h.imp List.eq_nil_of_length_eq_zero List.eq_nil_of_length_eq_zero
set_option maxRecDepth 100000 in
theorem pmul_any (va vb : Value) (xs ys : List Int) (w : World) (h1 : IsNums w va xs) (h2 : IsNums w vb ys) (hx : xs.length ≤ 1000000) (hy : ys.length ≤ 1000000) :
    Calls Tryz.prog 182 #[va, vb] w fun e w' => ∃ v, e = .returned v ∧ OwnNums w' w.heap.size v (ofFs (pmulS (toFs xs) (toFs ys))) ∧ Below w.heap.size w w' := by
  obtain ⟨A1, c1, rfl, hc1, hm1, hl1, hu1, hr1⟩ := h1
  obtain ⟨A2, c2, rfl, hc2, hm2, hl2, hu2, hr2⟩ := h2
  by_cases ha : xs.length = 0
  · have HE := Lib.hid (pmulS_none (A := toFs xs) (B := toFs ys) (.inl (by rw [toFs_length]; exact ha)))
    have he1 : ((xs.length : Int) == 0) = true := by rw [beq_iff_eq]; omega
    clear ha
    go_enter Tryz.func182, Tryz.ntmps182
    go_wp2_with fail
    go_ret
    exact ⟨_, rfl, by rw [HE.out]; exact OwnNums.nil _ _, Below.refl _ _⟩
  by_cases hb : ys.length = 0
  · have HE := Lib.hid (pmulS_none (A := toFs xs) (B := toFs ys) (.inr (by rw [toFs_length]; exact hb)))
    have he1 : ((xs.length : Int) == 0) = false := by rw [beq_eq_false_iff_ne]; omega
    have he2 : ((ys.length : Int) == 0) = true := by rw [beq_iff_eq]; omega
    clear ha hb
    go_enter Tryz.func182, Tryz.ntmps182
    go_wp2_with fail
    go_ret
    exact ⟨_, rfl, by rw [HE.out]; exact OwnNums.nil _ _, Below.refl _ _⟩
  have HF := Lib.hid (mulL_full (toFs xs) (toFs ys) (by rintro h; have := congrArg List.length h; rw [toFs_length] at this; exact ha this) (by rintro h; have := congrArg List.length h; rw [toFs_length] at this; exact hb this))
  have he1 : ((xs.length : Int) == 0) = false := by rw [beq_eq_false_iff_ne]; omega
  have he2 : ((ys.length : Int) == 0) = false := by rw [beq_eq_false_iff_ne]; omega
  obtain ⟨N, hN⟩ : ∃ N, N = (toFs xs).length + (toFs ys).length - 1 := ⟨_, rfl⟩
  have hN1 : N + 1 ≤ xs.length + ys.length := by rw [hN, toFs_length, toFs_length]; omega
  have hN2 : xs.length + ys.length ≤ N + 1 := by rw [hN, toFs_length, toFs_length]; omega
  have HZ := Lib.hid (mulL_zero (toFs xs) (toFs ys))
  have HN := Lib.hid hN
  clear ha hb hN
  go_enter Tryz.func182, Tryz.ntmps182
  go_wp2_with (refine wpList_make_nums rfl _ _ rfl w.heap.size _ N rfl rfl (by omega) (by omega) (Nat.le_refl _) ?_)
  intro w1 ho1 hb1
  have HO1 := Lib.hid (show OwnNums w1 w.heap.size (.slice (some ⟨w.heap.size, 0, none⟩) N N) (ofFs (mulL (toFs xs) (toFs ys) 0 0)) by
    rw [HZ.out, ← HN.out]
    have : ofFs (List.replicate N 0) = List.replicate N 0 := by simp [ofFs, ofF_zero]
    rw [this]; exact ho1)
  have HB1 := Lib.hid hb1
  clear ho1 hb1
  go_wp2_with fail
  go_loopw [27] (fun i wr => ∃ k : Nat, k ≤ xs.length ∧ i = .int .i64 k ∧ OwnNums wr w.heap.size (.slice (some ⟨w.heap.size, 0, none⟩) N N) (ofFs (mulL (toFs xs) (toFs ys) k 0)) ∧ Below w.heap.size w wr) (fun i _ => xs.length - (intOf i).toNat)
  case atStart => exact ⟨0, Nat.zero_le _, rfl, HO1.out, HB1.out⟩
  case round =>
    obtain ⟨k, hk, rfl, hown, hbel⟩ := hrel
    have HO := Lib.hid hown
    have HBE := Lib.hid hbel
    clear HO1 HB1
    by_cases hlt : k < xs.length
    · obtain ⟨b1, o1, x, rfl, hb1, hx1, hux, hcx⟩ := nums_at (hr1.below hbel) hu1 hlt
      have HX := Lib.hid (co_toFs hx1)
      have hx0 := hux.1
      obtain ⟨wo, hwo⟩ : ∃ wo, wo = wr := ⟨_, rfl⟩
      subst hwo
      clear hx1 hb1 hown hbel hr1
      go_wp2_with fail
      clear hcx
      go_loopw [34] (fun i wr => ∃ j : Nat, j ≤ ys.length ∧ i = .int .i64 j ∧ OwnNums wr w.heap.size (.slice (some ⟨w.heap.size, 0, none⟩) N N) (ofFs (mulL (toFs xs) (toFs ys) k j)) ∧ Below w.heap.size w wr) (fun i _ => ys.length - (intOf i).toNat)
      case atStart => exact ⟨0, Nat.zero_le _, rfl, HO.out, HBE.out⟩
      case round =>
        obtain ⟨j, hj, rfl, hown, hbel⟩ := hrel
        by_cases hlt2 : j < ys.length
        · obtain ⟨b2, o2, y, rfl, hb2, hy1, huy, hcy⟩ := nums_at (hr2.below hbel) hu2 hlt2
          have hy0 := huy.1
          have hkj : k + j < N := by omega
          have hcell := hown.cell (ofFs_get (mulL_get (toFs xs) (toFs ys) k j (i := k + j) (by rw [← HN.out]; exact hkj)))
          have hfr := hown.frozen (k + j)
          have HS := Lib.hid (hown.set_ (k + j) (U64.of_ofF (mulG (toFs xs) (toFs ys) k j (k + j) + toF x * toF y)))
          rw [ofFs_set, ← HX.out, ← co_toFs hy1, mulL_set] at HS
          rw [HX.out, co_toFs hy1] at HS
          have HB2 := Lib.hid (hbel.setCell (p := ⟨w.heap.size, k + j, none⟩) (Nat.le_refl _) (.int .u64 (ofF (mulG (toFs xs) (toFs ys) k j (k + j) + toF x * toF y))))
          clear hy1 hb2 hown hbel hr2 HO HBE
          generalize mulG (toFs xs) (toFs ys) k j (k + j) = G at *
          go_wp2_with fail
          refine wp_region_quiet_tail 15 (by kernel_rfl) (by kernel_rfl) ?_
          simp only [List.take_succ_cons, List.take_zero, List.drop_succ_cons, List.drop_zero]
          repeat (go_big_quiet_step ((first | exact quietL (fMul_any _ _ _ hx0 hy0) | exact quietL (fAdd_any _ _ _ (ofF_nonneg _) (ofF_nonneg _)))))
          refine wpQuiet_nil ?_
          intro nq
          go_wp2_with fail
          simp only [toF_ofF]
          refine ⟨⟨j + 1, by omega, by go_num, HS.out.drewN nq, below_drewN HB2.out nq⟩, by simp [intOf]; omega⟩
        · have HO2 := Lib.hid hown
          have HB2 := Lib.hid hbel
          clear hown hbel
          go_wp2_with fail
          refine ⟨⟨k + 1, by omega, by go_num, ?_, HB2.out⟩, by simp [intOf]; omega⟩
          obtain rfl : j = ys.length := by omega
          rw [← mulL_next, toFs_length]; exact HO2.out
    · clear hown hbel
      go_wp2_with fail
      go_ret
      obtain rfl : k = xs.length := by omega
      have h := HO.out
      rw [← toFs_length xs, HF.out] at h
      exact ⟨_, rfl, h, HBE.out⟩
def I64 (n : Int) : Prop := -9223372036854775808 ≤ n ∧ n ≤ 9223372036854775807
def shs (l : List (Int × Int)) : List Value := l.flatMap fun s => [Value.int .i64 s.1, Value.int .u64 s.2]
theorem shs_length (l : List (Int × Int)) : (shs l).length = l.length * 2 := by
  induction l with
  | nil => rfl
  | cons s l ih => simp only [shs, List.flatMap_cons, List.length_append, List.length_cons, List.length_nil] at *; omega
theorem shs_cons (s : Int × Int) (l : List (Int × Int)) : shs (s :: l) = .int .i64 s.1 :: .int .u64 s.2 :: shs l := rfl
theorem shs_get (l : List (Int × Int)) : ∀ (k : Nat) (s : Int × Int), l[k]? = some s → (shs l)[k * 2]? = some (.int .i64 s.1) ∧ (shs l)[k * 2 + 1]? = some (.int .u64 s.2) := by
  induction l with
  | nil => intro k s h; simp at h
  | cons a l ih =>
    intro k s h
    rw [shs_cons]
    cases k with
    | zero => simp at h; subst h; exact ⟨rfl, rfl⟩
    | succ k =>
      have := ih k s (by simpa using h)
      rw [show (k + 1) * 2 = k * 2 + 1 + 1 by omega]
      simpa using this
def IsShares (w : World) (v : Value) (l : List (Int × Int)) : Prop :=
  ∃ A cap, v = .slice A l.length cap ∧ l.length ≤ cap ∧ cap ≤ maxLen ∧ l.length ≤ 8796093022208 ∧ (∀ s ∈ l, I64 s.1 ∧ U64 s.2) ∧ Cells w A (shs l)
theorem IsShares.below {w w' : World} {v : Value} {l : List (Int × Int)} (h : IsShares w v l) (hb : Below w.heap.size w w') : IsShares w' v l := by
  obtain ⟨A, cap, h1, h2, h3, h4, h5, h6⟩ := h
  exact ⟨A, cap, h1, h2, h3, h4, h5, h6.below hb⟩
theorem share_at {w : World} {A : Option Addr} {l : List (Int × Int)} (h : Cells w A (shs l)) (h5 : ∀ s ∈ l, I64 s.1 ∧ U64 s.2) {k : Nat} (hk : k < l.length) :
    ∃ b o at_ y, A = some ⟨b, o, none⟩ ∧ b < w.heap.size ∧ l[k]? = some (at_, y) ∧ I64 at_ ∧ U64 y ∧ w.cell? ⟨b, o + k * 2, none⟩ = some (.int .i64 at_) ∧ w.cell? ⟨b, o + k * 2 + 1, none⟩ = some (.int .u64 y) := by
  obtain ⟨b, o, rfl, hb, hc⟩ := h.at_ (j := k * 2) (by rw [shs_length]; omega)
  have hg : l[k]? = some l[k] := List.getElem?_eq_getElem hk
  obtain ⟨g1, g2⟩ := shs_get l k _ hg
  obtain ⟨u1, u2⟩ := h5 _ (List.getElem_mem hk)
  refine ⟨b, o, l[k].1, l[k].2, rfl, hb, hg, u1, u2, ?_, ?_⟩
  · rw [hc _ (by rw [shs_length]; omega), g1]
  · rw [Nat.add_assoc, hc _ (by rw [shs_length]; omega), g2]
def AtsOk (l : List (Int × Int)) (most : Int) : Prop := (∀ s ∈ l, 1 ≤ s.1 ∧ s.1 ≤ most) ∧ (l.map (·.1)).Nodup
instance (l : List (Int × Int)) (most : Int) : Decidable (AtsOk l most) := by unfold AtsOk; infer_instance
def atsB (l : List (Int × Int)) (most : Int) : Bool := decide (AtsOk l most)
theorem atsOk_take {l : List (Int × Int)} {most : Int} {k : Nat} {at_ y : Int} (hg : l[k]? = some (at_, y)) : AtsOk (l.take (k + 1)) most ↔ AtsOk (l.take k) most ∧ (1 ≤ at_ ∧ at_ ≤ most) ∧ at_ ∉ (l.take k).map (·.1) := by
  unfold AtsOk
  rw [List.take_add_one, hg]
  simp only [Option.toList, List.map_append, List.map_cons, List.map_nil, List.mem_append, List.mem_singleton]
  rw [List.nodup_append]
  constructor
  · rintro ⟨h1, h2, _, h3⟩
    refine ⟨⟨fun s hs => h1 s (.inl hs), h2⟩, h1 _ (.inr rfl), fun hm => h3 _ hm _ (by simp) rfl⟩
  · rintro ⟨⟨h1, h2⟩, h3, h4⟩
    refine ⟨fun s hs => ?_, h2, by simp, fun a ha b hb => ?_⟩
    · rcases hs with hs | rfl
      · exact h1 s hs
      · exact h3
    · simp at hb; subst hb; rintro rfl; exact h4 ha
theorem atsOk_mono {l : List (Int × Int)} {most : Int} (k : Nat) (h : AtsOk l most) : AtsOk (l.take k) most :=
  ⟨fun s hs => h.1 s (List.mem_of_mem_take hs), by rw [List.map_take]; exact h.2.sublist (List.take_sublist _ _)⟩
def OwnShares (w : World) (base : Nat) (v : Value) (l : List (Int × Int)) : Prop :=
  w.ownsRow base 71 2 v l.length (shs l) ∧ l.length ≤ 8796093022208 ∧ (∀ s ∈ l, I64 s.1 ∧ U64 s.2)
theorem OwnShares.is {w : World} {base : Nat} {v : Value} {l : List (Int × Int)} (h : OwnShares w base v l) : IsShares w v l := by
  obtain ⟨h1, h2, h3⟩ := h
  obtain ⟨A, cap, rfl, h4, h5⟩ := own_form h1
  exact ⟨A, cap, rfl, h4, h5, h2, h3, Cells.of_own h1⟩
theorem OwnShares.nil (w : World) (base : Nat) : OwnShares w base (.slice none 0 0) [] := ⟨World.ownsRow_nil _ _ _ _, by simp, by simp⟩
theorem OwnShares.alloc {w : World} {base : Nat} {v : Value} {l : List (Int × Int)} (h : OwnShares w base v l) (o : Obj) : OwnShares (w.alloc o) base v l := ⟨h.1.alloc o, h.2⟩
theorem OwnShares.drewN {w : World} {base : Nat} {v : Value} {l : List (Int × Int)} (h : OwnShares w base v l) (n : Nat) : OwnShares (w.drewN n) base v l := h
theorem shs_snoc (l : List (Int × Int)) (s : Int × Int) : shs (l ++ [s]) = shs l ++ [.int .i64 s.1, .int .u64 s.2] := by simp [shs]
theorem sinfo : (Tryz.prog.info? 71).map (fun i => (i.zero, i.size, i.bytes)) = some (some (.agg #[.int .i64 0, .int .u64 0]), 2, 16) := by kernel_rfl
theorem pair_cell0 (w : World) (x y : Value) (t : TypeId) : (w.alloc (.cells #[x, y] t)).cell? ⟨w.heap.size, 0, none⟩ = some x := by
  rw [cell_of_row _ _ 0 #[x, y] t (0, 0) (heap_alloc_new w _)]; rfl
theorem pair_cell1 (w : World) (x y : Value) (t : TypeId) : (w.alloc (.cells #[x, y] t)).cell? ⟨w.heap.size, 1, none⟩ = some y := by
  rw [cell_of_row _ _ 1 #[x, y] t (0, 0) (heap_alloc_new w _)]; rfl
theorem wpList_push_share {ops : Array Oper} {rest : List Oper} {o : Oper} {a : Act} {Q : Exit → Act → World → Prop} {w : World} (hgd : o.guard = none) (s x : Operand)
    (ho : o.op = .call { callee := .builtin .append, args := #[s, x], argTypes := #[69, 69] })
    (base : Nat) (v : Value) (l : List (Int × Int)) (n z : Int) (g c : Nat) (hs : a.eval s = v) (hown : OwnShares w base v l) (hx : a.eval x = .slice (some ⟨g, 0, none⟩) 1 c)
    (hc : w.cell? ⟨g, 0, none⟩ = some (.int .i64 n)) (hc2 : w.cell? ⟨g, 1, none⟩ = some (.int .u64 z)) (hn : I64 n) (hz : U64 z) (hl : l.length + 1 ≤ 8796093022208) (hb : base ≤ w.heap.size)
    (h : ∀ v' w', OwnShares w' base v' (l ++ [(n, z)]) → Below base w w' → wpList Tryz.prog ops Q rest (a.put o.dst v') w') : wpList Tryz.prog ops Q (o :: rest) a w := by
  obtain ⟨i0, hi, hz0, hz1, hz2⟩ := info_parts sinfo
  refine wpList_append_own w hgd s x 69 ho base 71 i0 (.agg #[.int .i64 0, .int .u64 0]) 2 16 Tryz.underlying69 hi hz0 hz1 hz2 rfl (by decide) v l.length (shs l) hs hown.1 ⟨g, 0, none⟩ 1 c [.int .i64 n, .int .u64 z] hx rfl ?_ ?_ ?_ ?_ hb ?_
  · intro j u hu
    match j, hu with
    | 0, hu =>
      simp at hu
      subst hu
      rw [add_addr]; exact hc
    | 1, hu =>
      simp at hu
      subst hu
      rw [add_addr]; exact hc2
  · intro u hu
    simp at hu
    rcases hu with rfl | rfl <;> rfl
  · unfold maxLen; omega
  · omega
  · intro v' w' h1 h2 _
    refine h v' w' ⟨?_, ?_, ?_⟩ ((Below.refl _ _).grown h2 hb (fun k hk => (hown.1.lt k hk).1))
    · have e : (l ++ [(n, z)]).length = l.length + 1 := by simp
      rw [e, shs_snoc]; exact h1
    · simpa using hl
    · intro y hy
      rcases List.mem_append.1 hy with h3 | h3
      · exact hown.2.2 y h3
      · simp at h3; subst h3; exact ⟨hn, hz⟩
def i64s (zs : List Int) : List Value := zs.map (Value.int .i64)
theorem i64s_length (zs : List Int) : (i64s zs).length = zs.length := by simp [i64s]
theorem i64s_get (zs : List Int) (j : Nat) : (i64s zs)[j]? = (zs[j]?).map (Value.int .i64) := by simp [i64s]
def IsInts (w : World) (v : Value) (zs : List Int) : Prop :=
  ∃ A cap, v = .slice A zs.length cap ∧ zs.length ≤ cap ∧ cap ≤ maxLen ∧ zs.length ≤ 17592186043904 ∧ (∀ z ∈ zs, I64 z) ∧ Cells w A (i64s zs)
theorem IsInts.below {w w' : World} {v : Value} {zs : List Int} (h : IsInts w v zs) (hb : Below w.heap.size w w') : IsInts w' v zs := by
  obtain ⟨A, cap, h1, h2, h3, h4, h5, h6⟩ := h
  exact ⟨A, cap, h1, h2, h3, h4, h5, h6.below hb⟩
theorem IsInts.drewN {w : World} {v : Value} {zs : List Int} (h : IsInts w v zs) (n : Nat) : IsInts (w.drewN n) v zs := h
theorem IsInts.nil (w : World) : IsInts w (.slice none 0 0) [] := ⟨none, 0, rfl, Nat.le_refl _, by simp [maxLen], by simp, by simp, .inl rfl⟩
theorem ints_at {w : World} {A : Option Addr} {zs : List Int} (h : Cells w A (i64s zs)) (h5 : ∀ z ∈ zs, I64 z) {k : Nat} (hk : k < zs.length) :
    ∃ b o z, A = some ⟨b, o, none⟩ ∧ b < w.heap.size ∧ zs[k]? = some z ∧ I64 z ∧ w.cell? ⟨b, o + k, none⟩ = some (.int .i64 z) := by
  obtain ⟨b, o, rfl, hb, hc⟩ := h.at_ (j := k) (by rw [i64s_length]; exact hk)
  have hg : zs[k]? = some zs[k] := List.getElem?_eq_getElem hk
  exact ⟨b, o, zs[k], rfl, hb, hg, h5 _ (List.getElem_mem hk), by rw [hc k (by rw [i64s_length]; exact hk), i64s_get, hg]; rfl⟩
def OwnInts (w : World) (base : Nat) (v : Value) (zs : List Int) : Prop :=
  w.ownsRow base 3 1 v zs.length (i64s zs) ∧ zs.length ≤ 17592186043904 ∧ (∀ z ∈ zs, I64 z)
theorem OwnInts.is {w : World} {base : Nat} {v : Value} {zs : List Int} (h : OwnInts w base v zs) : IsInts w v zs := by
  obtain ⟨h1, h2, h3⟩ := h
  obtain ⟨A, cap, rfl, h4, h5⟩ := own_form h1
  exact ⟨A, cap, rfl, h4, h5, h2, h3, Cells.of_own h1⟩
theorem OwnInts.nil (w : World) (base : Nat) : OwnInts w base (.slice none 0 0) [] := ⟨World.ownsRow_nil _ _ _ _, by simp, by simp⟩
theorem OwnInts.alloc {w : World} {base : Nat} {v : Value} {zs : List Int} (h : OwnInts w base v zs) (o : Obj) : OwnInts (w.alloc o) base v zs := ⟨h.1.alloc o, h.2⟩
theorem OwnInts.drewN {w : World} {base : Nat} {v : Value} {zs : List Int} (h : OwnInts w base v zs) (n : Nat) : OwnInts (w.drewN n) base v zs := h
theorem OwnInts.below {w w' : World} {base : Nat} {v : Value} {zs : List Int} (h : OwnInts w base v zs) (hb : Below w.heap.size w w') : OwnInts w' base v zs := ⟨own_kept h.1 hb, h.2⟩
theorem OwnInts.less {w : World} {base base' : Nat} {v : Value} {zs : List Int} (h : OwnInts w base v zs) (hb : base' ≤ base) : OwnInts w base' v zs := by
  refine ⟨⟨h.1.1, ?_⟩, h.2⟩
  rcases h.1.2 with h1 | ⟨g, cap, cur, hv, hg, r⟩
  · exact .inl h1
  · exact .inr ⟨g, cap, cur, hv, by omega, r⟩
theorem iinfo : (Tryz.prog.info? 3).map (fun i => (i.zero, i.size, i.bytes)) = some (some (.int .i64 0), 1, 8) := by kernel_rfl
theorem wpList_push_int {ops : Array Oper} {rest : List Oper} {o : Oper} {a : Act} {Q : Exit → Act → World → Prop} {w : World} (hgd : o.guard = none) (s x : Operand)
    (ho : o.op = .call { callee := .builtin .append, args := #[s, x], argTypes := #[53, 53] })
    (base : Nat) (v : Value) (zs : List Int) (z : Int) (g c : Nat) (hs : a.eval s = v) (hown : OwnInts w base v zs) (hx : a.eval x = .slice (some ⟨g, 0, none⟩) 1 c)
    (hc : w.cell? ⟨g, 0, none⟩ = some (.int .i64 z)) (hz : I64 z) (hl : zs.length + 1 ≤ 17592186043904) (hb : base ≤ w.heap.size)
    (h : ∀ v' w', OwnInts w' base v' (zs ++ [z]) → Below base w w' → wpList Tryz.prog ops Q rest (a.put o.dst v') w') : wpList Tryz.prog ops Q (o :: rest) a w := by
  obtain ⟨i0, hi, hz0, hz1, hz2⟩ := info_parts iinfo
  refine wpList_append_own w hgd s x 53 ho base 3 i0 (.int .i64 0) 1 8 Tryz.underlying53 hi hz0 hz1 hz2 rfl (by decide) v zs.length (i64s zs) hs hown.1 ⟨g, 0, none⟩ 1 c [.int .i64 z] hx rfl ?_ ?_ ?_ ?_ hb ?_
  · intro j u hu
    match j, hu with
    | 0, hu =>
      simp at hu
      subst hu
      rw [add_addr]; exact hc
  · intro u hu
    simp at hu
    subst hu; rfl
  · unfold maxLen; omega
  · omega
  · intro v' w' h1 h2 _
    refine h v' w' ⟨?_, ?_, ?_⟩ ((Below.refl _ _).grown h2 hb (fun k hk => (hown.1.lt k hk).1))
    · have e : (zs ++ [z]).length = zs.length + 1 := by simp
      have e2 : i64s (zs ++ [z]) = i64s zs ++ [.int .i64 z] := by simp [i64s]
      rw [e, e2]; exact h1
    · simpa using hl
    · intro y hy
      rcases List.mem_append.1 hy with h3 | h3
      · exact hown.2.2 y h3
      · simp at h3; subst h3; exact hz
end Go.Proofs.YtploomncapiloaaGreatDoor
namespace Croft
def subAt (a : List F) (i : Nat) (c : F) (b : List F) (j : Nat) : List F := (List.range a.length).map fun k => co a k - (if i ≤ k ∧ k < i + j then c * co b (k - i) else 0)
theorem subAt_length (a : List F) (i : Nat) (c : F) (b : List F) (j : Nat) : (subAt a i c b j).length = a.length := by simp [subAt]
theorem co_subAt (a : List F) (i : Nat) (c : F) (b : List F) (j k : Nat) (hk : k < a.length) : co (subAt a i c b j) k = co a k - (if i ≤ k ∧ k < i + j then c * co b (k - i) else 0) := co_get (by simp [subAt, hk])
theorem subAt_zero (a : List F) (i : Nat) (c : F) (b : List F) : subAt a i c b 0 = a := by
  apply list_ext_co (subAt_length _ _ _ _ _)
  intro k
  rcases Nat.lt_or_ge k a.length with h | h
  · rw [co_subAt _ _ _ _ _ _ h, if_neg (by omega), F_sz]
  · rw [co_of_le (by rw [subAt_length]; exact h), co_of_le h]
theorem co_set_ne (q : List F) (i p : Nat) (c : F) (h : p ≠ i) : co (q.set i c) p = co q p := by
  unfold co
  rw [List.getD_eq_getElem?_getD, List.getElem?_set_ne (by omega), ← List.getD_eq_getElem?_getD]
theorem subAt_set (a : List F) (i : Nat) (c : F) (b : List F) (j : Nat) : (subAt a i c b j).set (i + j) (co (subAt a i c b j) (i + j) - c * co b j) = subAt a i c b (j + 1) := by
  apply list_ext_co
  · rw [List.length_set, subAt_length, subAt_length]
  · intro k
    rcases Nat.lt_or_ge k a.length with hk | hk
    · rw [co_subAt _ _ _ _ _ _ hk]
      by_cases hki : k = i + j
      · subst hki
        rw [if_pos (by omega), show i + j - i = j by omega]
        have : co ((subAt a i c b j).set (i + j) (co (subAt a i c b j) (i + j) - c * co b j)) (i + j) = co (subAt a i c b j) (i + j) - c * co b j := co_get (by rw [List.getElem?_set_self (by rw [subAt_length]; exact hk)])
        rw [this, co_subAt _ _ _ _ _ _ hk, if_neg (by omega), F_sz]
      · have : co ((subAt a i c b j).set (i + j) (co (subAt a i c b j) (i + j) - c * co b j)) k = co (subAt a i c b j) k := by
          exact co_set_ne _ _ _ _ hki
        rw [this, co_subAt _ _ _ _ _ _ hk]
        congr 1
        by_cases h1 : i ≤ k ∧ k < i + j
        · rw [if_pos h1, if_pos (by omega)]
        · rw [if_neg h1, if_neg (by omega)]
    · rw [co_of_le (by rw [List.length_set, subAt_length]; exact hk), co_of_le (by rw [subAt_length]; exact hk)]
structure DivInv (a0 b q a : List F) (i : Nat) : Prop where
  la : a.length = a0.length
  lq : q.length = a0.length - b.length + 1
  zero : ∀ k, i + b.length - 1 ≤ k → co a k = 0
  sum : ∀ k, fsum (k + 1) (fun p => co q p * co b (k - p)) + co a k = co a0 k
  low : ∀ p, p < i → co q p = 0
theorem DivInv.start (a0 b : List F) (_hb : 1 ≤ b.length) (hl : b.length ≤ a0.length) : DivInv a0 b (List.replicate (a0.length - b.length + 1) 0) a0 (a0.length - b.length + 1) := by
  refine ⟨rfl, by simp, fun k hk => co_of_le (by omega), fun k => ?_, fun p _ => ?_⟩
  · rw [fsum_zero, F_za]
    intro p _
    have : co (List.replicate (a0.length - b.length + 1) (0 : F)) p = 0 := by
      simp [co, List.getElem?_replicate]; split <;> rfl
    rw [this, F_zm]
  · simp [co, List.getElem?_replicate]; split <;> rfl
theorem co_set_eq (q : List F) (i : Nat) (c : F) (h : i < q.length) : co (q.set i c) i = c := co_get (by rw [List.getElem?_set_self h])
theorem DivInv.step {a0 b q a : List F} {i : Nat} (h : DivInv a0 b q a (i + 1)) (hb : 1 ≤ b.length) (hl : b.length ≤ a0.length) (hi : i < q.length) (c v : F) (hc : c = co a (i + b.length - 1) * v) (hv : co b (b.length - 1) * v = 1) :
    DivInv a0 b (q.set i c) (subAt a i c b b.length) i := by
  have hlq := h.lq
  have hla := h.la
  refine ⟨by rw [subAt_length]; exact h.la, by rw [List.length_set]; exact h.lq, fun k hk => ?_, fun k => ?_, fun p hp => ?_⟩
  · rcases Nat.lt_or_ge k a.length with hka | hka
    · rw [co_subAt _ _ _ _ _ _ hka]
      rcases Nat.lt_or_ge k (i + b.length) with h1 | h1
      · obtain rfl : k = i + b.length - 1 := by omega
        rw [if_pos (by omega), show i + b.length - 1 - i = b.length - 1 by omega, hc]
        grind
      · rw [if_neg (by omega), F_sz]
        exact h.zero k (by omega)
    · exact co_of_le (by rw [subAt_length]; exact hka)
  · have hs := h.sum k
    rcases Nat.lt_or_ge k i with h1 | h1
    · rw [fsum_congr (g := fun p => co q p * co b (k - p)) (fun p hp => by rw [co_set_ne _ _ _ _ (by omega)])]
      rcases Nat.lt_or_ge k a.length with hka | hka
      · rw [co_subAt _ _ _ _ _ _ hka, if_neg (by omega), F_sz]; exact hs
      · rw [co_of_le (l := subAt _ _ _ _ _) (by rw [subAt_length]; exact hka), ← co_of_le hka]; exact hs
    · have e : fsum (k + 1) (fun p => co (q.set i c) p * co b (k - p)) = fsum (k + 1) (fun p => co q p * co b (k - p)) + c * co b (k - i) := by
        have e1 : ∀ p, p < k + 1 → co (q.set i c) p * co b (k - p) = co q p * co b (k - p) + (if p = i then c * co b (k - i) else 0) := by
          intro p _
          by_cases hpi : p = i
          · subst hpi
            rw [co_set_eq _ _ _ hi, if_pos rfl, h.low p (by omega), F_zm, F_za]
          · rw [co_set_ne _ _ _ _ hpi, if_neg hpi, F_az]
        rw [fsum_congr e1, fsum_add]
        congr 1
        rw [fsum_one i (by omega) (fun p _ hp => if_neg hp), if_pos rfl]
      rw [e]
      rcases Nat.lt_or_ge k a.length with hka | hka
      · rw [co_subAt _ _ _ _ _ _ hka]
        rcases Nat.lt_or_ge k (i + b.length) with h2 | h2
        · rw [if_pos ⟨h1, h2⟩]; grind
        · rw [if_neg (by omega), co_of_le (l := b) (i := k - i) (by omega), F_mz]; grind
      · rw [co_of_le (l := b) (i := k - i) (by omega), F_mz, F_az, co_of_le (l := subAt _ _ _ _ _) (by rw [subAt_length]; exact hka), ← co_of_le hka]; exact hs
  · rw [co_set_ne _ _ _ _ (by omega)]
    exact h.low p (by omega)
theorem pnorm_short (l : List F) (m : Nat) (h : ∀ k, m ≤ k → co l k = 0) : (pnorm l).length ≤ m := by
  rcases Nat.lt_or_ge m (pnorm l).length with h1 | h1
  · have hne : pnorm l ≠ [] := by intro e; rw [e] at h1; simp at h1
    have := pnorm_full (pnorm_norm l) hne
    rw [pnorm_co] at this
    exact absurd (h _ (by omega)) this
  · exact h1
theorem DivInv.done {a0 b q a : List F} (h : DivInv a0 b q a 0) (hb : 1 ≤ b.length) : (pnorm a).length < b.length ∧ pnorm (padd (pmulS (pnorm q) b) (pnorm a)) = pnorm a0 := by
  refine ⟨by have := pnorm_short a (b.length - 1) (fun k hk => h.zero k (by omega)); omega, pnorm_ext _ _ fun k => ?_⟩
  rw [co_add, co_mulS, pnorm_co, ← h.sum k]
  congr 1
  exact fsum_congr fun p _ => by rw [pnorm_co]
def baseN (xs : List F) : List F := xs.foldl (fun b x => pmulS b [-x, 1]) [1]
theorem baseN_snoc (xs : List F) (x : F) : baseN (xs ++ [x]) = pmulS (baseN xs) [-x, 1] := by simp [baseN]
theorem foldl_base (xs : List F) : ∀ b : List F, b ≠ [] → (xs.foldl (fun b x => pmulS b [-x, 1]) b).length = b.length + xs.length := by
  induction xs with
  | nil => intro b _; simp
  | cons x xs ih =>
    intro b hb
    have hl : (pmulS b [-x, 1]).length = b.length + 1 := by rw [pmulS_length, if_neg (by simp [hb])]; simp
    have hp := List.length_pos_iff.2 hb
    rw [List.foldl_cons, ih _ (by intro e; rw [e] at hl; simp at hl), hl]
    simp; omega
theorem baseN_length (xs : List F) : (baseN xs).length = xs.length + 1 := by
  unfold baseN
  rw [foldl_base xs [1] (by simp)]
  simp; omega
theorem lin_eval (x z : F) : peval [-x, 1] z = z - x := by simp only [peval, F_mz, F_az]; grind
theorem foldl_eval (xs : List F) (z : F) : ∀ b : List F, (peval (xs.foldl (fun b x => pmulS b [-x, 1]) b) z = 0) ↔ (peval b z = 0 ∨ z ∈ xs) := by
  induction xs with
  | nil => intro b; simp
  | cons x xs ih =>
    intro b
    rw [List.foldl_cons, ih, peval_mulS, lin_eval, List.mem_cons]
    constructor
    · rintro (h | h)
      · rcases F_mul_zero h with h | h
        · exact .inl h
        · exact .inr (.inl (by grind))
      · exact .inr (.inr h)
    · rintro (h | h | h)
      · left; rw [h, F_zm]
      · left; rw [h]; have : x - x = 0 := by grind
        rw [this, F_mz]
      · exact .inr h
theorem baseN_zero (xs : List F) (z : F) : peval (baseN xs) z = 0 ↔ z ∈ xs := by
  unfold baseN
  rw [foldl_eval]
  have : peval [1] z = 1 := by simp only [peval, F_mz, F_az]
  rw [this]
  exact ⟨fun h => h.resolve_left one_ne, .inr⟩
def accL (o : List F) (c : F) (b : List F) (j : Nat) : List F := (List.range o.length).map fun i => co o i + (if i < j then c * co b i else 0)
theorem accL_length (o : List F) (c : F) (b : List F) (j : Nat) : (accL o c b j).length = o.length := by simp [accL]
theorem co_accL (o : List F) (c : F) (b : List F) (j i : Nat) (h : i < o.length) : co (accL o c b j) i = co o i + (if i < j then c * co b i else 0) := co_get (by simp [accL, h])
theorem accL_zero (o : List F) (c : F) (b : List F) : accL o c b 0 = o := by
  apply list_ext_co (accL_length _ _ _ _)
  intro i
  rcases Nat.lt_or_ge i o.length with h | h
  · rw [co_accL _ _ _ _ _ h, if_neg (by omega), F_az]
  · rw [co_of_le (by rw [accL_length]; exact h), co_of_le h]
theorem accL_set (o : List F) (c : F) (b : List F) (j : Nat) : (accL o c b j).set j (co (accL o c b j) j + c * co b j) = accL o c b (j + 1) := by
  apply list_ext_co
  · rw [List.length_set, accL_length, accL_length]
  · intro k
    rcases Nat.lt_or_ge k o.length with hk | hk
    · rw [co_accL _ _ _ _ _ hk]
      by_cases hkj : k = j
      · subst hkj
        rw [co_set_eq _ _ _ (by rw [accL_length]; exact hk), co_accL _ _ _ _ _ hk, if_neg (by omega), if_pos (by omega), F_az]
      · rw [co_set_ne _ _ _ _ hkj, co_accL _ _ _ _ _ hk]
        congr 1
        by_cases h : k < j
        · rw [if_pos h, if_pos (by omega)]
        · rw [if_neg h, if_neg (by omega)]
    · rw [co_of_le (by rw [List.length_set, accL_length]; exact hk), co_of_le (by rw [accL_length]; exact hk)]
theorem accL_full (o : List F) (c : F) (b : List F) (h : b.length ≤ o.length) (x : F) : peval (accL o c b b.length) x = peval o x + c * peval b x := by
  rw [← peval_scale, ← peval_add]
  apply peval_ext
  intro i
  rw [co_add, co_scale]
  rcases Nat.lt_or_ge i o.length with h1 | h1
  · rw [co_accL _ _ _ _ _ h1]
    congr 1
    by_cases h2 : i < b.length
    · rw [if_pos h2]
    · rw [if_neg h2, co_of_le (l := b) (by omega), F_mz]
  · rw [co_of_le (by rw [accL_length]; exact h1), co_of_le h1, co_of_le (l := b) (by omega), F_mz, F_az]
def Goes (o : List F) (ps : List (F × F)) : Prop := ∀ p ∈ ps, peval o p.1 = p.2
theorem goes_step {o : List F} {ps : List (F × F)} {x y c : F} (h : Goes o ps) (hl : ps.length + 1 ≤ o.length) (hx : x ∉ ps.map (·.1)) (hc : c = (y - peval o x) * inv (peval (baseN (ps.map (·.1))) x)) :
    Goes (accL o c (baseN (ps.map (·.1))) (baseN (ps.map (·.1))).length) (ps ++ [(x, y)]) := by
  have hb : (baseN (ps.map (·.1))).length ≤ o.length := by rw [baseN_length, List.length_map]; exact hl
  intro p hp
  rw [accL_full _ _ _ hb]
  rcases List.mem_append.1 hp with hp | hp
  · rw [(baseN_zero _ _).2 (List.mem_map.2 ⟨p, hp, rfl⟩), F_mz, F_az]
    exact h p hp
  · simp at hp; subst hp
    have hne : peval (baseN (ps.map (·.1))) x ≠ 0 := fun e => hx ((baseN_zero _ _).1 e)
    have hi := mul_inv hne
    simp only
    rw [hc]
    generalize peval (baseN (ps.map (·.1))) x = u at *
    generalize peval o x = v at *
    grind
theorem interp_of_goes {o : List F} {ps : List (F × F)} (h : Goes o ps) (hl : o.length ≤ ps.length) : Interp ps (pnorm o) :=
  ⟨pnorm_norm o, by have := pnorm_length o; omega, fun p hp => by rw [pnorm_eval]; exact h p hp⟩
def oneL' (xi : F) (o : List F) (xk : F) : List F := pmulS (pnorm o) (pnorm [-xk * inv (xi - xk), inv (xi - xk)])
theorem oneL'_eval (xi xk : F) (o : List F) (z : F) : peval (oneL' xi o xk) z = peval o z * ((z - xk) * inv (xi - xk)) := by
  unfold oneL'
  have h : peval [-xk * inv (xi - xk), inv (xi - xk)] z = (z - xk) * inv (xi - xk) := by
    simp only [peval, F_mz, F_az]
    generalize inv (xi - xk) = u
    grind
  rw [peval_mulS, pnorm_eval, pnorm_eval, h]
theorem oneL'_length (xi xk : F) (o : List F) (m : Nat) (h : o.length ≤ m) (_hm : 1 ≤ m) : (oneL' xi o xk).length ≤ m + 1 := by
  unfold oneL'
  have h1 := pnorm_length o
  have h2 := pnorm_length [-xk * inv (xi - xk), inv (xi - xk)]
  rw [pmulS_length]
  split
  · omega
  · simp at h2; omega
end Croft
