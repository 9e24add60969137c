/- The library's sort of whole numbers: the facts of this program that the library's own theorem on it asks for (laid by the library's command). -/
import Derived.Shelf.Sort.Plain
import Derived.Shelf.Slices.In.SortNone
import Derived.Test.YtegmeepogjijiaaProg
import Derived.Test.YtegmeepogjijiaaInts
import Derived.Sort.OwnSortedInts
import Derived.Test.YtegmeepogjijiaaPushW
import Derived.Test.YtegmeepogjijiaaShamW
import Derived.Test.YtegmeepogjijiaaTimesR
namespace Go.Proofs.Ytegmeepogjijiaa
open Go.Proofs
open Go.Shelf
def lays189_ren : Go.Shelf.Ren := ⟨fun | 189 => 139 | 125 => 135 | 257 => 160 | 128 => 155 | 129 => 156 | 294 => 170 | 295 => 171 | 296 => 172 | 297 => 173 | 298 => 174 | 299 => 175 | 216 => 176 | 300 => 177 | 301 => 178 | 328 => 182 | 329 => 165 | 330 => 166 | 331 => 183 | 332 => 184 | 215 => 185 | 343 => 189 | n => n, fun | 28 => 44 | 3 => 3 | 46 => 173 | 0 => 0 | 51 => 189 | 53 => 23 | 4 => 4 | 183 => 182 | 182 => 181 | 131 => 186 | 5 => 5 | 9 => 9 | 218 => 196 | 222 => 200 | 228 => 211 | 229 => 32 | n => n, fun | n => n⟩
theorem lays189 : Go.Proofs.Lays.n189 Try.prog lays189_ren := {
  mixed := by kernel_rfl
  f125 := Try.func135.trans (congrArg some (by kernel_rfl))
  f128 := Try.func155.trans (congrArg some (by kernel_rfl))
  f129 := Try.func156.trans (congrArg some (by kernel_rfl))
  f189 := Try.func139.trans (congrArg some (by kernel_rfl))
  f215 := Try.func185.trans (congrArg some (by kernel_rfl))
  f216 := Try.func176.trans (congrArg some (by kernel_rfl))
  f257 := Try.func160.trans (congrArg some (by kernel_rfl))
  f294 := Try.func170.trans (congrArg some (by kernel_rfl))
  f295 := Try.func171.trans (congrArg some (by kernel_rfl))
  f296 := Try.func172.trans (congrArg some (by kernel_rfl))
  f297 := Try.func173.trans (congrArg some (by kernel_rfl))
  f298 := Try.func174.trans (congrArg some (by kernel_rfl))
  f299 := Try.func175.trans (congrArg some (by kernel_rfl))
  f300 := Try.func177.trans (congrArg some (by kernel_rfl))
  f301 := Try.func178.trans (congrArg some (by kernel_rfl))
  f328 := Try.func182.trans (congrArg some (by kernel_rfl))
  f329 := Try.func165.trans (congrArg some (by kernel_rfl))
  f330 := Try.func166.trans (congrArg some (by kernel_rfl))
  f331 := Try.func183.trans (congrArg some (by kernel_rfl))
  f332 := Try.func184.trans (congrArg some (by kernel_rfl))
  f343 := Try.func189.trans (congrArg some (by kernel_rfl))
  t0 := Try.underlying0
  a0 := Try.isAgg0
  z0 := Try.sizeOf0
  v0 := Try.zeroValue0
  t3 := Try.underlying3
  a3 := Try.isAgg3
  z3 := Try.sizeOf3
  v3 := Try.zeroValue3
  t4 := Try.underlying4
  a4 := Try.isAgg4
  z4 := Try.sizeOf4
  v4 := Try.zeroValue4
  t5 := Try.underlying5
  a5 := Try.isAgg5
  z5 := Try.sizeOf5
  v5 := Try.zeroValue5
  t9 := Try.underlying9
  a9 := Try.isAgg9
  z9 := Try.sizeOf9
  v9 := Try.zeroValue9
  t28 := Try.underlying44
  a28 := Try.isAgg44
  z28 := Try.sizeOf44
  v28 := Try.zeroValue44
  t46 := Try.underlying173
  a46 := Try.isAgg173
  z46 := Try.sizeOf173
  v46 := Try.zeroValue173
  t51 := Try.underlying189
  a51 := Try.isAgg189
  z51 := Try.sizeOf189
  v51 := Try.zeroValue189
  t53 := Try.underlying23
  a53 := Try.isAgg23
  z53 := Try.sizeOf23
  v53 := Try.zeroValue23
  t131 := Try.underlying186
  a131 := Try.isAgg186
  z131 := Try.sizeOf186
  v131 := Try.zeroValue186
  t182 := Try.underlying181
  a182 := Try.isAgg181
  z182 := Try.sizeOf181
  v182 := Try.zeroValue181
  t183 := Try.underlying182
  a183 := Try.isAgg182
  z183 := Try.sizeOf182
  v183 := Try.zeroValue182
  t218 := Try.underlying196
  a218 := Try.isAgg196
  z218 := Try.sizeOf196
  v218 := Try.zeroValue196
  t222 := Try.underlying200
  a222 := Try.isAgg200
  z222 := Try.sizeOf200
  v222 := Try.zeroValue200
  t228 := Try.underlying211
  a228 := Try.isAgg211
  z228 := Try.sizeOf211
  v228 := Try.zeroValue211
  t229 := Try.underlying32
  a229 := Try.isAgg32
  z229 := Try.sizeOf32
  v229 := Try.zeroValue32 }
end Go.Proofs.Ytegmeepogjijiaa
namespace Go.Proofs.Ytegmeepogjijiaa
open Go.RowKit Croft Go.Sort

/-- a list of whole numbers, sorted -/
def srt (zs : List Int) : List Int := zs.mergeSort fun x y => decide (x ≤ y)
theorem srt_perm (zs : List Int) : (srt zs).Perm zs := List.mergeSort_perm _ _
theorem srt_length (zs : List Int) : (srt zs).length = zs.length := (srt_perm zs).length_eq
theorem srt_pairwise (zs : List Int) : (srt zs).Pairwise (· ≤ ·) := by
  have h := List.pairwise_mergeSort (le := fun x y : Int => decide (x ≤ y)) (by intro a b c; simp; omega) (by intro a b; simp; omega) zs
  exact h.imp (by intro a b h; simpa using h)
theorem i64s_map (zs : List Int) : i64s zs = zs.map (Value.int .i64) := rfl
theorem sort_any (base : Nat) (v : Value) (zs : List Int) (w : World) (h : OwnInts w base v zs) :
    Calls Try.prog 139 #[v] w fun e w' => e = .returned (.tuple #[]) ∧ OwnInts w' base v (srt zs) ∧ Below base w w' := by
  obtain ⟨h1, h2, h3⟩ := h
  rcases h1.2 with ⟨rfl, h0⟩ | ⟨g, cap, cur, rfl, hb, hg, hn, hc, hs, ht⟩
  · obtain rfl : zs = [] := List.length_eq_zero_iff.1 h0
    refine (Any.slices_Sort_int_none lays189 none 0 w).mono fun e w' hh => ?_
    obtain ⟨rfl, rfl⟩ := hh
    have e : srt [] = [] := by simp [srt]
    rw [e]
    exact ⟨rfl, ⟨h1, h2, h3⟩, Below.refl _ _⟩
  · have hgs : g < w.heap.size := (Array.getElem?_eq_some_iff.1 hg).1
    refine (Any.slices_Sort_int lays189 g 0 cap zs w (holds_of_blockI hg (by rw [← Nat.mul_one zs.length, ht]; rfl)) hgs (by omega)).mono fun e w' hh => ?_
    obtain ⟨rfl, n, os, rfl⟩ := hh
    refine ⟨rfl, ⟨?_, by rw [srt_length]; exact h2, fun z hz => h3 z ((srt_perm zs).mem_iff.1 hz)⟩, ?_⟩
    · have := ownsRow_sortedI (n := n) (os := os) (ss := zs) (ts := srt zs) (srt_length zs) hb hg hn hc hs
      rw [srt_length]
      exact this
    · obtain ⟨q1, q2, q3, q4, q5⟩ := grownBy_sortedI (w := w) (g := g) (n := n) (os := os) (srt zs).toArray
      exact ⟨q1, q2, q3, q4, fun k hk => q5 k (by omega) (by simp; omega)⟩
end Go.Proofs.Ytegmeepogjijiaa
namespace Go.Proofs.Ytegmeepogjijiaa
open Go.RowKit Croft

theorem IsShares.take {w : World} {A : Option Addr} {len c : Nat} {l : List (Int × Int)} (h : IsShares w (.slice A len c) l) (k : Nat) (hk : k ≤ l.length) : IsShares w (.slice A k c) (l.take k) := by
  obtain ⟨A1, c1, e1, e2, e3, e4, e5, e6⟩ := h
  injection e1 with e1a e1b e1c
  subst e1a e1b e1c
  have hl : (l.take k).length = k := by simp; omega
  refine ⟨_, _, by rw [hl], by rw [hl]; omega, e3, by rw [hl]; omega, fun z hz => e5 z (List.mem_of_mem_take hz), ?_⟩
  have e : shs (l.take k) = (shs l).take (k * 2) := by
    clear e2 e4 e5 e6 hl hk
    induction l generalizing k with
    | nil => simp [shs]
    | cons s l ih =>
      cases k with
      | zero => simp [shs]
      | succ k => rw [List.take_succ_cons, shs_cons, shs_cons, ih k, show (k + 1) * 2 = k * 2 + 1 + 1 by omega, List.take_succ_cons, List.take_succ_cons]
  rw [e]
  exact e6.take _
/-- the parties whose shares a polynomial does not have -/
def badL (Q : List F) (l : List (Int × Int)) : List Int := (l.filter fun s => decide (peval Q (toF s.1) ≠ toF s.2)).map (·.1)
theorem badL_next {Q : List F} {l : List (Int × Int)} {k : Nat} {a y : Int} (h : l[k]? = some (a, y)) : badL Q (l.take (k + 1)) = badL Q (l.take k) ++ (if peval Q (toF a) ≠ toF y then [a] else []) := by
  unfold badL
  rw [List.take_add_one, h, Option.toList_some, List.filter_append, List.map_append]
  congr 1
  by_cases hc : peval Q (toF a) = toF y
  · simp [hc]
  · simp [hc]
theorem badL_length (Q : List F) (l : List (Int × Int)) : (badL Q l).length ≤ l.length := by
  unfold badL
  rw [List.length_map]
  exact List.length_filter_le _ _
theorem rShares_any (t : Int) (va : Value) (l : List (Int × Int)) (w : World) (h1 : IsShares w va l) :
    Calls Try.prog 133 #[.int .i64 t, va] w fun e w' => e = .returned (.int .i64 (checkE t l)) ∧ ∃ n, w' = w.drewN n := by
  have KA := Lib.hid h1
  obtain ⟨A1, c1, rfl, hc1, hm1, hl1, hu1, hr1⟩ := h1
  clear hu1 hr1 hm1
  go_enter Try.func133, Try.ntmps133
  go_wp2_with fail
  refine (rIn_any t 0 4 _).mono ?_
  rintro e w' ⟨rfl, rfl⟩
  by_cases ht : 0 ≤ t ∧ t ≤ 4
  · have HE := Lib.hid (show checkE t l = if partyB (l.map (·.1)) = true then if (l.length : Int) < t + 1 then 4 else 0 else 5 from if_pos ht)
    have hd : decide (0 ≤ t ∧ t ≤ 4) = true := decide_eq_true ht
    rw [hd]
    obtain ⟨ht1, ht2⟩ := ht
    clear hd
    try dsimp only
    go_wp2_with fail
    refine (rAts_any _ _ 9 _ KA.out).mono ?_
    rintro e w' ⟨rfl, nd, rfl⟩
    by_cases hp : AtsOk l 9
    · have hpp := partyB_ats.2 hp
      rw [show atsB l 9 = true from decide_eq_true hp]
      have HPP := Lib.hid hpp
      clear hp hpp
      try dsimp only
      by_cases hs : (l.length : Int) < t + 1
      · go_wp2_with fail
        go_ret
        exact ⟨by rw [HE.out, if_pos HPP.out, if_pos hs]; rfl, _, rfl⟩
      · go_wp2_with fail
        go_ret
        exact ⟨by rw [HE.out, if_pos HPP.out, if_neg (by omega)]; rfl, _, rfl⟩
    · rw [show atsB l 9 = false from decide_eq_false hp]
      have HPP := Lib.hid (fun hh => hp (partyB_ats.1 hh))
      clear hp
      try dsimp only
      go_wp2_with fail
      go_ret
      exact ⟨by rw [HE.out, if_neg HPP.out]; rfl, _, rfl⟩
  · have HE := Lib.hid (show checkE t l = 1 from if_neg ht)
    rw [show decide (0 ≤ t ∧ t ≤ 4) = false from decide_eq_false ht]
    clear ht
    try dsimp only
    go_wp2_with fail
    go_ret
    exact ⟨by rw [HE.out]; rfl, 0, rfl⟩
set_option maxRecDepth 100000 in
set_option maxHeartbeats 1000000 in
theorem rFit_any (t : Nat) (va : Value) (l : List (Int × Int)) (Q : List F) (w : World) (h1 : IsShares w va l) (h9 : l.length ≤ 20) (ht : t + 1 ≤ l.length) (hok : AtsOk (l.take (t + 1)) 2147483646) (hat : ∀ s ∈ l, 0 ≤ s.1) (hQ : Interp (ptsF (l.take (t + 1))) Q) :
    Calls Try.prog 110 #[.int .i64 t, va] w fun e w' => ∃ vp vb, e = .returned (.tuple #[vp, vb]) ∧ OwnNums w' w.heap.size vp (ofFs Q) ∧ OwnInts w' w.heap.size vb (srt (badL Q l)) ∧ Below w.heap.size w w' := by
  have KA := Lib.hid h1
  have HQ := Lib.hid hQ
  have HOK := Lib.hid hok
  have HAT := Lib.hid hat
  suffices hgoal : ∀ Post : Ending → World → Prop, (∀ e w', (∃ vp vb, e = .returned (.tuple #[vp, vb]) ∧ OwnNums w' w.heap.size vp (ofFs Q) ∧ OwnInts w' w.heap.size vb (srt (badL Q l)) ∧ Below w.heap.size w w') → Post e w') → Calls Try.prog 110 #[.int .i64 t, va] w Post from hgoal _ fun e w' h => h
  intro Post hpo
  have HP := Lib.hid hpo
  obtain ⟨A1, c1, rfl, hc1, hm1, hl1, hu1, hr1⟩ := h1
  have HT := Lib.hid (KA.out.take (t + 1) ht)
  have htl : (l.take (t + 1)).length ≤ 40 := by rw [List.length_take]; omega
  have HTL := Lib.hid htl
  clear hu1 hr1 hm1 hpo hQ hok hat htl
  go_enter Try.func110, Try.ntmps110
  go_wp2_with fail
  refine (rThrough_any _ _ _ HT.out HTL.out HOK.out).mono ?_
  rintro e W1 ⟨vT, Q1, rfl, hQ1, ho, hb⟩
  obtain rfl := HQ.out.unique (pts_nodup HOK.out) hQ1
  have KQ0 := Lib.hid ho
  have B1 := Lib.hid hb
  have hs1 := hb.size
  clear ho hb hQ1
  try dsimp only
  go_wp2_with fail
  go_loopw [7, 8] (fun v i wr => ∃ k : Nat, k ≤ l.length ∧ i = .int .i64 k ∧ OwnInts wr W1.heap.size v (badL Q (l.take k)) ∧ Below W1.heap.size W1 wr) (fun _ i _ => l.length - (intOf i).toNat)
  case atStart => exact ⟨0, Nat.zero_le _, rfl, OwnInts.nil _ _, Below.refl _ _⟩
  case round =>
    obtain ⟨k, hk, rfl, hown, hbel⟩ := hrel
    have KO := Lib.hid hown
    have BEL := Lib.hid hbel
    have hsz := hbel.size
    clear hown hbel
    by_cases hlt : k < l.length
    · have KQ := Lib.hid (KQ0.out.is.below (below_trans (Below.refl _ _) BEL.out (Nat.le_refl _)))
      obtain ⟨A, c, hA, _, _, _, hu, hr⟩ := KA.out.below (below_trans B1.out BEL.out B1.out.size)
      injection hA with hA1 hA2 hA3
      subst hA1 hA3
      clear hA2
      obtain ⟨b1, o1, at_, y, rfl, hb1, hgk, hat, huy, hca, hcb⟩ := share_at hr hu hlt
      have HBN := Lib.hid (badL_next (Q := Q) hgk)
      have HBL := Lib.hid (Nat.le_trans (badL_length Q (l.take k)) (by rw [List.length_take]; exact Nat.min_le_left _ _))
      have hat0 := HAT.out _ (List.mem_of_getElem? hgk)
      have hua : U64 at_ := ⟨hat0, by have := hat.2; dsimp only at this hat0; omega⟩
      have HUA := Lib.hid hua
      have HUY := Lib.hid huy
      have HI := Lib.hid hat
      have hwa : IntKind.u64.wrap at_ = at_ := by
        rw [IntKind.wrap_u64]; exact Int.emod_eq_of_lt hua.1 (by have := hua.2; omega)
      clear hr hu hgk hb1 hat0 hua huy hat
      go_wp2_with fail
      go_quiet ((first | exact quietL (rEval_any _ _ _ _ KQ.out HUA.out) | exact quietL (rNorm_any _ _ HUY.out)))
      rw [toFs_ofFs]
      have hrc : ∃ wo, wo = wr.drewN nq := ⟨_, rfl⟩
      obtain ⟨wo, hwo⟩ := hrc
      have KO2 := Lib.hid (KO.out.drewN nq)
      have BEL2 := Lib.hid (below_drewN BEL.out nq)
      have hsz2 : W1.heap.size ≤ wo.heap.size := by rw [hwo]; exact hsz
      replace hca : wo.cell? ⟨b1, o1 + k * 2, none⟩ = some (.int .i64 at_) := by rw [hwo]; exact hca
      rw [← hwo] at KO2 BEL2 ⊢
      clear hwo hcb KO BEL
      by_cases hc : peval Q (toF at_) = toF y
      · have hbe : (ofF (peval Q (toF at_)) != ofF (toF y)) = false := by rw [hc]; simp
        have HBM := Lib.hid (show badL Q (l.take (k + 1)) = badL Q (l.take k) by rw [HBN.out, if_neg (by simp [hc]), List.append_nil])
        clear hc HBN
        go_wp2_with fail
        exact ⟨⟨k + 1, by omega, by go_num, by rw [HBM.out]; exact KO2.out, BEL2.out⟩, by simp [intOf] <;> omega⟩
      · have hbe : (ofF (peval Q (toF at_)) != ofF (toF y)) = true := by rw [bne_iff_ne]; exact fun h => hc (ofF_inj h)
        have HBM := Lib.hid (show badL Q (l.take (k + 1)) = badL Q (l.take k) ++ [at_] by rw [HBN.out, if_pos hc])
        clear hc HBN
        go_wp2_with (at_builtin; go_loud (refine wpList_push_int rfl _ _ rfl W1.heap.size _ _ at_ wo.heap.size 1 rfl (KO2.out.alloc _) rfl (new_cell _ _ _) HI.out (by have := HBL.out; omega) (by rw [size_alloc]; omega) ?_))
        intro v' w5 hown' hbel'
        rw [← HBM.out] at hown'
        have K5 := Lib.hid hown'
        have B5 := Lib.hid ((BEL2.out.alloc hsz2 (.cells #[.int .i64 at_] 3)).trans hbel')
        clear hown' hbel'
        go_wp2_with fail
        exact ⟨⟨k + 1, by omega, by go_num, K5.out, B5.out⟩, by simp [intOf] <;> omega⟩
    · obtain rfl : l.length = k := by omega
      have HTE := Lib.hid (show l.take l.length = l from List.take_of_length_le (Nat.le_refl _))
      rw [HTE.out] at KO
      go_wp2_with fail
      refine (sort_any _ _ _ _ KO.out).mono ?_
      rintro e W8 ⟨rfl, ho, hb⟩
      have KS := Lib.hid ho
      have B8 := Lib.hid (BEL.out.trans hb)
      clear ho hb
      try dsimp only
      go_wp2_with fail
      exact HP.out _ _ ⟨_, _, rfl, KQ0.out.below B8.out, KS.out.less hs1, below_trans B1.out B8.out hs1⟩
theorem badL_nil {t : Nat} {l : List (Int × Int)} {Q Q1 : List F} (hok : AtsOk l 2147483646) (ht : t + 1 ≤ l.length) (hQ : Interp (ptsF l) Q) (hQ1 : Interp (ptsF (l.take (t + 1))) Q1) : badL Q1 l = [] ↔ ¬ (t + 1 < Q.length) := by
  have hsub : ∀ p ∈ ptsF (l.take (t + 1)), p ∈ ptsF l := by
    intro p hp
    unfold ptsF at hp ⊢
    obtain ⟨s, hs, rfl⟩ := List.mem_map.1 hp
    exact List.mem_map.2 ⟨s, List.mem_of_mem_take hs, rfl⟩
  have hlen : (ptsF (l.take (t + 1))).length = t + 1 := by simp [ptsF]; omega
  have hl2 : (ptsF l).length = l.length := by simp [ptsF]
  constructor
  · intro hb hlt
    have hI : Interp (ptsF l) Q1 := by
      refine ⟨hQ1.1, by have := hQ1.2.1; omega, fun p hp => ?_⟩
      unfold ptsF at hp
      obtain ⟨s, hs, rfl⟩ := List.mem_map.1 hp
      refine Classical.byContradiction fun hne => ?_
      have : s.1 ∈ badL Q1 l := by
        unfold badL
        exact List.mem_map.2 ⟨s, List.mem_filter.2 ⟨hs, by simpa using hne⟩, rfl⟩
      rw [hb] at this
      simp at this
    have := hQ.unique (pts_nodup hok) hI
    subst this
    have := hQ1.2.1
    omega
  · intro hlt
    have hI : Interp (ptsF (l.take (t + 1))) Q := ⟨hQ.1, by omega, fun p hp => hQ.2.2 p (hsub p hp)⟩
    have := hI.unique (pts_nodup (atsOk_mono _ hok)) hQ1
    subst this
    unfold badL
    rw [List.map_eq_nil_iff, List.filter_eq_nil_iff]
    intro s hs
    have := hQ.2.2 (toF s.1, toF s.2) (List.mem_map.2 ⟨s, hs, rfl⟩)
    simpa using this
set_option maxRecDepth 100000 in
set_option maxHeartbeats 1000000 in
theorem rOpen_ok (t : Int) (va : Value) (l : List (Int × Int)) (Q : List F) (w : World) (h1 : IsShares w va l) (h : checkE t l = 0) (hQ : Interp (ptsF l) Q) :
    Calls Try.prog 101 #[.int .i64 t, va] w fun e w' => NumRes w e w' (openX t Q) (openE t Q) := by
  have KA := Lib.hid h1
  obtain ⟨⟨ht1, ht2⟩, hok, hlen⟩ := checkE_zero.1 h
  have HE := Lib.hid h
  obtain ⟨T, rfl⟩ := Int.eq_ofNat_of_zero_le ht1
  obtain ⟨Q1, hQ1⟩ := interp_ex (pts_nodup (atsOk_mono (T + 1) hok.more))
  have HN := Lib.hid (badL_nil hok.more (by omega) hQ hQ1)
  have HQ1 := Lib.hid hQ1
  have HOK := Lib.hid hok
  have HQ := Lib.hid hQ
  have hln9 := hok.few
  clear h h1 hok hQ1 hQ ht1
  go_enter Try.func101, Try.ntmps101
  go_wp2_with fail
  refine (rShares_any _ _ _ _ KA.out).mono ?_
  rintro e w' ⟨rfl, nd, rfl⟩
  rw [HE.out]
  replace KA := Lib.hid (KA.out.drewn (n := nd) rfl)
  try dsimp only
  go_wp2_with fail
  refine (rFit_any T _ _ Q1 _ KA.out (by omega) (by omega) (atsOk_mono _ HOK.out.more) (fun s hs => by have := (HOK.out.1 s hs).1; omega) HQ1.out).mono ?_
  rintro e W1 ⟨vp, vb, rfl, hop, hob, hb⟩
  have KP := Lib.hid hop.is
  have BEL := Lib.hid ((below_drewN (Below.refl w.heap.size w) nd).trans hb)
  obtain ⟨A, c, hv, _, _⟩ := own_form hob.1
  rw [srt_length] at hv
  subst hv
  have hbl := Nat.le_trans (badL_length Q1 l) hln9
  obtain ⟨bn, hbn⟩ : ∃ bn, bn = (badL Q1 l).length := ⟨_, rfl⟩
  have HBN := Lib.hid (show 0 < bn ↔ T + 1 < Q.length by
    rw [hbn]
    have h := HN.out
    constructor
    · intro h0
      refine Classical.byContradiction fun hc => ?_
      rw [h.2 hc] at h0
      simp at h0
    · intro h0
      refine Nat.pos_of_ne_zero fun hc => ?_
      exact absurd h0 (h.1 (List.length_eq_zero_iff.1 hc)))
  rw [← hbn] at hbl ⊢
  clear hbn hob hop hb HN
  try dsimp only
  by_cases hbig : 0 < bn
  · have HX := Lib.hid (show openX T Q = 0 from if_pos (by have := HBN.out.1 hbig; omega))
    have HEE := Lib.hid (show openE T Q = 6 from if_pos (by have := HBN.out.1 hbig; omega))
    go_wp2_with fail
    go_ret2
    exact ⟨by rw [HX.out, HEE.out]; rfl, BEL.out⟩
  · have hq : ¬ (T + 1 < Q.length) := fun hh => hbig (HBN.out.2 hh)
    have HX := Lib.hid (show openX T Q = ofF (peval Q 0) from if_neg (by omega))
    have HEE := Lib.hid (show openE T Q = 0 from if_neg (by omega))
    have hqq : Q1 = Q := by
      have hI : Interp (ptsF (l.take (T + 1))) Q := ⟨HQ.out.1, by simp [ptsF]; omega, fun p hp => HQ.out.2.2 p (by
        unfold ptsF at hp ⊢
        obtain ⟨s, hs, rfl⟩ := List.mem_map.1 hp
        exact List.mem_map.2 ⟨s, List.mem_of_mem_take hs, rfl⟩)⟩
      exact HQ1.out.unique (pts_nodup (atsOk_mono _ HOK.out.more)) hI
    subst hqq
    clear hq
    go_wp2_with fail
    refine (rEval_any _ _ _ _ KP.out (show U64 0 from ⟨by omega, by omega⟩)).mono ?_
    rintro e w' ⟨rfl, rfl⟩
    rw [toFs_ofFs, toF_zero]
    try dsimp only
    go_wp2_with fail
    go_ret2
    exact ⟨by rw [HX.out, HEE.out]; rfl, BEL.out⟩
theorem rOpen_bad (t : Int) (va : Value) (l : List (Int × Int)) (w : World) (h1 : IsShares w va l) (h : checkE t l ≠ 0) :
    Calls Try.prog 101 #[.int .i64 t, va] w fun e w' => NumRes w e w' 0 (checkE t l) := by
  have KA := Lib.hid h1
  have hb : (checkE t l != 0) = true := by rw [bne_iff_ne]; exact h
  clear h h1
  go_enter Try.func101, Try.ntmps101
  go_wp2_with fail
  refine (rShares_any _ _ _ _ KA.out).mono ?_
  rintro e w' ⟨rfl, nd, rfl⟩
  try dsimp only
  go_wp2_with fail
  go_ret2
  exact ⟨rfl, below_drewN (Below.refl _ _) _⟩
end Go.Proofs.Ytegmeepogjijiaa
