/- The library's sort of whole numbers: the facts of this program that the library's own theorem on it asks for (laid by the library's command). -/
import Derived.Shelf.Sort.Plain
import Derived.Shelf.Slices.In.SortNone
import Derived.Test.YtknjcdlknnfhaaaProg
import Derived.Test.YtknjcdlknnfhaaaInts
import Derived.Sort.OwnSortedInts
import Derived.Test.YtknjcdlknnfhaaaPushW
import Derived.Test.YtknjcdlknnfhaaaShamW
import Derived.Test.YtknjcdlknnfhaaaTimesR
namespace Go.Proofs.Ytknjcdlknnfhaaa
open Go.Proofs
open Go.Shelf
def lays189_ren : Go.Shelf.Ren := ⟨fun | 189 => 88 | 125 => 100 | 257 => 99 | 128 => 115 | 129 => 116 | 294 => 106 | 295 => 107 | 296 => 108 | 297 => 109 | 298 => 110 | 299 => 111 | 216 => 112 | 300 => 113 | 301 => 114 | 328 => 121 | 329 => 122 | 330 => 123 | 331 => 124 | 332 => 125 | 215 => 126 | 343 => 128 | n => n, fun | 28 => 23 | 3 => 3 | 46 => 131 | 0 => 0 | 51 => 145 | 53 => 39 | 4 => 4 | 183 => 137 | 182 => 136 | 131 => 142 | 5 => 5 | 9 => 9 | 218 => 150 | 222 => 154 | 228 => 157 | 229 => 43 | n => n, fun | n => n⟩
theorem lays189 : Go.Proofs.Lays.n189 Try.prog lays189_ren := {
  mixed := by kernel_rfl
  f125 := Try.func100.trans (congrArg some (by kernel_rfl))
  f128 := Try.func115.trans (congrArg some (by kernel_rfl))
  f129 := Try.func116.trans (congrArg some (by kernel_rfl))
  f189 := Try.func88.trans (congrArg some (by kernel_rfl))
  f215 := Try.func126.trans (congrArg some (by kernel_rfl))
  f216 := Try.func112.trans (congrArg some (by kernel_rfl))
  f257 := Try.func99.trans (congrArg some (by kernel_rfl))
  f294 := Try.func106.trans (congrArg some (by kernel_rfl))
  f295 := Try.func107.trans (congrArg some (by kernel_rfl))
  f296 := Try.func108.trans (congrArg some (by kernel_rfl))
  f297 := Try.func109.trans (congrArg some (by kernel_rfl))
  f298 := Try.func110.trans (congrArg some (by kernel_rfl))
  f299 := Try.func111.trans (congrArg some (by kernel_rfl))
  f300 := Try.func113.trans (congrArg some (by kernel_rfl))
  f301 := Try.func114.trans (congrArg some (by kernel_rfl))
  f328 := Try.func121.trans (congrArg some (by kernel_rfl))
  f329 := Try.func122.trans (congrArg some (by kernel_rfl))
  f330 := Try.func123.trans (congrArg some (by kernel_rfl))
  f331 := Try.func124.trans (congrArg some (by kernel_rfl))
  f332 := Try.func125.trans (congrArg some (by kernel_rfl))
  f343 := Try.func128.trans (congrArg some (by kernel_rfl))
  t0 := Try.underlying0
  a0 := Try.isAgg0
  z0 := Try.sizeOf0
  v0 := Try.zeroValue0
  t3 := Try.underlying3
  a3 := Try.isAgg3
  z3 := Try.sizeOf3
  v3 := Try.zeroValue3
  t4 := Try.underlying4
  a4 := Try.isAgg4
  z4 := Try.sizeOf4
  v4 := Try.zeroValue4
  t5 := Try.underlying5
  a5 := Try.isAgg5
  z5 := Try.sizeOf5
  v5 := Try.zeroValue5
  t9 := Try.underlying9
  a9 := Try.isAgg9
  z9 := Try.sizeOf9
  v9 := Try.zeroValue9
  t28 := Try.underlying23
  a28 := Try.isAgg23
  z28 := Try.sizeOf23
  v28 := Try.zeroValue23
  t46 := Try.underlying131
  a46 := Try.isAgg131
  z46 := Try.sizeOf131
  v46 := Try.zeroValue131
  t51 := Try.underlying145
  a51 := Try.isAgg145
  z51 := Try.sizeOf145
  v51 := Try.zeroValue145
  t53 := Try.underlying39
  a53 := Try.isAgg39
  z53 := Try.sizeOf39
  v53 := Try.zeroValue39
  t131 := Try.underlying142
  a131 := Try.isAgg142
  z131 := Try.sizeOf142
  v131 := Try.zeroValue142
  t182 := Try.underlying136
  a182 := Try.isAgg136
  z182 := Try.sizeOf136
  v182 := Try.zeroValue136
  t183 := Try.underlying137
  a183 := Try.isAgg137
  z183 := Try.sizeOf137
  v183 := Try.zeroValue137
  t218 := Try.underlying150
  a218 := Try.isAgg150
  z218 := Try.sizeOf150
  v218 := Try.zeroValue150
  t222 := Try.underlying154
  a222 := Try.isAgg154
  z222 := Try.sizeOf154
  v222 := Try.zeroValue154
  t228 := Try.underlying157
  a228 := Try.isAgg157
  z228 := Try.sizeOf157
  v228 := Try.zeroValue157
  t229 := Try.underlying43
  a229 := Try.isAgg43
  z229 := Try.sizeOf43
  v229 := Try.zeroValue43 }
end Go.Proofs.Ytknjcdlknnfhaaa
namespace Go.Proofs.Ytknjcdlknnfhaaa
open Go.RowKit Croft Go.Sort

/-- a list of whole numbers, sorted -/
def srt (zs : List Int) : List Int := zs.mergeSort fun x y => decide (x ≤ y)
theorem srt_perm (zs : List Int) : (srt zs).Perm zs := List.mergeSort_perm _ _
theorem srt_length (zs : List Int) : (srt zs).length = zs.length := (srt_perm zs).length_eq
theorem srt_pairwise (zs : List Int) : (srt zs).Pairwise (· ≤ ·) := by
  have h := List.pairwise_mergeSort (le := fun x y : Int => decide (x ≤ y)) (by intro a b c; simp; omega) (by intro a b; simp; omega) zs
  exact h.imp (by intro a b h; simpa using h)
theorem i64s_map (zs : List Int) : i64s zs = zs.map (Value.int .i64) := rfl
theorem sort_any (base : Nat) (v : Value) (zs : List Int) (w : World) (h : OwnInts w base v zs) :
    Calls Try.prog 88 #[v] w fun e w' => e = .returned (.tuple #[]) ∧ OwnInts w' base v (srt zs) ∧ Below base w w' := by
  obtain ⟨h1, h2, h3⟩ := h
  rcases h1.2 with ⟨rfl, h0⟩ | ⟨g, cap, cur, rfl, hb, hg, hn, hc, hs, ht⟩
  · obtain rfl : zs = [] := List.length_eq_zero_iff.1 h0
    refine (Any.slices_Sort_int_none lays189 none 0 w).mono fun e w' hh => ?_
    obtain ⟨rfl, rfl⟩ := hh
    have e : srt [] = [] := by simp [srt]
    rw [e]
    exact ⟨rfl, ⟨h1, h2, h3⟩, Below.refl _ _⟩
  · have hgs : g < w.heap.size := (Array.getElem?_eq_some_iff.1 hg).1
    refine (Any.slices_Sort_int lays189 g 0 cap zs w (holds_of_blockI hg (by rw [← Nat.mul_one zs.length, ht]; rfl)) hgs (by omega)).mono fun e w' hh => ?_
    obtain ⟨rfl, n, os, rfl⟩ := hh
    refine ⟨rfl, ⟨?_, by rw [srt_length]; exact h2, fun z hz => h3 z ((srt_perm zs).mem_iff.1 hz)⟩, ?_⟩
    · have := ownsRow_sortedI (n := n) (os := os) (ss := zs) (ts := srt zs) (srt_length zs) hb hg hn hc hs
      rw [srt_length]
      exact this
    · obtain ⟨q1, q2, q3, q4, q5⟩ := grownBy_sortedI (w := w) (g := g) (n := n) (os := os) (srt zs).toArray
      exact ⟨q1, q2, q3, q4, fun k hk => q5 k (by omega) (by simp; omega)⟩
end Go.Proofs.Ytknjcdlknnfhaaa
namespace Go.Proofs.Ytknjcdlknnfhaaa
open Go.RowKit Croft

theorem IsShares.take {w : World} {A : Option Addr} {len c : Nat} {l : List (Int × Int)} (h : IsShares w (.slice A len c) l) (k : Nat) (hk : k ≤ l.length) : IsShares w (.slice A k c) (l.take k) := by
  obtain ⟨A1, c1, e1, e2, e3, e4, e5, e6⟩ := h
  injection e1 with e1a e1b e1c
  subst e1a e1b e1c
  have hl : (l.take k).length = k := by simp; omega
  refine ⟨_, _, by rw [hl], by rw [hl]; omega, e3, by rw [hl]; omega, fun z hz => e5 z (List.mem_of_mem_take hz), ?_⟩
  have e : shs (l.take k) = (shs l).take (k * 2) := by
    clear e2 e4 e5 e6 hl hk
    induction l generalizing k with
    | nil => simp [shs]
    | cons s l ih =>
      cases k with
      | zero => simp [shs]
      | succ k => rw [List.take_succ_cons, shs_cons, shs_cons, ih k, show (k + 1) * 2 = k * 2 + 1 + 1 by omega, List.take_succ_cons, List.take_succ_cons]
  rw [e]
  exact e6.take _
/-- the parties whose shares a polynomial does not have -/
def badL (Q : List F) (l : List (Int × Int)) : List Int := (l.filter fun s => decide (peval Q (toF s.1) ≠ toF s.2)).map (·.1)
theorem badL_next {Q : List F} {l : List (Int × Int)} {k : Nat} {a y : Int} (h : l[k]? = some (a, y)) : badL Q (l.take (k + 1)) = badL Q (l.take k) ++ (if peval Q (toF a) ≠ toF y then [a] else []) := by
  unfold badL
  rw [List.take_add_one, h, Option.toList_some, List.filter_append, List.map_append]
  congr 1
  by_cases hc : peval Q (toF a) = toF y
  · simp [hc]
  · simp [hc]
theorem badL_length (Q : List F) (l : List (Int × Int)) : (badL Q l).length ≤ l.length := by
  unfold badL
  rw [List.length_map]
  exact List.length_filter_le _ _
theorem badL_nil {t : Nat} {l : List (Int × Int)} {Q Q1 : List F} (hok : AtsOk l 2147483646) (ht : t + 1 ≤ l.length) (hQ : Interp (ptsF l) Q) (hQ1 : Interp (ptsF (l.take (t + 1))) Q1) : badL Q1 l = [] ↔ ¬ (t + 1 < Q.length) := by
  have hsub : ∀ p ∈ ptsF (l.take (t + 1)), p ∈ ptsF l := by
    intro p hp
    unfold ptsF at hp ⊢
    obtain ⟨s, hs, rfl⟩ := List.mem_map.1 hp
    exact List.mem_map.2 ⟨s, List.mem_of_mem_take hs, rfl⟩
  have hlen : (ptsF (l.take (t + 1))).length = t + 1 := by simp [ptsF]; omega
  have hl2 : (ptsF l).length = l.length := by simp [ptsF]
  constructor
  · intro hb hlt
    have hI : Interp (ptsF l) Q1 := by
      refine ⟨hQ1.1, by have := hQ1.2.1; omega, fun p hp => ?_⟩
      unfold ptsF at hp
      obtain ⟨s, hs, rfl⟩ := List.mem_map.1 hp
      refine Classical.byContradiction fun hne => ?_
      have : s.1 ∈ badL Q1 l := by
        unfold badL
        exact List.mem_map.2 ⟨s, List.mem_filter.2 ⟨hs, by simpa using hne⟩, rfl⟩
      rw [hb] at this
      simp at this
    have := hQ.unique (pts_nodup hok) hI
    subst this
    have := hQ1.2.1
    omega
  · intro hlt
    have hI : Interp (ptsF (l.take (t + 1))) Q := ⟨hQ.1, by omega, fun p hp => hQ.2.2 p (hsub p hp)⟩
    have := hI.unique (pts_nodup (atsOk_mono _ hok)) hQ1
    subst this
    unfold badL
    rw [List.map_eq_nil_iff, List.filter_eq_nil_iff]
    intro s hs
    have := hQ.2.2 (toF s.1, toF s.2) (List.mem_map.2 ⟨s, hs, rfl⟩)
    simpa using this
end Go.Proofs.Ytknjcdlknnfhaaa
