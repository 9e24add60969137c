/- Parts of the proof, put together by a program: TopK TimesR RefS. No condition. -/
import Derived.Test.YtploomncapiloaaGreatDoorDAO
import Derived.Test.YtploomncapiloaaGreatDoorDAQ
import Derived.Deep.SlicePairs
import Derived.Lib.SmallJoins
import Derived.Maps.RangeWalk
import Derived.OpenShut
import Derived.ProofKit
import Derived.Shelf.Slices.In.SortNone
import Derived.Shelf.Sort.Plain
import Derived.SizedLaws
import Derived.Sort.OwnSortedInts
namespace Go.Proofs.YtploomncapiloaaGreatDoor
open Go.RowKit Go.Maps Croft
def updX (X : Int → F) (z : Int) (x : F) : Int → F := fun y => if y = z then x else X y
def AllShared (n t : Nat) (S : Int → Option (List Int)) (X : Int → F) : Prop := ∀ z zs, S z = some zs → Shared n t (toFs zs) (X z)
theorem AllShared.put {n t : Nat} {S : Int → Option (List Int)} {X : Int → F} (h : AllShared n t S X) {z : Int} {l : List Int} {x : F} (hl : Shared n t (toFs l) x) : AllShared n t (upd S z (some l)) (updX X z x) := fun y ys hy => by
  unfold upd at hy
  unfold updX
  by_cases he : y = z
  · rw [if_pos he] at hy ⊢
    injection hy with hy
    subst hy
    exact hl
  · rw [if_neg he] at hy ⊢
    exact h y ys hy
theorem AllShared.turn {n t : Nat} {S : Int → Option (List Int)} {X : Int → F} (h : AllShared n t S X) {z : Int} {l : List Int} (hl : Shared n t (toFs l) (X z)) : AllShared n t (upd S z (some l)) X := fun y ys hy => by
  unfold upd at hy
  by_cases he : y = z
  · rw [if_pos he] at hy
    injection hy with hy
    subst hy he
    exact hl
  · rw [if_neg he] at hy
    exact h y ys hy
theorem AllShared.drop {n t : Nat} {S : Int → Option (List Int)} {X : Int → F} (h : AllShared n t S X) {z : Int} : AllShared n t (upd S z none) X := fun y ys hy => by
  unfold upd at hy
  by_cases he : y = z
  · rw [if_pos he] at hy
    cases hy
  · rw [if_neg he] at hy
    exact h y ys hy
theorem genP_shared {N T : Nat} (ds : List Int) : Shared N T (toFs (ofFs (sumD N (genP T ds) N))) (fsum N fun i => toF (ds.getD (i * (T + 1)) 0)) := by
  rw [toFs_ofFs]
  have h := sumD_shared (n := N) (t := T) (f := genP T ds) N (fun i _ => by unfold genP; rw [toFs_length]; simp; omega)
  rw [fsum_congr (g := fun i => toF (ds.getD (i * (T + 1)) 0)) (fun i _ => by unfold genP toFs; rw [List.map_cons, peval_cons0])] at h
  exact h
theorem refP_shared {N T : Nat} (ds l0 : List Int) {x : F} (h : Shared N T (toFs l0) x) : Shared N T (toFs (ofFs (List.zipWith (· + ·) (toFs l0) (sumD N (refP T ds) N)))) x := by
  rw [toFs_ofFs]
  have h2 := sumD_shared (n := N) (t := T) (f := refP T ds) N (fun i _ => by unfold refP; rw [toFs_length]; simp; omega)
  rw [fsum_zero (fun i _ => by unfold refP toFs; rw [List.map_cons, peval_cons0, toF_zero])] at h2
  have := h.add h2
  rwa [F_az] at this
theorem tweak_shared {N T : Nat} (l0 : List Int) {x : F} (a : F) (h : Shared N T (toFs l0) x) : Shared N T (toFs (l0.map fun y => ofF (toF y + a))) (x + a) := by
  have h2 := h.add (Shared.const N T a)
  have e : toFs (l0.map fun y => ofF (toF y + a)) = List.zipWith (· + ·) (toFs l0) (List.replicate N a) := by
    have hl := h.len
    rw [toFs_length] at hl
    refine List.ext_getElem (by simp [toFs_length, hl]) fun i h1 h2 => ?_
    simp [toFs, toF_ofF]
  rw [e]
  exact h2
theorem combine_shared {N T : Nat} (l0 l1 : List Int) {x y : F} (a b : Int) (h0 : Shared N T (toFs l0) x) (h1 : Shared N T (toFs l1) y) : Shared N T (toFs (zipS (· + ·) (l0.map fun z => ofF (toF z * toF a)) (l1.map fun z => ofF (toF z * toF b)))) (x * toF a + y * toF b) := by
  have h2 := (h0.scale (toF a)).add (h1.scale (toF b))
  have e : toFs (zipS (· + ·) (l0.map fun z => ofF (toF z * toF a)) (l1.map fun z => ofF (toF z * toF b))) = List.zipWith (· + ·) ((toFs l0).map (· * toF a)) ((toFs l1).map (· * toF b)) := by
    refine (show toFs (zipS (· + ·) (l0.map fun z => ofF (toF z * toF a)) (l1.map fun z => ofF (toF z * toF b))) = _ from toFs_ofFs (List.zipWith (· + ·) ((l0.map fun z => ofF (toF z * toF a)).map toF) ((l1.map fun z => ofF (toF z * toF b)).map toF))).trans ?_
    simp [toFs, Function.comp_def, toF_ofF]
  rw [e]
  exact h2
theorem multiply_shared {N T : Nat} (l0 l1 ds : List Int) {x y : F} (h0 : Shared N T (toFs l0) x) (h1 : Shared N T (toFs l1) y) (ht : 2 * T + 1 ≤ N) (hn : N ≤ 9) : Shared N T (toFs (ofFs (mulOut N T (toFs l0) (toFs l1) (toFs ds)))) (x * y) := by
  rw [toFs_ofFs]
  exact h0.mul h1 ht (by omega) _
end Go.Proofs.YtploomncapiloaaGreatDoor
namespace Go.Proofs.YtploomncapiloaaGreatDoor
open Go.RowKit Croft
theorem pts_get {l : List (Int × Int)} {k : Nat} {a y : Int} (h : l[k]? = some (a, y)) : (ptsF l)[k]? = some (toF a, toF y) := by unfold ptsF; rw [List.getElem?_map, h]; rfl
set_option maxRecDepth 100000 in
set_option maxHeartbeats 2000000 in
theorem rThrough_any (va : Value) (l : List (Int × Int)) (w : World) (h1 : IsShares w va l) (h : l.length ≤ 40) (hok : AtsOk l 2147483646) :
    Calls Tryz.prog 169 #[va] w fun e w' => ∃ v Q, e = .returned v ∧ Interp (ptsF l) Q ∧ OwnNums w' w.heap.size v (ofFs Q) ∧ Below w.heap.size w w' := by
  obtain ⟨A1, c1, rfl, hc1, hm1, hl1, hu1, hr1⟩ := h1
  have HOK := Lib.hid hok
  have HND := Lib.hid (pts_nodup hok)
  have hpl : (ptsF l).length = l.length := by simp [ptsF]
  have HPL := Lib.hid hpl
  clear hok hpl
  suffices hgoal : ∀ Post : Ending → World → Prop, (∀ e w', (∃ v Q, e = .returned v ∧ Interp (ptsF l) Q ∧ OwnNums w' w.heap.size v (ofFs Q) ∧ Below w.heap.size w w') → Post e w') → Calls Tryz.prog 169 #[.slice A1 l.length c1] w Post from hgoal _ fun e w' h => h
  intro Post hp
  have HP := Lib.hid hp
  clear hp
  go_enter Tryz.func169, Tryz.ntmps169
  go_wp2_with fail
  go_loopw [3, 4] (fun ov i wr => ∃ (k : Nat) (O : List F), k ≤ l.length ∧ i = .int .i64 k ∧ SumAt (ptsF l) k O ∧ OwnNums wr w.heap.size ov (ofFs O) ∧ Below w.heap.size w wr) (fun _ i _ => l.length - (intOf i).toNat)
  case atStart => exact ⟨0, [], Nat.zero_le _, rfl, SumAt.start _, OwnNums.nil _ _, Below.refl _ _⟩
  case round =>
    obtain ⟨i, O, hi, rfl, hsum, hown, hbel⟩ := hrel
    have HS := Lib.hid hsum
    have KO := Lib.hid hown
    have BEL := Lib.hid hbel
    have hsz := hbel.size
    have hr := hr1.below hbel
    have hr0 := Lib.hid hr1
    clear hsum hown hr1
    by_cases hlt : i < l.length
    · obtain ⟨b1, o1, ai, yi, rfl, hb1, hgi, hati, huyi, hc1', hc2⟩ := share_at hr hu1 hlt
      have HGI := Lib.hid hgi
      have HAI := Lib.hid (HOK.out.1 _ (List.mem_of_getElem? hgi))
      clear hr hgi hbel hc1'
      go_wp2_with fail
      have K1 := Lib.hid (show OwnNums (wr.alloc (.cells #[.int .u64 yi] 67)) w.heap.size (.slice (some ⟨wr.heap.size, 0, none⟩) 1 1) [yi] from lit_own wr w.heap.size [yi] (by simpa using huyi) (by simp) hsz)
      replace KO := Lib.hid (KO.out.alloc (.cells #[.int .u64 yi] 67))
      have hal := size_alloc wr (.cells #[.int .u64 yi] 67)
      replace BEL := Lib.hid (BEL.out.alloc hsz (.cells #[.int .u64 yi] 67))
      obtain ⟨wo, hwo⟩ : ∃ wo, wo = wr.alloc (.cells #[.int .u64 yi] 67) := ⟨_, rfl⟩
      rw [← hwo] at K1 KO BEL hal ⊢
      clear hwo hc2
      go_loopw [5, 6] (fun ov i' wr => ∃ (k : Nat) (zs : List Int), k ≤ l.length ∧ i' = .int .i64 k ∧ OneAt (ptsF l) i k (toFs zs) ∧ OwnNums wr w.heap.size ov zs ∧ OwnNums wr w.heap.size u3 (ofFs O) ∧ Below w.heap.size w wr) (fun _ i _ => l.length - (intOf i).toNat)
      case atStart => exact ⟨0, [yi], Nat.zero_le _, rfl, OneAt.start (pts_get HGI.out), K1.out, KO.out, BEL.out⟩
      case round =>
        obtain ⟨k, zs, hk, rfl, hone, hown, hown2, hbel⟩ := hrel
        clear K1 KO BEL
        have HE := Lib.hid hone
        have K1 := Lib.hid hown
        have KO := Lib.hid hown2
        have BEL := Lib.hid hbel
        have hsz2 := hbel.size
        have hr := hr0.out.below hbel
        have hlen := hone.len
        rw [toFs_length] at hlen
        clear hone hown hown2
        by_cases hlt2 : k < l.length
        · by_cases hki : k = i
          · subst hki
            clear hr hbel hlen
            go_wp2_with fail
            exact ⟨⟨k + 1, zs, by omega, by go_num, HE.out.skip, K1.out, KO.out, BEL.out⟩, by simp [intOf] <;> omega⟩
          · obtain ⟨b2, o2, ai', yi', hA, hb2, hgi2, hati2, huyi2, hd1, hd2⟩ := share_at hr hu1 hlt
            obtain ⟨b3, o3, ak, yk, hA3, hb3, hgk, hatk, huyk, hd3, hd4⟩ := share_at hr hu1 hlt2
            injection hA with hA
            injection hA with hA1 hA2
            subst hA1 hA2
            injection hA3 with hA3
            injection hA3 with hA4 hA5
            subst hA4 hA5
            have he3 : (ai', yi') = (ai, yi) := by have := HGI.out; rw [hgi2] at this; injection this
            injection he3 with he4 he5
            subst he4 he5
            have hbne : ((k : Int) == (i : Int)) = false := by rw [beq_eq_false_iff_ne]; omega
            have HGK := Lib.hid hgk
            have HKI := Lib.hid hki
            obtain ⟨ha1, ha2⟩ := HAI.out
            obtain ⟨hk1, hk2⟩ := HOK.out.1 _ (List.mem_of_getElem? hgk)
            dsimp only at ha1 ha2 hk1 hk2
            clear hr hbel hgi2 hgk hd2 hd4 hki hb2 hb3
            have hlz : zs.length ≤ 41 := by split at hlen <;> omega
            clear hlen
            go_wp2_with fail
            go_quiet (fail)
            have K2 := Lib.hid (K1.out.drewN nq)
            have KO2 := Lib.hid (KO.out.drewN nq)
            have BEL2 := Lib.hid (below_drewN BEL.out nq)
            clear K1 KO BEL
            obtain ⟨wo, hwo⟩ : ∃ wo, wo = wr.drewN nq := ⟨_, rfl⟩
            have hsz3 : w.heap.size ≤ wo.heap.size := by rw [hwo]; exact hsz2
            rw [← hwo] at K2 KO2 BEL2 ⊢
            clear hwo hsz2
            go_wp2_with fail
            have huk : U64 ak := ⟨by omega, by omega⟩
            have hui : U64 ai' := ⟨by omega, by omega⟩
            have HUK := Lib.hid huk
            have HUI := Lib.hid hui
            clear huk hui
            refine (rNeg_any _ _ HUK.out).mono ?_
            rintro e w' ⟨rfl, rfl⟩
            try dsimp only
            go_wp2_with fail
            refine (rAdd_any _ _ _ HUI.out (U64.of_ofF _)).mono ?_
            rintro e w' ⟨rfl, rfl⟩
            rw [toF_ofF]
            try dsimp only
            go_wp2_with fail
            refine (rInv_any _ _ (U64.of_ofF _)).mono ?_
            rintro e w' ⟨rfl, rfl⟩
            rw [toF_ofF]
            try dsimp only
            go_wp2_with fail
            refine (rNeg_any _ _ HUK.out).mono ?_
            rintro e w' ⟨rfl, rfl⟩
            try dsimp only
            go_wp2_with fail
            refine (rMul_any _ _ _ (U64.of_ofF _) (U64.of_ofF _)).mono ?_
            rintro e w' ⟨rfl, rfl⟩
            rw [toF_ofF, toF_ofF]
            try dsimp only
            go_wp2_with fail
            obtain ⟨u, hu⟩ : ∃ u, u = inv (toF ai' - toF ak) := ⟨_, rfl⟩
            have hneg : toF ai' + -toF ak = toF ai' - toF ak := by grind
            rw [hneg, ← hu]
            have HU := Lib.hid hu
            clear hu hneg
            refine (rProduct_any _ _ zs [ofF (-toF ak * u), ofF u] _ (by have h := K2.out.is.alloc (.cells #[.int .u64 (ofF (-toF ak * u)), .int .u64 (ofF u)] 67); exact h) (lit_own _ 0 [ofF (-toF ak * u), ofF u] (fun z hz => by simp at hz; rcases hz with rfl | rfl <;> exact U64.of_ofF _) (by simp) (Nat.zero_le _)).is (by omega) (by simp)).mono ?_
            rintro e W5 ⟨v5, rfl, ho, hb⟩
            rw [show toFs [ofF (-toF ak * u), ofF u] = [-toF ak * u, u] by simp only [toFs, List.map, toF_ofF]] at ho
            have K5 := Lib.hid (ho.less (base' := w.heap.size) (by rw [size_alloc]; omega))
            replace KO2 := Lib.hid ((KO2.out.alloc (.cells #[.int .u64 (ofF (-toF ak * u)), .int .u64 (ofF u)] 67)).below hb)
            replace BEL2 := Lib.hid (below_trans (BEL2.out.alloc hsz3 (.cells #[.int .u64 (ofF (-toF ak * u)), .int .u64 (ofF u)] 67)) hb (by rw [size_alloc]; omega))
            clear ho hb
            dsimp only
            go_wp2_with fail
            refine ⟨⟨k + 1, _, by omega, by go_num, ?_, K5.out, KO2.out, BEL2.out⟩, by simp [intOf] <;> omega⟩
            rw [toFs_ofFs, HU.out]
            exact HE.out.step HND.out (pts_get HGI.out) (pts_get HGK.out) HKI.out
        · have hkl : k = l.length := by omega
          subst hkl
          clear hr hbel hlen
          go_wp2_with fail
          refine (rSum_any _ _ _ _ _ KO.out.is K1.out.is).mono ?_
          rintro e W5 ⟨v5, rfl, ho, hb⟩
          rw [toFs_ofFs] at ho
          have K5 := Lib.hid (ho.less hsz2)
          replace BEL := Lib.hid (below_trans BEL.out hb hsz2)
          clear ho hb
          dsimp only
          go_wp2_with fail
          exact ⟨⟨i + 1, _, by omega, by go_num, HS.out.step (by rw [HPL.out]; exact hlt) (by rw [HPL.out]; exact HE.out), K5.out, BEL.out⟩, by simp [intOf] <;> omega⟩
    · clear hr hbel
      go_wp2_with fail
      obtain rfl : i = l.length := by omega
      have h1 := HS.out
      rw [← HPL.out] at h1
      exact HP.out _ _ ⟨_, _, rfl, h1.done, KO.out, BEL.out⟩
end Go.Proofs.YtploomncapiloaaGreatDoor
namespace Go.Proofs.YtploomncapiloaaGreatDoor
open Go.Proofs
open Go.Shelf
def lays189_ren : Go.Shelf.Ren := ⟨fun | 189 => 170 | 125 => 193 | 257 => 192 | 128 => 212 | 129 => 185 | 294 => 203 | 295 => 204 | 296 => 205 | 297 => 206 | 298 => 207 | 299 => 208 | 216 => 209 | 300 => 210 | 301 => 211 | 328 => 215 | 329 => 216 | 330 => 217 | 331 => 218 | 332 => 219 | 215 => 220 | 343 => 224 | n => n, fun | 28 => 53 | 3 => 3 | 46 => 122 | 0 => 0 | 51 => 163 | 53 => 67 | 4 => 4 | 183 => 212 | 182 => 211 | 131 => 217 | 5 => 5 | 9 => 9 | 218 => 224 | 222 => 228 | 228 => 233 | 229 => 234 | n => n, fun | n => n⟩
theorem lays189 : Go.Proofs.Lays.n189 Tryz.prog lays189_ren := {
  mixed := by kernel_rfl
  f125 := Tryz.func193.trans (congrArg some (by kernel_rfl))
  f128 := Tryz.func212.trans (congrArg some (by kernel_rfl))
  f129 := Tryz.func185.trans (congrArg some (by kernel_rfl))
  f189 := Tryz.func170.trans (congrArg some (by kernel_rfl))
  f215 := Tryz.func220.trans (congrArg some (by kernel_rfl))
  f216 := Tryz.func209.trans (congrArg some (by kernel_rfl))
  f257 := Tryz.func192.trans (congrArg some (by kernel_rfl))
  f294 := Tryz.func203.trans (congrArg some (by kernel_rfl))
  f295 := Tryz.func204.trans (congrArg some (by kernel_rfl))
  f296 := Tryz.func205.trans (congrArg some (by kernel_rfl))
  f297 := Tryz.func206.trans (congrArg some (by kernel_rfl))
  f298 := Tryz.func207.trans (congrArg some (by kernel_rfl))
  f299 := Tryz.func208.trans (congrArg some (by kernel_rfl))
  f300 := Tryz.func210.trans (congrArg some (by kernel_rfl))
  f301 := Tryz.func211.trans (congrArg some (by kernel_rfl))
  f328 := Tryz.func215.trans (congrArg some (by kernel_rfl))
  f329 := Tryz.func216.trans (congrArg some (by kernel_rfl))
  f330 := Tryz.func217.trans (congrArg some (by kernel_rfl))
  f331 := Tryz.func218.trans (congrArg some (by kernel_rfl))
  f332 := Tryz.func219.trans (congrArg some (by kernel_rfl))
  f343 := Tryz.func224.trans (congrArg some (by kernel_rfl))
  t0 := Tryz.underlying0
  a0 := Tryz.isAgg0
  z0 := Tryz.sizeOf0
  v0 := Tryz.zeroValue0
  t3 := Tryz.underlying3
  a3 := Tryz.isAgg3
  z3 := Tryz.sizeOf3
  v3 := Tryz.zeroValue3
  t4 := Tryz.underlying4
  a4 := Tryz.isAgg4
  z4 := Tryz.sizeOf4
  v4 := Tryz.zeroValue4
  t5 := Tryz.underlying5
  a5 := Tryz.isAgg5
  z5 := Tryz.sizeOf5
  v5 := Tryz.zeroValue5
  t9 := Tryz.underlying9
  a9 := Tryz.isAgg9
  z9 := Tryz.sizeOf9
  v9 := Tryz.zeroValue9
  t28 := Tryz.underlying53
  a28 := Tryz.isAgg53
  z28 := Tryz.sizeOf53
  v28 := Tryz.zeroValue53
  t46 := Tryz.underlying122
  a46 := Tryz.isAgg122
  z46 := Tryz.sizeOf122
  v46 := Tryz.zeroValue122
  t51 := Tryz.underlying163
  a51 := Tryz.isAgg163
  z51 := Tryz.sizeOf163
  v51 := Tryz.zeroValue163
  t53 := Tryz.underlying67
  a53 := Tryz.isAgg67
  z53 := Tryz.sizeOf67
  v53 := Tryz.zeroValue67
  t131 := Tryz.underlying217
  a131 := Tryz.isAgg217
  z131 := Tryz.sizeOf217
  v131 := Tryz.zeroValue217
  t182 := Tryz.underlying211
  a182 := Tryz.isAgg211
  z182 := Tryz.sizeOf211
  v182 := Tryz.zeroValue211
  t183 := Tryz.underlying212
  a183 := Tryz.isAgg212
  z183 := Tryz.sizeOf212
  v183 := Tryz.zeroValue212
  t218 := Tryz.underlying224
  a218 := Tryz.isAgg224
  z218 := Tryz.sizeOf224
  v218 := Tryz.zeroValue224
  t222 := Tryz.underlying228
  a222 := Tryz.isAgg228
  z222 := Tryz.sizeOf228
  v222 := Tryz.zeroValue228
  t228 := Tryz.underlying233
  a228 := Tryz.isAgg233
  z228 := Tryz.sizeOf233
  v228 := Tryz.zeroValue233
  t229 := Tryz.underlying234
  a229 := Tryz.isAgg234
  z229 := Tryz.sizeOf234
  v229 := Tryz.zeroValue234 }
end Go.Proofs.YtploomncapiloaaGreatDoor
namespace Go.Proofs.YtploomncapiloaaGreatDoor
open Go.RowKit Croft Go.Sort
def srt (zs : List Int) : List Int := zs.mergeSort fun x y => decide (x ≤ y)
theorem srt_perm (zs : List Int) : (srt zs).Perm zs := List.mergeSort_perm _ _
theorem srt_length (zs : List Int) : (srt zs).length = zs.length := (srt_perm zs).length_eq
theorem srt_pairwise (zs : List Int) : (srt zs).Pairwise (· ≤ ·) := by
  have h := List.pairwise_mergeSort (le := fun x y : Int => decide (x ≤ y)) (by intro a b c; simp; omega) (by intro a b; simp; omega) zs
  exact h.imp (by intro a b h; simpa using h)
theorem sort_any (base : Nat) (v : Value) (zs : List Int) (w : World) (h : OwnInts w base v zs) :
    Calls Tryz.prog 170 #[v] w fun e w' => e = .returned (.tuple #[]) ∧ OwnInts w' base v (srt zs) ∧ Below base w w' := by
  obtain ⟨h1, h2, h3⟩ := h
  rcases h1.2 with ⟨rfl, h0⟩ | ⟨g, cap, cur, rfl, hb, hg, hn, hc, hs, ht⟩
  · obtain rfl : zs = [] := List.length_eq_zero_iff.1 h0
    refine (Any.slices_Sort_int_none lays189 none 0 w).mono fun e w' hh => ?_
    obtain ⟨rfl, rfl⟩ := hh
    have e : srt [] = [] := by simp [srt]
    rw [e]
    exact ⟨rfl, ⟨h1, h2, h3⟩, Below.refl _ _⟩
  · have hgs : g < w.heap.size := (Array.getElem?_eq_some_iff.1 hg).1
    refine (Any.slices_Sort_int lays189 g 0 cap zs w (holds_of_blockI hg (by rw [← Nat.mul_one zs.length, ht]; rfl)) hgs (by omega)).mono fun e w' hh => ?_
    obtain ⟨rfl, n, os, rfl⟩ := hh
    refine ⟨rfl, ⟨?_, by rw [srt_length]; exact h2, fun z hz => h3 z ((srt_perm zs).mem_iff.1 hz)⟩, ?_⟩
    · have := ownsRow_sortedI (n := n) (os := os) (ss := zs) (ts := srt zs) (srt_length zs) hb hg hn hc hs
      rw [srt_length]
      exact this
    · obtain ⟨q1, q2, q3, q4, q5⟩ := grownBy_sortedI (w := w) (g := g) (n := n) (os := os) (srt zs).toArray
      exact ⟨q1, q2, q3, q4, fun k hk => q5 k (by omega) (by simp; omega)⟩
end Go.Proofs.YtploomncapiloaaGreatDoor
namespace Go.Proofs.YtploomncapiloaaGreatDoor
open Go.RowKit Croft
theorem IsShares.take {w : World} {A : Option Addr} {len c : Nat} {l : List (Int × Int)} (h : IsShares w (.slice A len c) l) (k : Nat) (hk : k ≤ l.length) : IsShares w (.slice A k c) (l.take k) := by
  obtain ⟨A1, c1, e1, e2, e3, e4, e5, e6⟩ := h
  injection e1 with e1a e1b e1c
  subst e1a e1b e1c
  have hl : (l.take k).length = k := by simp; omega
  refine ⟨_, _, by rw [hl], by rw [hl]; omega, e3, by rw [hl]; omega, fun z hz => e5 z (List.mem_of_mem_take hz), ?_⟩
  have e : shs (l.take k) = (shs l).take (k * 2) := by
    clear e2 e4 e5 e6 hl hk
    induction l generalizing k with
    | nil => simp [shs]
    | cons s l ih =>
      cases k with
      | zero => simp [shs]
      | succ k => rw [List.take_succ_cons, shs_cons, shs_cons, ih k, show (k + 1) * 2 = k * 2 + 1 + 1 by omega, List.take_succ_cons, List.take_succ_cons]
  rw [e]
  exact e6.take _
def badL (Q : List F) (l : List (Int × Int)) : List Int := (l.filter fun s => decide (peval Q (toF s.1) ≠ toF s.2)).map (·.1)
theorem badL_next {Q : List F} {l : List (Int × Int)} {k : Nat} {a y : Int} (h : l[k]? = some (a, y)) : badL Q (l.take (k + 1)) = badL Q (l.take k) ++ (if peval Q (toF a) ≠ toF y then [a] else []) := by
  unfold badL
  rw [List.take_add_one, h, Option.toList_some, List.filter_append, List.map_append]
  congr 1
  by_cases hc : peval Q (toF a) = toF y
  · simp [hc]
  · simp [hc]
theorem badL_length (Q : List F) (l : List (Int × Int)) : (badL Q l).length ≤ l.length := by
  unfold badL
  rw [List.length_map]
  exact List.length_filter_le _ _
theorem rShares_any (t : Int) (va : Value) (l : List (Int × Int)) (w : World) (h1 : IsShares w va l) :
    Calls Tryz.prog 81 #[.int .i64 t, va] w fun e w' => e = .returned (.int .i64 (checkE t l)) ∧ ∃ n, w' = w.drewN n := by
  have KA := Lib.hid h1
  obtain ⟨A1, c1, rfl, hc1, hm1, hl1, hu1, hr1⟩ := h1
  clear hu1 hr1 hm1
  go_enter Tryz.func81, Tryz.ntmps81
  go_wp2_with fail
  refine (rIn_any t 0 4 _).mono ?_
  rintro e w' ⟨rfl, rfl⟩
  by_cases ht : 0 ≤ t ∧ t ≤ 4
  · have HE := Lib.hid (show checkE t l = if partyB (l.map (·.1)) = true then if (l.length : Int) < t + 1 then 4 else 0 else 5 from if_pos ht)
    have hd : decide (0 ≤ t ∧ t ≤ 4) = true := decide_eq_true ht
    rw [hd]
    obtain ⟨ht1, ht2⟩ := ht
    clear hd
    try dsimp only
    go_wp2_with fail
    refine (rAts_any _ _ 9 _ KA.out).mono ?_
    rintro e w' ⟨rfl, nd, rfl⟩
    by_cases hp : AtsOk l 9
    · have hpp := partyB_ats.2 hp
      rw [show atsB l 9 = true from decide_eq_true hp]
      have HPP := Lib.hid hpp
      clear hp hpp
      try dsimp only
      by_cases hs : (l.length : Int) < t + 1
      · go_wp2_with fail
        go_ret
        exact ⟨by rw [HE.out, if_pos HPP.out, if_pos hs]; rfl, _, rfl⟩
      · go_wp2_with fail
        go_ret
        exact ⟨by rw [HE.out, if_pos HPP.out, if_neg (by omega)]; rfl, _, rfl⟩
    · rw [show atsB l 9 = false from decide_eq_false hp]
      have HPP := Lib.hid (fun hh => hp (partyB_ats.1 hh))
      clear hp
      try dsimp only
      go_wp2_with fail
      go_ret
      exact ⟨by rw [HE.out, if_neg HPP.out]; rfl, _, rfl⟩
  · have HE := Lib.hid (show checkE t l = 1 from if_neg ht)
    rw [show decide (0 ≤ t ∧ t ≤ 4) = false from decide_eq_false ht]
    clear ht
    try dsimp only
    go_wp2_with fail
    go_ret
    exact ⟨by rw [HE.out]; rfl, 0, rfl⟩
set_option maxRecDepth 100000 in
set_option maxHeartbeats 1000000 in
theorem rFit_any (t : Nat) (va : Value) (l : List (Int × Int)) (Q : List F) (w : World) (h1 : IsShares w va l) (h9 : l.length ≤ 20) (ht : t + 1 ≤ l.length) (hok : AtsOk (l.take (t + 1)) 2147483646) (hat : ∀ s ∈ l, 0 ≤ s.1) (hQ : Interp (ptsF (l.take (t + 1))) Q) :
    Calls Tryz.prog 129 #[.int .i64 t, va] w fun e w' => ∃ vp vb, e = .returned (.tuple #[vp, vb]) ∧ OwnNums w' w.heap.size vp (ofFs Q) ∧ OwnInts w' w.heap.size vb (srt (badL Q l)) ∧ Below w.heap.size w w' := by
  have KA := Lib.hid h1
  have HQ := Lib.hid hQ
  have HOK := Lib.hid hok
  have HAT := Lib.hid hat
  suffices hgoal : ∀ Post : Ending → World → Prop, (∀ e w', (∃ vp vb, e = .returned (.tuple #[vp, vb]) ∧ OwnNums w' w.heap.size vp (ofFs Q) ∧ OwnInts w' w.heap.size vb (srt (badL Q l)) ∧ Below w.heap.size w w') → Post e w') → Calls Tryz.prog 129 #[.int .i64 t, va] w Post from hgoal _ fun e w' h => h
  intro Post hpo
  have HP := Lib.hid hpo
  obtain ⟨A1, c1, rfl, hc1, hm1, hl1, hu1, hr1⟩ := h1
  have HT := Lib.hid (KA.out.take (t + 1) ht)
  have htl : (l.take (t + 1)).length ≤ 40 := by rw [List.length_take]; omega
  have HTL := Lib.hid htl
  clear hu1 hr1 hm1 hpo hQ hok hat htl
  go_enter Tryz.func129, Tryz.ntmps129
  go_wp2_with fail
  refine (rThrough_any _ _ _ HT.out HTL.out HOK.out).mono ?_
  rintro e W1 ⟨vT, Q1, rfl, hQ1, ho, hb⟩
  obtain rfl := HQ.out.unique (pts_nodup HOK.out) hQ1
  have KQ0 := Lib.hid ho
  have B1 := Lib.hid hb
  have hs1 := hb.size
  clear ho hb hQ1
  try dsimp only
  go_wp2_with fail
  go_loopw [7, 8] (fun v i wr => ∃ k : Nat, k ≤ l.length ∧ i = .int .i64 k ∧ OwnInts wr W1.heap.size v (badL Q (l.take k)) ∧ Below W1.heap.size W1 wr) (fun _ i _ => l.length - (intOf i).toNat)
  case atStart => exact ⟨0, Nat.zero_le _, rfl, OwnInts.nil _ _, Below.refl _ _⟩
  case round =>
    obtain ⟨k, hk, rfl, hown, hbel⟩ := hrel
    have KO := Lib.hid hown
    have BEL := Lib.hid hbel
    have hsz := hbel.size
    clear hown hbel
    by_cases hlt : k < l.length
    · have KQ := Lib.hid (KQ0.out.is.below (below_trans (Below.refl _ _) BEL.out (Nat.le_refl _)))
      obtain ⟨A, c, hA, _, _, _, hu, hr⟩ := KA.out.below (below_trans B1.out BEL.out B1.out.size)
      injection hA with hA1 hA2 hA3
      subst hA1 hA3
      clear hA2
      obtain ⟨b1, o1, at_, y, rfl, hb1, hgk, hat, huy, hca, hcb⟩ := share_at hr hu hlt
      have HBN := Lib.hid (badL_next (Q := Q) hgk)
      have HBL := Lib.hid (Nat.le_trans (badL_length Q (l.take k)) (by rw [List.length_take]; exact Nat.min_le_left _ _))
      have hat0 := HAT.out _ (List.mem_of_getElem? hgk)
      have hua : U64 at_ := ⟨hat0, by have := hat.2; dsimp only at this hat0; omega⟩
      have HUA := Lib.hid hua
      have HUY := Lib.hid huy
      have HI := Lib.hid hat
      have hwa : IntKind.u64.wrap at_ = at_ := by
        rw [IntKind.wrap_u64]; exact Int.emod_eq_of_lt hua.1 (by have := hua.2; omega)
      clear hr hu hgk hb1 hat0 hua huy hat
      go_wp2_with fail
      go_quiet ((first | exact quietL (rEval_any _ _ _ _ KQ.out HUA.out) | exact quietL (rNorm_any _ _ HUY.out)))
      rw [toFs_ofFs]
      have hrc : ∃ wo, wo = wr.drewN nq := ⟨_, rfl⟩
      obtain ⟨wo, hwo⟩ := hrc
      have KO2 := Lib.hid (KO.out.drewN nq)
      have BEL2 := Lib.hid (below_drewN BEL.out nq)
      have hsz2 : W1.heap.size ≤ wo.heap.size := by rw [hwo]; exact hsz
      replace hca : wo.cell? ⟨b1, o1 + k * 2, none⟩ = some (.int .i64 at_) := by rw [hwo]; exact hca
      rw [← hwo] at KO2 BEL2 ⊢
      clear hwo hcb KO BEL
      by_cases hc : peval Q (toF at_) = toF y
      · have hbe : (ofF (peval Q (toF at_)) != ofF (toF y)) = false := by rw [hc]; simp
        have HBM := Lib.hid (show badL Q (l.take (k + 1)) = badL Q (l.take k) by rw [HBN.out, if_neg (by simp [hc]), List.append_nil])
        clear hc HBN
        go_wp2_with fail
        exact ⟨⟨k + 1, by omega, by go_num, by rw [HBM.out]; exact KO2.out, BEL2.out⟩, by simp [intOf] <;> omega⟩
      · have hbe : (ofF (peval Q (toF at_)) != ofF (toF y)) = true := by rw [bne_iff_ne]; exact fun h => hc (ofF_inj h)
        have HBM := Lib.hid (show badL Q (l.take (k + 1)) = badL Q (l.take k) ++ [at_] by rw [HBN.out, if_pos hc])
        clear hc HBN
        go_wp2_with (at_builtin; go_loud (refine wpList_push_int rfl _ _ rfl W1.heap.size _ _ at_ wo.heap.size 1 rfl (KO2.out.alloc _) rfl (new_cell _ _ _) HI.out (by have := HBL.out; omega) (by rw [size_alloc]; omega) ?_))
        intro v' w5 hown' hbel'
        rw [← HBM.out] at hown'
        have K5 := Lib.hid hown'
        have B5 := Lib.hid ((BEL2.out.alloc hsz2 (.cells #[.int .i64 at_] 3)).trans hbel')
        clear hown' hbel'
        go_wp2_with fail
        exact ⟨⟨k + 1, by omega, by go_num, K5.out, B5.out⟩, by simp [intOf] <;> omega⟩
    · obtain rfl : l.length = k := by omega
      have HTE := Lib.hid (show l.take l.length = l from List.take_of_length_le (Nat.le_refl _))
      rw [HTE.out] at KO
      go_wp2_with fail
      refine (sort_any _ _ _ _ KO.out).mono ?_
      rintro e W8 ⟨rfl, ho, hb⟩
      have KS := Lib.hid ho
      have B8 := Lib.hid (BEL.out.trans hb)
      clear ho hb
      try dsimp only
      go_wp2_with fail
      exact HP.out _ _ ⟨_, _, rfl, KQ0.out.below B8.out, KS.out.less hs1, below_trans B1.out B8.out hs1⟩
end Go.Proofs.YtploomncapiloaaGreatDoor
