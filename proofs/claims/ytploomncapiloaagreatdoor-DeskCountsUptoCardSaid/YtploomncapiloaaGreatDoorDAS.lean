/- Parts of the proof, put together by a program: RefK SolP SolF. No condition. -/
import Derived.Test.YtploomncapiloaaGreatDoorDAR
namespace Go.Proofs.YtploomncapiloaaGreatDoor
open Go.RowKit Go.Maps Croft
set_option maxRecDepth 100000 in
theorem kGen_bad (vd : Value) (ds : List Int) (w : World) {base kb mb n t last sz : Nat} {S : Int → Option (List Int)} {V : Int → Value} (hk : KeysIs w base kb mb n t last sz S V) (h1 : IsNums w vd ds) (hl : ds.length ≠ n * (t + 1)) (ht : t ≤ 4) (hn9 : n ≤ 9) :
    Calls Tryz.prog 65 #[.pointer (some ⟨kb, 0, none⟩), vd] w fun e w' => e = .returned (.tuple #[.int .i64 0, .int .i64 1]) ∧ Below w.heap.size w w' := by
  have KK := Lib.hid hk
  obtain ⟨A, c, rfl, hc1, hm1, hl1, hu1, hr1⟩ := h1
  obtain ⟨hc0, hct, _, hm, _⟩ := hk.cells
  have hkb := hk.lt
  obtain ⟨m, hme⟩ : ∃ m, n * (t + 1) = m := ⟨_, rfl⟩
  have hmul : (n : Int) * ((t : Int) + 1) = (m : Int) := by rw [← hme]; simp
  have hmb : m ≤ 45 := by rw [← hme]; exact Nat.le_trans (Nat.mul_le_mul hn9 (show t + 1 ≤ 5 by omega)) (by omega)
  rw [hme] at hl
  have hne : ((ds.length : Int) != (m : Int)) = true := by rw [bne_iff_ne]; omega
  clear hk hr1 hu1 hm1 hl hme
  go_enter Tryz.func65, Tryz.ntmps65
  go_wp2_with fail
  have BW := Lib.hid (((Below.refl w.heap.size w).alloc (Nat.le_refl _) (.cells #[.slice A ds.length c] 64)).alloc (by simp) (.cells #[.int .i64 ((t : Int) + 1)] 3))
  have Q0 := Lib.hid (show ((w.alloc (.cells #[.slice A ds.length c] 64)).alloc (.cells #[.int .i64 ((t : Int) + 1)] 3)).cell? ⟨w.heap.size, 0, none⟩ = some (.slice A ds.length c) by
    rw [World.cell?_alloc_lt (a := ⟨w.heap.size, 0, none⟩) (h := by simp)]
    exact new_cell _ _ _)
  have Q1 := Lib.hid (show ((w.alloc (.cells #[.slice A ds.length c] 64)).alloc (.cells #[.int .i64 ((t : Int) + 1)] 3)).cell? ⟨w.heap.size + 1, 0, none⟩ = some (.int .i64 ((t : Int) + 1)) by
    have := new_cell (w.alloc (.cells #[.slice A ds.length c] 64)) (.int .i64 ((t : Int) + 1)) 3
    rw [size_alloc] at this
    exact this)
  obtain ⟨W3, hW3⟩ : ∃ W3, W3 = (w.alloc (.cells #[.slice A ds.length c] 64)).alloc (.cells #[.int .i64 ((t : Int) + 1)] 3) := ⟨_, rfl⟩
  rw [← hW3] at BW Q0 Q1 ⊢
  have KK3 := Lib.hid (KK.out.below BW.out)
  clear hW3 hc0 hct hm
  obtain ⟨hc0, hct, _, hm, _⟩ := KK3.out.cells
  have hq0 := Q0.out
  have hq1 := Q1.out
  go_quiet (fail)
  go_wp2_with fail
  go_ret2
  exact ⟨rfl, below_drewN BW.out nq⟩
set_option maxRecDepth 100000 in
theorem kRefresh_bad (h : Int) (vd : Value) (ds l0 : List Int) (w : World) {base kb mb n t last sz : Nat} {S : Int → Option (List Int)} {V : Int → Value} (hk : KeysIs w base kb mb n t last sz S V) (hi : I64 h) (hs : S h = some l0) (hd : IsNums w vd ds) (hdl : ds.length ≠ n * t) (ht : t ≤ 4) (hn9 : n ≤ 9) :
    Calls Tryz.prog 67 #[.pointer (some ⟨kb, 0, none⟩), .int .i64 h, vd] w fun e w' => e = .returned (.int .i64 1) ∧ Below w.heap.size w w' := by
  have HTH := Lib.hid (show thereE S [h] = 0 from by rw [thereE_one, if_pos (by simp [hs])])
  obtain ⟨A, c, rfl, hc1, hm1, hl1, hu1, hr1⟩ := hd
  obtain ⟨m, hme⟩ : ∃ m, n * t = m := ⟨_, rfl⟩
  have hmul : (n : Int) * (t : Int) = (m : Int) := by rw [← hme]; simp
  have hmb : m ≤ 36 := by rw [← hme]; exact Nat.le_trans (Nat.mul_le_mul hn9 ht) (by omega)
  rw [hme] at hdl
  have hne : ((ds.length : Int) != (m : Int)) = true := by rw [bne_iff_ne]; omega
  have BA := Lib.hid ((((Below.refl w.heap.size w).alloc (Nat.le_refl _) (.cells #[.pointer (some ⟨kb, 0, none⟩)] 30)).alloc (by simp) (.cells #[.slice A ds.length c] 64)).alloc (by simp; omega) (.cells #[.int .i64 h] 3))
  have LI := Lib.hid (show IsInts (((w.alloc (.cells #[.pointer (some ⟨kb, 0, none⟩)] 30)).alloc (.cells #[.slice A ds.length c] 64)).alloc (.cells #[.int .i64 h] 3)) (.slice (some ⟨w.heap.size + 1 + 1, 0, none⟩) 1 1) [h] from by
    have := litI ((w.alloc (.cells #[.pointer (some ⟨kb, 0, none⟩)] 30)).alloc (.cells #[.slice A ds.length c] 64)) [h] (by simp; exact hi) (by simp)
    rw [size_alloc, size_alloc] at this
    exact this)
  have Q0 := Lib.hid (show (((w.alloc (.cells #[.pointer (some ⟨kb, 0, none⟩)] 30)).alloc (.cells #[.slice A ds.length c] 64)).alloc (.cells #[.int .i64 h] 3)).cell? ⟨w.heap.size, 0, none⟩ = some (.pointer (some ⟨kb, 0, none⟩)) by
    rw [World.cell?_alloc_lt (a := ⟨w.heap.size, 0, none⟩) (h := by simp; omega), World.cell?_alloc_lt (a := ⟨w.heap.size, 0, none⟩) (h := by simp)]
    exact new_cell _ _ _)
  have Q1 := Lib.hid (show (((w.alloc (.cells #[.pointer (some ⟨kb, 0, none⟩)] 30)).alloc (.cells #[.slice A ds.length c] 64)).alloc (.cells #[.int .i64 h] 3)).cell? ⟨w.heap.size + 1, 0, none⟩ = some (.slice A ds.length c) by
    rw [World.cell?_alloc_lt (a := ⟨w.heap.size + 1, 0, none⟩) (h := by simp)]
    have := new_cell (w.alloc (.cells #[.pointer (some ⟨kb, 0, none⟩)] 30)) (.slice A ds.length c) 64
    rw [size_alloc] at this
    exact this)
  have K1 := Lib.hid (hk.below BA.out)
  clear hk hr1 hu1 hm1 hdl hme
  go_enter Tryz.func67, Tryz.ntmps67
  go_wp2_with fail
  refine (kThere_any _ [h] _ K1.out LI.out).mono ?_
  rintro e w' ⟨rfl, rfl⟩
  rw [HTH.out]
  obtain ⟨w1, hw1⟩ : ∃ w1, w1 = ((w.alloc (.cells #[.pointer (some ⟨kb, 0, none⟩)] 30)).alloc (.cells #[.slice A ds.length c] 64)).alloc (.cells #[.int .i64 h] 3) := ⟨_, rfl⟩
  rw [← hw1] at K1 BA Q0 Q1 ⊢
  clear hw1 LI
  obtain ⟨hc0, hct, _, hm, _⟩ := K1.out.cells
  have hq0 := Q0.out
  have hq1 := Q1.out
  try dsimp only
  go_wp2_with fail
  go_quiet (fail)
  go_wp2_with fail
  go_ret
  exact ⟨rfl, below_drewN BA.out nq⟩
theorem lens2K {w : World} {A B : Option Addr} {n c m d : Nat} (h : n ≤ 17592186043904) (h2 : m ≤ 17592186043904) : LensAt (w.alloc (.cells #[.slice A n c, .slice B m d] 64)) w.heap.size 0 [n, m] := by
  refine ⟨by simp, fun j k hj => ?_⟩
  match j, hj with
  | 0, hj => simp at hj; subst hj; exact ⟨A, c, by simp, h⟩
  | 1, hj => simp at hj; subst hj; exact ⟨B, d, by simp, h2⟩
set_option maxRecDepth 100000 in
theorem gMul_drawsK (t : Int) (va vb vd : Value) (xs ys ds : List Int) (w : World) (h1 : IsNums w va xs) (h2 : IsNums w vb ys) (h3 : IsNums w vd ds) (ht : 0 ≤ t ∧ t ≤ 4) (hw : wireB [xs.length, ys.length] = true) (hx9 : xs.length ≤ 9) (hn : ¬ ((xs.length : Int) < 2 * t + 1)) (hd : (ds.length : Int) ≠ xs.length * t) :
    Calls Tryz.prog 124 #[.int .i64 t, va, vb, vd] w fun e w' => e = .returned (.tuple #[.slice none 0 0, .slice none 0 0, .int .i64 1]) ∧ Below w.heap.size w w' := by
  obtain ⟨A1, c1, rfl, hc1, hm1, hl1, hu1, hr1⟩ := h1
  obtain ⟨A2, c2, rfl, hc2, hm2, hl2, hu2, hr2⟩ := h2
  obtain ⟨A3, c3, rfl, hc3, hm3, hl3, hu3, hr3⟩ := h3
  clear hu1 hr1 hm1 hu2 hr2 hm2 hu3 hr3 hm3
  obtain ⟨ht1, ht2⟩ := ht
  have hd1 : decide (t < 0) = false := by simpa using ht1
  have hd2 : decide (t > 4) = false := by simpa using ht2
  have HE := Lib.hid (show wireE [xs.length, ys.length] = 0 by unfold wireE; rw [hw]; rfl)
  have hd3 : decide ((xs.length : Int) < 2 * t + 1) = false := by simpa using hn
  obtain ⟨T, rfl⟩ := Int.eq_ofNat_of_zero_le ht1
  have hT : T ≤ 4 := by omega
  have hnT : xs.length * T ≤ 36 := Nat.mul_le_mul hx9 hT
  have hnT0 : 0 ≤ (xs.length : Int) * (T : Int) ∧ (xs.length : Int) * (T : Int) ≤ 36 := by rw [show (xs.length : Int) * (T : Int) = ((xs.length * T : Nat) : Int) by simp]; omega
  have hdb : ((ds.length : Int) != (xs.length : Int) * (T : Int)) = true := by rw [bne_iff_ne]; exact hd
  clear hw hd hn
  go_enter Tryz.func124, Tryz.ntmps124
  go_wp2_with fail
  refine (gForm_any _ 0 _ _ _ _ (lens2K hl1 hl2) (by simp)).mono ?_
  rintro e w' ⟨rfl, rfl⟩
  rw [HE.out]
  try dsimp only
  go_wp2_with fail
  go_ret3
  exact ⟨rfl, (Below.refl _ _).alloc (Nat.le_refl _) _⟩
set_option maxRecDepth 100000 in
theorem kMultiply_bad (g h : Int) (vd : Value) (ds l0 l1 : List Int) (w : World) {base kb mb n t last sz : Nat} {S : Int → Option (List Int)} {V : Int → Value} (hk : KeysIs w base kb mb n t last sz S V) (hi : I64 g) (hj : I64 h) (hs : S g = some l0) (ht0 : S h = some l1) (hd : IsNums w vd ds) (hdl : ds.length ≠ n * t) (ht : t ≤ 4) (hn2 : 2 * t + 1 ≤ n) (hn9 : n ≤ 9) :
    Calls Tryz.prog 73 #[.pointer (some ⟨kb, 0, none⟩), .int .i64 g, .int .i64 h, vd] w fun e w' => e = .returned (.tuple #[.int .i64 0, .int .i64 1]) ∧ Below w.heap.size w w' := by
  have hl0 := (hk.len g l0 hs).1
  have hl1 := (hk.len h l1 ht0).1
  have BA := Lib.hid (show Below w.heap.size w (w.alloc (.cells #[.int .i64 g, .int .i64 h] 3)) from (Below.refl w.heap.size w).alloc (Nat.le_refl _) _)
  have K1 := Lib.hid (hk.below BA.out)
  have KD := Lib.hid (hd.below BA.out)
  have LI := Lib.hid (show IsInts (w.alloc (.cells #[.int .i64 g, .int .i64 h] 3)) (.slice (some ⟨w.heap.size, 0, none⟩) 2 2) [g, h] from litI w [g, h] (by simp; exact ⟨hi, hj⟩) (by simp))
  have HTH := Lib.hid (show thereE S [g, h] = 0 from by rw [thereE_two, if_pos (by simp [hs, ht0])])
  have HWB := Lib.hid (show wireB [l0.length, l1.length] = true by simp [wireB, hl0, hl1]; omega)
  have HDL := Lib.hid (show (ds.length : Int) ≠ l0.length * t by rw [hl0]; intro e; exact hdl (by exact_mod_cast e))
  suffices hgoal : ∀ Post : Ending → World → Prop, (∀ e w', e = .returned (.tuple #[.int .i64 0, .int .i64 1]) ∧ Below w.heap.size w w' → Post e w') → Calls Tryz.prog 73 #[.pointer (some ⟨kb, 0, none⟩), .int .i64 g, .int .i64 h, vd] w Post from hgoal _ fun e w' h => h
  intro Post hpo
  have HP := Lib.hid hpo
  clear hpo hk hdl hd
  go_enter Tryz.func73, Tryz.ntmps73
  go_wp2_with fail
  refine (kThere_any _ [g, h] _ K1.out LI.out).mono ?_
  rintro e w' ⟨rfl, rfl⟩
  rw [HTH.out]
  obtain ⟨w1, hw1⟩ : ∃ w1, w1 = (w.alloc (.cells #[.int .i64 g, .int .i64 h] 3)) := ⟨_, rfl⟩
  rw [← hw1] at K1 BA KD ⊢
  clear hw1 LI
  try dsimp only
  obtain ⟨_, hct, _, hm, _⟩ := K1.out.cells
  have hb1 := K1.out.le
  have hb2 := K1.out.lt
  have KQ := Lib.hid (K1.out.drewN 1)
  have hlook : (Instr.lookup 117 (.map (some mb)) (.int .i64 g) false).run Tryz.prog w1.drew = .ok (V g) w1.drew := KQ.out.store.look hi (by rw [hs]; rfl)
  have hlook2 : (Instr.lookup 117 (.map (some mb)) (.int .i64 h) false).run Tryz.prog w1.drew = .ok (V h) w1.drew := KQ.out.store.look hj (by rw [ht0]; rfl)
  have KR := Lib.hid (KQ.out.store.rows g l0 hs)
  have KR2 := Lib.hid (KQ.out.store.rows h l1 ht0)
  have KDQ := Lib.hid (KD.out.drewN 1)
  have C2 := Lib.hid (gMul_drawsK t _ _ _ l0 l1 ds _ KR.out.is KR2.out.is KDQ.out (by omega) HWB.out (by omega) (by omega) HDL.out)
  go_wp2_with fail
  go_region_held3 (fun w' => w'.cell? ⟨kb, 1, none⟩ = some (.int .i64 t) ∧ w'.cell? ⟨kb, 3, none⟩ = some (.map (some mb))) (go_keep) (first | (go_at_call 124; refine C2.out.mono ?_; rintro e w2 ⟨rfl, hb3⟩; have q0 := (hb3.cell (p := ⟨kb, 1, none⟩) hb2).trans hct; have q1 := (hb3.cell (p := ⟨kb, 3, none⟩) hb2).trans hm; have HB3 := Lib.hid hb3; clear hb3))
  all_goals (
    have B2 := Lib.hid (below_trans (below_drewN BA.out 1) HB3.out BA.out.size)
    clear hlook hlook2 hct hm q0 q1
    try dsimp only
    go_wp2_with fail
    exact HP.out _ _ ⟨rfl, B2.out⟩)
theorem kGen_new (vd : Value) (ds : List Int) (w : World) {base kb mb n t last sz : Nat} {S : Int → Option (List Int)} {V : Int → Value} (hk : KeysIs w base kb mb n t last sz S V) (h1 : IsNums w vd ds) (hl : ds.length = n * (t + 1)) (ht : t ≤ 4) (hn9 : n ≤ 9) (htn : t + 1 ≤ n) (hlast : last < 1000000) :
    Calls Tryz.prog 65 #[.pointer (some ⟨kb, 0, none⟩), vd] w fun e w' => NewKey w base kb mb n t last sz S (ofFs (sumD n (genP t ds) n)) e w' := by
  refine (kGen_any vd ds w hk h1 hl ht hn9 htn hlast).mono fun e w' h => ?_
  unfold NewKey
  by_cases h8 : sz = 8
  · rw [if_pos h8] at h ⊢
    exact ⟨h.1, ⟨V, hk.below h.2⟩, Near.of_below h.2⟩
  · rw [if_neg h8] at h ⊢
    exact h
theorem kNew_bad (n t : Int) (w : World) (h : ¬ (0 ≤ t ∧ t ≤ 4 ∧ 1 ≤ n ∧ n ≤ 9 ∧ 2 * t + 1 ≤ n)) :
    Calls Tryz.prog 61 #[.int .i64 n, .int .i64 t] w fun e w' => e = .returned (.tuple #[.pointer none, .int .i64 1]) ∧ w = w' := by
  by_cases h1 : t < 0
  · have d1 : decide (t < 0) = true := by simpa using h1
    go_enter Tryz.func61, Tryz.ntmps61
    go_wp2_with fail
    go_ret2
    exact ⟨rfl, rfl⟩
  · have d1 : decide (t < 0) = false := by simpa using h1
    by_cases h2 : t > 4
    · have d2 : decide (t > 4) = true := by simpa using h2
      go_enter Tryz.func61, Tryz.ntmps61
      go_wp2_with fail
      go_ret2
      exact ⟨rfl, rfl⟩
    · have d2 : decide (t > 4) = false := by simpa using h2
      by_cases h3 : n < 1
      · have d3 : decide (n < 1) = true := by simpa using h3
        go_enter Tryz.func61, Tryz.ntmps61
        go_wp2_with fail
        go_ret2
        exact ⟨rfl, rfl⟩
      · have d3 : decide (n < 1) = false := by simpa using h3
        by_cases h4 : n > 9
        · have d4 : decide (n > 9) = true := by simpa using h4
          go_enter Tryz.func61, Tryz.ntmps61
          go_wp2_with fail
          go_ret2
          exact ⟨rfl, rfl⟩
        · have d4 : decide (n > 9) = false := by simpa using h4
          have d5 : decide (n < 2 * t + 1) = true := by simp; omega
          go_enter Tryz.func61, Tryz.ntmps61
          go_wp2_with fail
          go_ret2
          exact ⟨rfl, rfl⟩
end Go.Proofs.YtploomncapiloaaGreatDoor
namespace Croft
abbrev Mx := Nat → Nat → F
def Ker (m v : Nat) (M : Mx) (z : Nat → F) : Prop := ∀ r, r < m → fsum v (fun j => M r j * z j) = 0
def ld (ls : List Nat) (i : Nat) : Nat := ls.getD i 0
theorem ld_get {ls : List Nat} {i : Nat} (h : i < ls.length) : ls[i]? = some (ld ls i) := by simp [ld, List.getElem?_eq_getElem h]
theorem ld_snoc_lt {ls : List Nat} {c i : Nat} (h : i < ls.length) : ld (ls ++ [c]) i = ld ls i := by simp [ld, List.getD, List.getElem?_append_left h]
theorem ld_snoc_at {ls : List Nat} {c i : Nat} (h : i = ls.length) : ld (ls ++ [c]) i = c := by subst h; simp [ld, List.getD]
theorem ld_mem {ls : List Nat} {c : Nat} : c ∈ ls ↔ ∃ i, i < ls.length ∧ ld ls i = c := by
  rw [List.mem_iff_getElem]
  constructor
  · rintro ⟨i, h, rfl⟩; exact ⟨i, h, by simp [ld, List.getElem?_eq_getElem h]⟩
  · rintro ⟨i, h, rfl⟩; exact ⟨i, h, by simp [ld, List.getElem?_eq_getElem h]⟩
structure Red (M0 M : Mx) (m v col : Nat) (ls : List Nat) : Prop where
  ker : ∀ z, Ker m v M z ↔ Ker m v M0 z
  len : ls.length ≤ m
  lt : ∀ i, i < ls.length → ld ls i < col
  inc : ∀ i j, i < j → j < ls.length → ld ls i < ld ls j
  one : ∀ i, i < ls.length → M i (ld ls i) = 1
  zero : ∀ i r, i < ls.length → r < m → r ≠ i → M r (ld ls i) = 0
  before : ∀ i c, i < ls.length → c < ld ls i → M i c = 0
  low : ∀ r c, ls.length ≤ r → r < m → c < col → M r c = 0
theorem Red.start (M0 : Mx) (m v : Nat) : Red M0 M0 m v 0 [] :=
  ⟨fun _ => Iff.rfl, by simp, fun i h => by simp at h, fun i j _ h => by simp at h, fun i h => by simp at h, fun i r h => by simp at h, fun i c h => by simp at h, fun r c _ _ h => by omega⟩
theorem Red.skip {M0 M : Mx} {m v col : Nat} {ls : List Nat} (h : Red M0 M m v col ls) (hz : ∀ r, ls.length ≤ r → r < m → M r col = 0) : Red M0 M m v (col + 1) ls :=
  ⟨h.ker, h.len, fun i hi => by have := h.lt i hi; omega, h.inc, h.one, h.zero, h.before, fun r c h1 h2 h3 => by
    by_cases hc : c = col
    · subst hc; exact hz r h1 h2
    · exact h.low r c h1 h2 (by omega)⟩
theorem Red.full {M0 M : Mx} {m v col : Nat} {ls : List Nat} (h : Red M0 M m v col ls) (hl : ls.length = m) : ∀ c, col ≤ c → Red M0 M m v c ls := by
  intro c hc
  induction hc with
  | refl => exact h
  | step _ ih => exact ih.skip fun r h1 h2 => by omega
def swapM (M : Mx) (a k : Nat) : Mx := fun r c => if r = a then M k c else if r = k then M a c else M r c
def scaleM (M : Mx) (a : Nat) (s : F) : Mx := fun r c => if r = a then M a c * s else M r c
def clearM (M : Mx) (a col : Nat) (n : Nat) : Mx := fun r c => if r < n ∧ r ≠ a then M r c - M r col * M a c else M r c
theorem ker_swap {m v : Nat} (M : Mx) {a k : Nat} (ha : a < m) (hk : k < m) (z : Nat → F) : Ker m v (swapM M a k) z ↔ Ker m v M z := by
  unfold Ker swapM
  constructor
  · intro h r hr
    by_cases h1 : r = a
    · subst h1
      by_cases h2 : k = r
      · subst h2; simpa using h k hk
      · have := h k hk
        rw [show (fun j => (if k = r then M k j else if k = k then M r j else M k j) * z j) = fun j => M r j * z j from by funext j; rw [if_neg h2, if_pos rfl]] at this
        exact this
    · by_cases h2 : r = k
      · subst h2
        have := h a ha
        rw [show (fun j => (if a = a then M r j else if a = r then M a j else M a j) * z j) = fun j => M r j * z j from by funext j; rw [if_pos rfl]] at this
        exact this
      · have := h r hr
        rw [show (fun j => (if r = a then M k j else if r = k then M a j else M r j) * z j) = fun j => M r j * z j from by funext j; rw [if_neg h1, if_neg h2]] at this
        exact this
  · intro h r hr
    by_cases h1 : r = a
    · rw [show (fun j => (if r = a then M k j else if r = k then M a j else M r j) * z j) = fun j => M k j * z j from by funext j; rw [if_pos h1]]
      exact h k hk
    · by_cases h2 : r = k
      · rw [show (fun j => (if r = a then M k j else if r = k then M a j else M r j) * z j) = fun j => M a j * z j from by funext j; rw [if_neg h1, if_pos h2]]
        exact h a ha
      · rw [show (fun j => (if r = a then M k j else if r = k then M a j else M r j) * z j) = fun j => M r j * z j from by funext j; rw [if_neg h1, if_neg h2]]
        exact h r hr
theorem ker_scale {m v : Nat} (M : Mx) {a : Nat} {s : F} (hs : s ≠ 0) (z : Nat → F) : Ker m v (scaleM M a s) z ↔ Ker m v M z := by
  unfold Ker scaleM
  have e : ∀ r, fsum v (fun j => (if r = a then M a j * s else M r j) * z j) = if r = a then s * fsum v (fun j => M r j * z j) else fsum v (fun j => M r j * z j) := by
    intro r
    by_cases h : r = a
    · subst h
      simp only [if_pos]
      rw [← fsum_mul]
      exact fsum_congr fun i _ => by grind
    · simp only [if_neg h]
  constructor
  · intro h r hr
    have := h r hr
    rw [e] at this
    split at this
    · rcases F_mul_zero this with h1 | h1
      · exact absurd h1 hs
      · exact h1
    · exact this
  · intro h r hr
    rw [e, h r hr]
    split
    · exact F_mz _
    · rfl
theorem ker_clear {m v : Nat} (M : Mx) {a col : Nat} (ha : a < m) (n : Nat) (z : Nat → F) : Ker m v (clearM M a col n) z ↔ Ker m v M z := by
  have e : ∀ r, fsum v (fun j => clearM M a col n r j * z j) = if r < n ∧ r ≠ a then fsum v (fun j => M r j * z j) + (- M r col) * fsum v (fun j => M a j * z j) else fsum v (fun j => M r j * z j) := by
    intro r
    by_cases h : r < n ∧ r ≠ a
    · rw [if_pos h, ← fsum_mul, ← fsum_add]
      exact fsum_congr fun i _ => by unfold clearM; rw [if_pos h]; grind
    · rw [if_neg h]
      exact fsum_congr fun i _ => by unfold clearM; rw [if_neg h]
  unfold Ker
  constructor
  · intro h r hr
    have h0 := h a ha
    rw [e, if_neg (fun hh => hh.2 rfl)] at h0
    have := h r hr
    rw [e] at this
    split at this
    · rw [h0, F_mz, F_az] at this; exact this
    · exact this
  · intro h r hr
    rw [e, h r hr, h a ha]
    split
    · rw [F_mz, F_az]
    · rfl
def pivM (M : Mx) (a k col m : Nat) : Mx := clearM (scaleM (swapM M a k) a (inv (M k col))) a col m
theorem Red.pivot {M0 M : Mx} {m v col k : Nat} {ls : List Nat} (h : Red M0 M m v col ls) (hk1 : ls.length ≤ k) (hk2 : k < m) (hp : M k col ≠ 0) : Red M0 (pivM M ls.length k col m) m v (col + 1) (ls ++ [col]) := by
  have ha : ls.length < m := by omega
  have hi := inv_ne hp
  have hmi := mul_inv hp
  have rowA : ∀ c, pivM M ls.length k col m ls.length c = M k c * inv (M k col) := fun c => by
    unfold pivM clearM scaleM swapM
    rw [if_neg (fun hh => hh.2 rfl), if_pos rfl, if_pos rfl]
  have rowR : ∀ r c, r < m → r ≠ ls.length → pivM M ls.length k col m r c = (if r = k then M ls.length c else M r c) - (if r = k then M ls.length col else M r col) * (M k c * inv (M k col)) := fun r c hr hne => by
    have e1 : ∀ x, scaleM (swapM M ls.length k) ls.length (inv (M k col)) r x = if r = k then M ls.length x else M r x := fun x => by
      unfold scaleM swapM
      rw [if_neg hne, if_neg hne]
    have e2 : scaleM (swapM M ls.length k) ls.length (inv (M k col)) ls.length c = M k c * inv (M k col) := by
      unfold scaleM swapM
      rw [if_pos rfl, if_pos rfl]
    unfold pivM clearM
    rw [if_pos ⟨hr, hne⟩, e1, e1, e2]
  refine ⟨fun z => ?_, by simp; omega, fun i hil => ?_, fun i j hij hjl => ?_, fun i hil => ?_, fun i r hil hr hne => ?_, fun i c hil hc => ?_, fun r c h1 h2 h3 => ?_⟩
  · unfold pivM
    rw [ker_clear _ ha, ker_scale _ hi, ker_swap _ ha hk2]
    exact h.ker z
  · rw [List.length_append, List.length_singleton] at hil
    rcases Nat.lt_or_ge i ls.length with h1 | h1
    · rw [ld_snoc_lt h1]; have := h.lt i h1; omega
    · rw [ld_snoc_at (by omega)]; omega
  · rw [List.length_append, List.length_singleton] at hjl
    rcases Nat.lt_or_ge j ls.length with h1 | h1
    · rw [ld_snoc_lt h1, ld_snoc_lt (by omega)]; exact h.inc i j hij h1
    · rw [ld_snoc_at (show j = ls.length by omega), ld_snoc_lt (by omega)]; exact h.lt i (by omega)
  · rw [List.length_append, List.length_singleton] at hil
    rcases Nat.lt_or_ge i ls.length with h1 | h1
    · rw [ld_snoc_lt h1, rowR i _ (by omega) (by omega), if_neg (by omega), if_neg (by omega), h.one i h1, h.low k _ hk1 hk2 (h.lt i h1), F_zm, F_mz, F_sz]
    · obtain rfl : i = ls.length := by omega
      rw [ld_snoc_at rfl, rowA, hmi]
  · rw [List.length_append, List.length_singleton] at hil
    rcases Nat.lt_or_ge i ls.length with h1 | h1
    · rw [ld_snoc_lt h1]
      have hkz := h.low k _ hk1 hk2 (h.lt i h1)
      by_cases hrl : r = ls.length
      · subst hrl; rw [rowA, hkz, F_zm]
      · rw [rowR r _ hr hrl, hkz, F_zm, F_mz, F_sz]
        split
        · exact h.low _ _ (Nat.le_refl _) ha (h.lt i h1)
        · exact h.zero i r h1 hr hne
    · obtain rfl : i = ls.length := by omega
      rw [ld_snoc_at rfl, rowR r _ hr hne, hmi, F_mo]
      grind
  · rw [List.length_append, List.length_singleton] at hil
    rcases Nat.lt_or_ge i ls.length with h1 | h1
    · rw [ld_snoc_lt h1] at hc
      rw [rowR i _ (by omega) (by omega), if_neg (by omega), if_neg (by omega), h.before i c h1 hc, h.low k c hk1 hk2 (by have := h.lt i h1; omega), F_zm, F_mz, F_sz]
    · obtain rfl : i = ls.length := by omega
      rw [ld_snoc_at rfl] at hc
      rw [rowA, h.low k c hk1 hk2 hc, F_zm]
  · rw [List.length_append, List.length_singleton] at h1
    rw [rowR r _ h2 (by omega)]
    by_cases hc : c = col
    · subst hc; rw [hmi, F_mo]; grind
    · rw [h.low k c hk1 hk2 (by omega), F_zm, F_mz, F_sz]
      split
      · exact h.low _ _ (Nat.le_refl _) ha (by omega)
      · exact h.low r c (by omega) h2 (by omega)
def ySol (M : Mx) (ls : List Nat) (c : Nat) (j : Nat) : F := fsum ls.length fun i => if ld ls i = j then M i c else 0
theorem ySol_out {M : Mx} {ls : List Nat} {c j : Nat} (h : j ∉ ls) : ySol M ls c j = 0 := by
  unfold ySol
  apply fsum_zero
  intro i hi
  rw [if_neg]
  rintro rfl
  exact h (ld_mem.2 ⟨i, hi, rfl⟩)
theorem Red.inj {M0 M : Mx} {m v col : Nat} {ls : List Nat} (h : Red M0 M m v col ls) {i j : Nat} (hi : i < ls.length) (hj : j < ls.length) (he : ld ls i = ld ls j) : i = j := by
  rcases Nat.lt_trichotomy i j with hl | hl | hl
  · have := h.inc i j hl hj; omega
  · exact hl
  · have := h.inc j i hl hi; omega
theorem Red.sum_y {M0 M : Mx} {m v col : Nat} {ls : List Nat} (h : Red M0 M m v col ls) (hv : col ≤ v) (c r : Nat) (hr : r < m) : fsum v (fun j => M r j * ySol M ls c j) = if r < ls.length then M r c else 0 := by
  have e : fsum v (fun j => M r j * ySol M ls c j) = fsum ls.length (fun i => M r (ld ls i) * M i c) := by
    have : fsum v (fun j => M r j * ySol M ls c j) = fsum v (fun j => fsum ls.length fun i => M r j * (if ld ls i = j then M i c else 0)) := fsum_congr fun j _ => by unfold ySol; rw [fsum_mul]
    rw [this, fsum_swap]
    apply fsum_congr
    intro i hi
    rw [fsum_one (ld ls i) (by have := h.lt i hi; omega), if_pos rfl]
    intro j _ hne
    rw [if_neg (fun he => hne he.symm), F_mz]
  rw [e]
  split
  · next hl =>
    rw [fsum_one r hl, h.one r hl, F_om]
    intro i hi hne
    rw [h.zero i r hi hr (Ne.symm hne), F_zm]
  · next hl =>
    apply fsum_zero
    intro i hi
    rw [h.zero i r hi hr (by omega), F_zm]
theorem Red.ker_y {M0 M : Mx} {m v col : Nat} {ls : List Nat} (h : Red M0 M m v col ls) (hv : col ≤ v) {c : Nat} (hc : c < v) (hz : ∀ r, ls.length ≤ r → r < m → M r c = 0) : Ker m v M0 (fun j => (if j = c then 1 else 0) - ySol M ls c j) := by
  rw [← h.ker]
  intro r hr
  have : fsum v (fun j => M r j * ((if j = c then 1 else 0) - ySol M ls c j)) = fsum v (fun j => M r j * (if j = c then 1 else 0)) + (-1) * fsum v (fun j => M r j * ySol M ls c j) := by
    rw [← fsum_mul, ← fsum_add]
    exact fsum_congr fun i _ => by grind
  rw [this, h.sum_y hv c r hr, fsum_one c hc (fun i _ hne => by rw [if_neg hne, F_mz]), if_pos rfl, F_mo]
  split
  · grind
  · rw [hz r (by omega) hr, F_mz, F_az]
theorem Red.solves {M0 M : Mx} {m n : Nat} {ls : List Nat} (h : Red M0 M m (n + 1) n ls) (hz : ∀ r, ls.length ≤ r → r < m → M r n = 0) : ∀ r, r < m → fsum n (fun j => M0 r j * ySol M ls n j) = M0 r n := by
  intro r hr
  have hn : n ∉ ls := fun hm => by
    obtain ⟨i, hi, he⟩ := ld_mem.1 hm
    have := h.lt i hi
    omega
  have h1 := h.ker_y (by omega) (show n < n + 1 by omega) hz r hr
  rw [fsum] at h1
  dsimp only at h1
  rw [if_pos rfl, ySol_out hn, F_sz, F_mo] at h1
  have : fsum n (fun j => M0 r j * ((if j = n then 1 else 0) - ySol M ls n j)) = (-1) * fsum n (fun j => M0 r j * ySol M ls n j) := by
    rw [← fsum_mul]
    exact fsum_congr fun i hi => by rw [if_neg (by omega)]; grind
  rw [this] at h1
  grind
end Croft
namespace Croft
def Meets (m n : Nat) (M : Mx) (y : Nat → F) : Prop := ∀ r, r < m → fsum n (fun j => M r j * y j) = M r n
section
variable {M0 M M1 N1 : Mx} {m m1 n : Nat} {ls ls1 : List Nat}
theorem meets_ker {y : Nat → F} : Meets m n M0 y ↔ Ker m (n + 1) M0 (fun j => if j < n then y j else -1) := by
  have e : ∀ r, fsum (n + 1) (fun j => M0 r j * (if j < n then y j else -1)) = fsum n (fun j => M0 r j * y j) - M0 r n := fun r => by
    rw [fsum, if_neg (by omega), fsum_congr (g := fun j => M0 r j * y j) (fun i hi => by rw [if_pos hi])]
    grind
  constructor
  · intro h r hr
    rw [e, h r hr]; grind
  · intro h r hr
    have h1 := h r hr
    rw [e] at h1
    grind
theorem Red.meets (h : Red M0 M m (n + 1) n ls) {y : Nat → F} : Meets m n M0 y ↔ Meets m n M y := by
  rw [meets_ker, meets_ker, h.ker]
theorem Red.fits (h : Red M0 M m (n + 1) n ls) {y : Nat → F} (hy : Meets m n M0 y) : ∀ r, ls.length ≤ r → r < m → M r n = 0 := by
  intro r h1 h2
  rw [← (h.meets.1 hy) r h2]
  exact fsum_zero fun i hi => by rw [h.low r i h1 h2 hi, F_zm]
theorem Red.sol (h : Red M0 M m (n + 1) n ls) (hz : ∀ r, ls.length ≤ r → r < m → M r n = 0) : Meets m n M0 (ySol M ls n) := h.solves hz
end
end Croft
