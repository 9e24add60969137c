/- Circuits: is a gate right? -/
import Derived.Test.YtljpangeodgbkaaDoorGates
import Derived.Test.YtljpangeodgbkaaDoorBox
namespace Go.Proofs.YtljpangeodgbkaaDoor
open Go.RowKit Croft

theorem cAhead_any (n i : Int) (b : Nat) (w : World) (h : w.cell? ⟨b, 0, none⟩ = some (.int .i64 i)) :
    Calls Tryd.prog 63 #[.int .i64 n, .pointer (some ⟨b, 0, none⟩)] w fun e w' => e = .returned (.bool (aheadB n i)) ∧ w = w' := by
  by_cases h1 : 0 ≤ n
  · have hd : aheadB n i = decide (n < i) := by simp [aheadB, h1]
    rw [hd]
    clear hd
    go_enter Tryd.func63, Tryd.ntmps63
    go_wp2
    all_goals (go_ret; exact ⟨by simp_all, rfl⟩)
  · have hd : aheadB n i = false := by simp [aheadB, h1]
    rw [hd]
    clear hd
    go_enter Tryd.func63, Tryd.ntmps63
    go_wp2
    all_goals (go_ret; exact ⟨rfl, rfl⟩)
def gV (g : Gt) : Value := .agg #[.int .i64 g.kind, .int .i64 g.a, .int .i64 g.b, .int .u64 g.n]
theorem cRight_1 (a b n i : Int) (w : World) :
    Calls Tryd.prog 45 #[.agg #[.int .i64 1, .int .i64 a, .int .i64 b, .int .u64 n], .int .i64 i] w fun e w' => e = .returned (.bool (decide (1 ≤ a) && decide (a ≤ 9) && decide (b = 0) && decide (n = 0))) ∧ Below w.heap.size w w' := by
  have BB := Lib.hid (((Below.refl w.heap.size w).alloc (Nat.le_refl _) (.cells #[.int .i64 1, .int .i64 a, .int .i64 b, .int .u64 n] 62)).alloc (by simp) (.cells #[.int .i64 i] 3))
  by_cases h1 : a ≥ 1
  · by_cases h2 : a ≤ 9
    · by_cases h3 : b = 0
      · by_cases h4 : n = 0
        · subst h3 h4
          go_enter Tryd.func45, Tryd.ntmps45
          go_wp2_with fail
          go_ret
          exact ⟨by simp [h1, h2], BB.out⟩
        · have hb : (n == 0) = false := by rw [beq_eq_false_iff_ne]; exact h4
          subst h3
          go_enter Tryd.func45, Tryd.ntmps45
          go_wp2_with fail
          go_ret
          exact ⟨by simp [h4], BB.out⟩
      · have hb : (b == 0) = false := by rw [beq_eq_false_iff_ne]; exact h3
        go_enter Tryd.func45, Tryd.ntmps45
        go_wp2_with fail
        go_ret
        exact ⟨by simp [h3], BB.out⟩
    · go_enter Tryd.func45, Tryd.ntmps45
      go_wp2_with fail
      go_ret
      exact ⟨by simp; intro _ h; omega, BB.out⟩
  · go_enter Tryd.func45, Tryd.ntmps45
    go_wp2_with fail
    go_ret
    exact ⟨by simp; intro h; omega, BB.out⟩
theorem cRight_2 (a b n i : Int) (w : World) :
    Calls Tryd.prog 45 #[.agg #[.int .i64 2, .int .i64 a, .int .i64 b, .int .u64 n], .int .i64 i] w fun e w' => e = .returned (.bool (decide (a = 0) && decide (b = 0))) ∧ Below w.heap.size w w' := by
  have BB := Lib.hid (((Below.refl w.heap.size w).alloc (Nat.le_refl _) (.cells #[.int .i64 2, .int .i64 a, .int .i64 b, .int .u64 n] 62)).alloc (by simp) (.cells #[.int .i64 i] 3))
  by_cases h1 : a = 0
  · by_cases h3 : b = 0
    · subst h1 h3
      go_enter Tryd.func45, Tryd.ntmps45
      go_wp2_with fail
      go_ret
      exact ⟨by simp, BB.out⟩
    · have hb : (b == 0) = false := by rw [beq_eq_false_iff_ne]; exact h3
      subst h1
      go_enter Tryd.func45, Tryd.ntmps45
      go_wp2_with fail
      go_ret
      exact ⟨by simp [h3], BB.out⟩
  · have hb : (a == 0) = false := by rw [beq_eq_false_iff_ne]; exact h1
    go_enter Tryd.func45, Tryd.ntmps45
    go_wp2_with fail
    go_ret
    exact ⟨by simp [h1], BB.out⟩
theorem cRight_6 (a b n i : Int) (w : World) :
    Calls Tryd.prog 45 #[.agg #[.int .i64 6, .int .i64 a, .int .i64 b, .int .u64 n], .int .i64 i] w fun e w' => e = .returned (.bool (aheadB a i && decide (b = 0))) ∧ Below w.heap.size w w' := by
  have BB := Lib.hid (((Below.refl w.heap.size w).alloc (Nat.le_refl _) (.cells #[.int .i64 6, .int .i64 a, .int .i64 b, .int .u64 n] 62)).alloc (by simp) (.cells #[.int .i64 i] 3))
  have hcf : ∀ (x y : Value) (W : World), (callFunc 63 #[x, y]).run Tryd.prog W = .ok (.enter 63 #[x, y]) W := fun x y W => by kernel_rfl
  by_cases h1 : aheadB a i = true
  · by_cases h3 : b = 0
    · subst h3
      go_enter Tryd.func45, Tryd.ntmps45
      go_wp2_with fail
      refine (cAhead_any _ i _ _ (by simp)).mono ?_
      rintro e w' ⟨rfl, rfl⟩
      rw [h1]
      try dsimp only
      go_wp2_with fail
      go_ret
      exact ⟨by simp [h1], BB.out⟩
    · have hb : (b == 0) = false := by rw [beq_eq_false_iff_ne]; exact h3
      go_enter Tryd.func45, Tryd.ntmps45
      go_wp2_with fail
      refine (cAhead_any _ i _ _ (by simp)).mono ?_
      rintro e w' ⟨rfl, rfl⟩
      rw [h1]
      try dsimp only
      go_wp2_with fail
      go_ret
      exact ⟨by simp [h3], BB.out⟩
  · have h1' : aheadB a i = false := by simpa using h1
    go_enter Tryd.func45, Tryd.ntmps45
    go_wp2_with fail
    refine (cAhead_any _ i _ _ (by simp)).mono ?_
    rintro e w' ⟨rfl, rfl⟩
    rw [h1']
    try dsimp only
    go_wp2_with fail
    go_ret
    exact ⟨by simp [h1'], BB.out⟩
set_option maxHeartbeats 1000000 in
theorem cRight_3 (a b n i : Int) (w : World) :
    Calls Tryd.prog 45 #[.agg #[.int .i64 3, .int .i64 a, .int .i64 b, .int .u64 n], .int .i64 i] w fun e w' => e = .returned (.bool (aheadB a i && aheadB b i && decide (n = 0))) ∧ Below w.heap.size w w' := by
  have BB := Lib.hid (((Below.refl w.heap.size w).alloc (Nat.le_refl _) (.cells #[.int .i64 3, .int .i64 a, .int .i64 b, .int .u64 n] 62)).alloc (by simp) (.cells #[.int .i64 i] 3))
  have hcf : ∀ (x y : Value) (W : World), (callFunc 63 #[x, y]).run Tryd.prog W = .ok (.enter 63 #[x, y]) W := fun x y W => by kernel_rfl
  by_cases h1 : aheadB a i = true
  · by_cases h2 : aheadB b i = true
    · by_cases h3 : n = 0
      · subst h3
        go_enter Tryd.func45, Tryd.ntmps45
        go_wp2_with fail
        refine (cAhead_any _ i _ _ (by simp)).mono ?_
        rintro e w' ⟨rfl, rfl⟩
        rw [h1]
        try dsimp only
        go_wp2_with fail
        refine (cAhead_any _ i _ _ (by simp)).mono ?_
        rintro e w' ⟨rfl, rfl⟩
        rw [h2]
        try dsimp only
        go_wp2_with fail
        go_ret
        exact ⟨by simp [h1, h2], BB.out⟩
      · have hb : (n == 0) = false := by rw [beq_eq_false_iff_ne]; exact h3
        go_enter Tryd.func45, Tryd.ntmps45
        go_wp2_with fail
        refine (cAhead_any _ i _ _ (by simp)).mono ?_
        rintro e w' ⟨rfl, rfl⟩
        rw [h1]
        try dsimp only
        go_wp2_with fail
        refine (cAhead_any _ i _ _ (by simp)).mono ?_
        rintro e w' ⟨rfl, rfl⟩
        rw [h2]
        try dsimp only
        go_wp2_with fail
        go_ret
        exact ⟨by simp [h3], BB.out⟩
    · have h2' : aheadB b i = false := by simpa using h2
      go_enter Tryd.func45, Tryd.ntmps45
      go_wp2_with fail
      refine (cAhead_any _ i _ _ (by simp)).mono ?_
      rintro e w' ⟨rfl, rfl⟩
      rw [h1]
      try dsimp only
      go_wp2_with fail
      refine (cAhead_any _ i _ _ (by simp)).mono ?_
      rintro e w' ⟨rfl, rfl⟩
      rw [h2']
      try dsimp only
      go_wp2_with fail
      go_ret
      exact ⟨by simp [h2'], BB.out⟩
  · have h1' : aheadB a i = false := by simpa using h1
    go_enter Tryd.func45, Tryd.ntmps45
    go_wp2_with fail
    refine (cAhead_any _ i _ _ (by simp)).mono ?_
    rintro e w' ⟨rfl, rfl⟩
    rw [h1']
    try dsimp only
    go_wp2_with fail
    go_ret
    exact ⟨by simp [h1'], BB.out⟩
set_option maxHeartbeats 1000000 in
theorem cRight_4 (a b n i : Int) (w : World) :
    Calls Tryd.prog 45 #[.agg #[.int .i64 4, .int .i64 a, .int .i64 b, .int .u64 n], .int .i64 i] w fun e w' => e = .returned (.bool (aheadB a i && aheadB b i && decide (n = 0))) ∧ Below w.heap.size w w' := by
  have BB := Lib.hid (((Below.refl w.heap.size w).alloc (Nat.le_refl _) (.cells #[.int .i64 4, .int .i64 a, .int .i64 b, .int .u64 n] 62)).alloc (by simp) (.cells #[.int .i64 i] 3))
  have hcf : ∀ (x y : Value) (W : World), (callFunc 63 #[x, y]).run Tryd.prog W = .ok (.enter 63 #[x, y]) W := fun x y W => by kernel_rfl
  by_cases h1 : aheadB a i = true
  · by_cases h2 : aheadB b i = true
    · by_cases h3 : n = 0
      · subst h3
        go_enter Tryd.func45, Tryd.ntmps45
        go_wp2_with fail
        refine (cAhead_any _ i _ _ (by simp)).mono ?_
        rintro e w' ⟨rfl, rfl⟩
        rw [h1]
        try dsimp only
        go_wp2_with fail
        refine (cAhead_any _ i _ _ (by simp)).mono ?_
        rintro e w' ⟨rfl, rfl⟩
        rw [h2]
        try dsimp only
        go_wp2_with fail
        go_ret
        exact ⟨by simp [h1, h2], BB.out⟩
      · have hb : (n == 0) = false := by rw [beq_eq_false_iff_ne]; exact h3
        go_enter Tryd.func45, Tryd.ntmps45
        go_wp2_with fail
        refine (cAhead_any _ i _ _ (by simp)).mono ?_
        rintro e w' ⟨rfl, rfl⟩
        rw [h1]
        try dsimp only
        go_wp2_with fail
        refine (cAhead_any _ i _ _ (by simp)).mono ?_
        rintro e w' ⟨rfl, rfl⟩
        rw [h2]
        try dsimp only
        go_wp2_with fail
        go_ret
        exact ⟨by simp [h3], BB.out⟩
    · have h2' : aheadB b i = false := by simpa using h2
      go_enter Tryd.func45, Tryd.ntmps45
      go_wp2_with fail
      refine (cAhead_any _ i _ _ (by simp)).mono ?_
      rintro e w' ⟨rfl, rfl⟩
      rw [h1]
      try dsimp only
      go_wp2_with fail
      refine (cAhead_any _ i _ _ (by simp)).mono ?_
      rintro e w' ⟨rfl, rfl⟩
      rw [h2']
      try dsimp only
      go_wp2_with fail
      go_ret
      exact ⟨by simp [h2'], BB.out⟩
  · have h1' : aheadB a i = false := by simpa using h1
    go_enter Tryd.func45, Tryd.ntmps45
    go_wp2_with fail
    refine (cAhead_any _ i _ _ (by simp)).mono ?_
    rintro e w' ⟨rfl, rfl⟩
    rw [h1']
    try dsimp only
    go_wp2_with fail
    go_ret
    exact ⟨by simp [h1'], BB.out⟩
set_option maxHeartbeats 1000000 in
theorem cRight_5 (a b n i : Int) (w : World) :
    Calls Tryd.prog 45 #[.agg #[.int .i64 5, .int .i64 a, .int .i64 b, .int .u64 n], .int .i64 i] w fun e w' => e = .returned (.bool (aheadB a i && aheadB b i && decide (n = 0))) ∧ Below w.heap.size w w' := by
  have BB := Lib.hid (((Below.refl w.heap.size w).alloc (Nat.le_refl _) (.cells #[.int .i64 5, .int .i64 a, .int .i64 b, .int .u64 n] 62)).alloc (by simp) (.cells #[.int .i64 i] 3))
  have hcf : ∀ (x y : Value) (W : World), (callFunc 63 #[x, y]).run Tryd.prog W = .ok (.enter 63 #[x, y]) W := fun x y W => by kernel_rfl
  by_cases h1 : aheadB a i = true
  · by_cases h2 : aheadB b i = true
    · by_cases h3 : n = 0
      · subst h3
        go_enter Tryd.func45, Tryd.ntmps45
        go_wp2_with fail
        refine (cAhead_any _ i _ _ (by simp)).mono ?_
        rintro e w' ⟨rfl, rfl⟩
        rw [h1]
        try dsimp only
        go_wp2_with fail
        refine (cAhead_any _ i _ _ (by simp)).mono ?_
        rintro e w' ⟨rfl, rfl⟩
        rw [h2]
        try dsimp only
        go_wp2_with fail
        go_ret
        exact ⟨by simp [h1, h2], BB.out⟩
      · have hb : (n == 0) = false := by rw [beq_eq_false_iff_ne]; exact h3
        go_enter Tryd.func45, Tryd.ntmps45
        go_wp2_with fail
        refine (cAhead_any _ i _ _ (by simp)).mono ?_
        rintro e w' ⟨rfl, rfl⟩
        rw [h1]
        try dsimp only
        go_wp2_with fail
        refine (cAhead_any _ i _ _ (by simp)).mono ?_
        rintro e w' ⟨rfl, rfl⟩
        rw [h2]
        try dsimp only
        go_wp2_with fail
        go_ret
        exact ⟨by simp [h3], BB.out⟩
    · have h2' : aheadB b i = false := by simpa using h2
      go_enter Tryd.func45, Tryd.ntmps45
      go_wp2_with fail
      refine (cAhead_any _ i _ _ (by simp)).mono ?_
      rintro e w' ⟨rfl, rfl⟩
      rw [h1]
      try dsimp only
      go_wp2_with fail
      refine (cAhead_any _ i _ _ (by simp)).mono ?_
      rintro e w' ⟨rfl, rfl⟩
      rw [h2']
      try dsimp only
      go_wp2_with fail
      go_ret
      exact ⟨by simp [h2'], BB.out⟩
  · have h1' : aheadB a i = false := by simpa using h1
    go_enter Tryd.func45, Tryd.ntmps45
    go_wp2_with fail
    refine (cAhead_any _ i _ _ (by simp)).mono ?_
    rintro e w' ⟨rfl, rfl⟩
    rw [h1']
    try dsimp only
    go_wp2_with fail
    go_ret
    exact ⟨by simp [h1'], BB.out⟩
theorem cRight_0 (k a b n i : Int) (w : World) (h1 : k ≠ 1) (h2 : k ≠ 2) (h3 : k ≠ 3) (h4 : k ≠ 4) (h5 : k ≠ 5) (h6 : k ≠ 6) :
    Calls Tryd.prog 45 #[.agg #[.int .i64 k, .int .i64 a, .int .i64 b, .int .u64 n], .int .i64 i] w fun e w' => e = .returned (.bool false) ∧ Below w.heap.size w w' := by
  have BB := Lib.hid (((Below.refl w.heap.size w).alloc (Nat.le_refl _) (.cells #[.int .i64 k, .int .i64 a, .int .i64 b, .int .u64 n] 62)).alloc (by simp) (.cells #[.int .i64 i] 3))
  have b1 : (k == 1) = false := by rw [beq_eq_false_iff_ne]; exact h1
  have b2 : (k == 2) = false := by rw [beq_eq_false_iff_ne]; exact h2
  have b3 : (k == 3) = false := by rw [beq_eq_false_iff_ne]; exact h3
  have b4 : (k == 4) = false := by rw [beq_eq_false_iff_ne]; exact h4
  have b5 : (k == 5) = false := by rw [beq_eq_false_iff_ne]; exact h5
  have b6 : (k == 6) = false := by rw [beq_eq_false_iff_ne]; exact h6
  clear h1 h2 h3 h4 h5 h6
  go_enter Tryd.func45, Tryd.ntmps45
  go_wp2_with fail
  go_ret
  exact ⟨rfl, BB.out⟩
theorem cRight_any (g : Gt) (i : Int) (w : World) :
    Calls Tryd.prog 45 #[gV g, .int .i64 i] w fun e w' => e = .returned (.bool (gRight g i)) ∧ Below w.heap.size w w' := by
  obtain ⟨k, a, b, n⟩ := g
  unfold gV gRight
  dsimp only
  by_cases h1 : k = 1
  · subst h1; rw [if_pos rfl]; exact cRight_1 a b n i w
  rw [if_neg h1]
  by_cases h2 : k = 2
  · subst h2; rw [if_pos rfl]; exact cRight_2 a b n i w
  rw [if_neg h2]
  by_cases h3 : k = 3
  · subst h3; rw [if_pos (.inl rfl)]; exact cRight_3 a b n i w
  by_cases h4 : k = 4
  · subst h4; rw [if_pos (.inr (.inl rfl))]; exact cRight_4 a b n i w
  by_cases h5 : k = 5
  · subst h5; rw [if_pos (.inr (.inr rfl))]; exact cRight_5 a b n i w
  rw [if_neg (by rintro (h | h | h) <;> omega)]
  by_cases h6 : k = 6
  · subst h6; rw [if_pos rfl]; exact cRight_6 a b n i w
  rw [if_neg h6]
  exact cRight_0 k a b n i w h1 h2 h3 h4 h5 h6
end Go.Proofs.YtljpangeodgbkaaDoor
namespace Go.Proofs.YtljpangeodgbkaaDoor
open Go.RowKit Croft

/-- the place of the first that a call says yes to -/
def idxInt (p : Int → Bool) (zs : List Int) (r : Int) : Prop := (0 ≤ r) ↔ zs.any p = true
theorem idxInts_any (g : Nat) (cap : Value) (p : Int → Bool) (va : Value) (zs : List Int) (w : World) (h1 : IsInts w va zs)
    (hg : ∀ z, Calls Tryd.prog g #[.int .i64 z, cap] w fun e w' => e = .returned (.bool (p z)) ∧ w = w')
    (hcf : ∀ (x y : Value) (W : World), (callFunc g #[x, y]).run Tryd.prog W = .ok (.enter g #[x, y]) W) :
    Calls Tryd.prog 52 #[va, .func (.func g) #[] #[cap]] w fun e w' => ∃ r, e = .returned (.int .i64 r) ∧ idxInt p zs r ∧ w = w' := by
  have HG := Lib.hid hg
  clear hg
  obtain ⟨A1, c1, rfl, hc1, hm1, hl1, hu1, hr1⟩ := h1
  have HU := Lib.hid hu1
  have HR := Lib.hid hr1
  clear hu1 hr1 hm1
  go_enter Tryd.func52, Tryd.ntmps52
  go_wp2_with fail
  go_loop [8] (fun i => ∃ k : Nat, k ≤ zs.length ∧ i = .int .i64 k ∧ (zs.take k).any p = false) (fun i => zs.length - (intOf i).toNat)
  case atStart => exact ⟨0, Nat.zero_le _, rfl, by simp⟩
  case round =>
    obtain ⟨k, hk, rfl, hno⟩ := hrel
    have HN := Lib.hid hno
    clear hno
    by_cases hlt : k < zs.length
    · obtain ⟨b1, o1, z, rfl, hb1, hz, huz, hc⟩ := ints_at HR.out HU.out hlt
      have HZ := Lib.hid hz
      clear hz hb1
      cases hp : p z with
      | true =>
        have HP := Lib.hid hp
        clear hp
        go_wp2_with fail
        refine (HG.out z).mono ?_
        rintro e w' ⟨rfl, rfl⟩
        rw [HP.out]
        try dsimp only
        go_wp2_with fail
        go_ret
        refine ⟨_, rfl, ⟨fun _ => ?_, fun _ => by omega⟩, rfl⟩
        rw [List.any_eq_true]
        exact ⟨z, List.mem_of_getElem? HZ.out, HP.out⟩
      | false =>
        have HP := Lib.hid hp
        clear hp
        go_wp2_with fail
        refine (HG.out z).mono ?_
        rintro e w' ⟨rfl, rfl⟩
        rw [HP.out]
        try dsimp only
        go_wp2_with fail
        refine ⟨⟨k + 1, by omega, by go_num, ?_⟩, by simp [intOf] <;> omega⟩
        rw [List.take_add_one, HZ.out, List.any_append, HN.out]
        simp [HP.out]
    · obtain rfl : k = zs.length := by omega
      go_wp2_with fail
      go_ret
      refine ⟨_, rfl, ⟨fun h => by omega, fun h => ?_⟩, rfl⟩
      have := HN.out
      rw [List.take_length, h] at this
      cases this
theorem hasInts_any (g : Nat) (cap : Value) (p : Int → Bool) (va : Value) (zs : List Int) (w : World) (h1 : IsInts w va zs)
    (hg : ∀ z, Calls Tryd.prog g #[.int .i64 z, cap] w fun e w' => e = .returned (.bool (p z)) ∧ w = w')
    (hcf : ∀ (x y : Value) (W : World), (callFunc g #[x, y]).run Tryd.prog W = .ok (.enter g #[x, y]) W) :
    Calls Tryd.prog 38 #[va, .func (.func g) #[] #[cap]] w fun e w' => e = .returned (.bool (zs.any p)) ∧ w = w' := by
  have C := Lib.hid (idxInts_any g cap p va zs w h1 hg hcf)
  clear h1 hg
  go_enter Tryd.func38, Tryd.ntmps38
  go_wp2_with fail
  refine C.out.mono ?_
  rintro e w' ⟨r, rfl, hr, rfl⟩
  cases ha : zs.any p with
  | true =>
    have h0 : r ≥ 0 := hr.2 ha
    have HA := Lib.hid ha
    clear hr ha
    try dsimp only
    go_wp2_with fail
    go_ret
    exact ⟨by rw [HA.out]; rfl, rfl⟩
  | false =>
    have h0 : ¬ r ≥ 0 := fun h => by have := hr.1 h; rw [ha] at this; cases this
    have HA := Lib.hid ha
    clear hr ha
    try dsimp only
    go_wp2_with fail
    go_ret
    exact ⟨by rw [HA.out]; rfl, rfl⟩
def outP (m : Nat) (z : Int) : Bool := !(decide (0 ≤ z) && decide (z < m))
theorem cOut_any (z : Int) (b m c : Nat) (A : Option Addr) (w : World) (h : w.cell? ⟨b, 0, none⟩ = some (.slice A m c)) (_hm : m ≤ 17592186043904) :
    Calls Tryd.prog 46 #[.int .i64 z, .pointer (some ⟨b, 0, none⟩)] w fun e w' => e = .returned (.bool (outP m z)) ∧ w = w' := by
  by_cases h1 : z < 0
  · have hd : outP m z = true := by simp [outP]; omega
    rw [hd]
    clear hd
    go_enter Tryd.func46, Tryd.ntmps46
    go_wp2_with fail
    go_ret
    exact ⟨rfl, rfl⟩
  · by_cases h2 : z ≥ (m : Int)
    · have hd : outP m z = true := by simp [outP]; omega
      rw [hd]
      clear hd
      go_enter Tryd.func46, Tryd.ntmps46
      go_wp2_with fail
      go_ret
      exact ⟨rfl, rfl⟩
    · have hd : outP m z = false := by simp [outP]; omega
      rw [hd]
      clear hd
      go_enter Tryd.func46, Tryd.ntmps46
      go_wp2_with fail
      go_ret
      exact ⟨rfl, rfl⟩
theorem outP_any (gs : List Gt) (os : List Int) : os.any (outP gs.length) = !(outsB gs os) := by
  unfold outsB outP
  rw [← List.not_all_eq_any_not]
/-- a circuit, handed on by value -/
def IsCirc (w : World) (v : Value) (gs : List Gt) (os : List Int) : Prop := ∃ vg vo, v = .agg #[vg, vo] ∧ IsGates w vg gs ∧ IsInts w vo os
theorem IsCirc.below {w w' : World} {v : Value} {gs : List Gt} {os : List Int} (h : IsCirc w v gs os) (hb : Below w.heap.size w w') : IsCirc w' v gs os := by
  obtain ⟨vg, vo, h1, h2, h3⟩ := h
  exact ⟨vg, vo, h1, h2.below hb, h3.below hb⟩
set_option maxRecDepth 100000 in
set_option maxHeartbeats 1000000 in
theorem cCheck_any (v : Value) (gs : List Gt) (os : List Int) (w : World) (h : IsCirc w v gs os) :
    Calls Tryd.prog 22 #[v] w fun e w' => e = .returned (.int .i64 (circE gs os)) ∧ Below w.heap.size w w' := by
  obtain ⟨vg, vo, rfl, hg, ho⟩ := h
  have KG := Lib.hid hg
  have KO := Lib.hid ho
  obtain ⟨A1, c1, rfl, hc1, hm1, hl1, hu1, hr1⟩ := hg
  obtain ⟨A2, c2, rfl, hc2, hm2, hl2, hu2, hr2⟩ := ho
  have BB := Lib.hid ((Below.refl w.heap.size w).alloc (Nat.le_refl _) (.cells #[.slice A1 gs.length c1, .slice A2 os.length c2] 25))
  have hcf : ∀ (x y : Value) (W : World), (callFunc 46 #[x, y]).run Tryd.prog W = .ok (.enter 46 #[x, y]) W := fun x y W => by kernel_rfl
  have hl1' : gs.length ≤ 17592186043904 := by omega
  clear hu1 hr1 hm1 hu2 hr2 hm2
  by_cases g0 : gs.length = 0
  · have HE := Lib.hid (show circE gs os = 1 by unfold circE; rw [if_pos (.inl g0)])
    have b0 : ((gs.length : Int) == 0) = true := by rw [beq_iff_eq]; omega
    have G0 := Lib.hid g0
    clear g0
    go_enter Tryd.func22, Tryd.ntmps22
    go_wp2_with fail
    go_ret
    exact ⟨by rw [HE.out]; rfl, BB.out⟩
  have b0 : ((gs.length : Int) == 0) = false := by rw [beq_eq_false_iff_ne]; omega
  by_cases o0 : os.length = 0
  · have HE := Lib.hid (show circE gs os = 1 by unfold circE; rw [if_pos (.inr o0)])
    have b1 : ((os.length : Int) == 0) = true := by rw [beq_iff_eq]; omega
    have O0 := Lib.hid o0
    clear o0 g0
    go_enter Tryd.func22, Tryd.ntmps22
    go_wp2_with fail
    go_ret
    exact ⟨by rw [HE.out]; rfl, BB.out⟩
  have b1 : ((os.length : Int) == 0) = false := by rw [beq_eq_false_iff_ne]; omega
  by_cases g3 : 30 < gs.length
  · have HE := Lib.hid (show circE gs os = 2 by unfold circE; rw [if_neg (by omega), if_pos (.inl g3)])
    have b2 : (gs.length : Int) > 30 := by omega
    clear g0 o0
    go_enter Tryd.func22, Tryd.ntmps22
    go_wp2_with fail
    go_ret
    exact ⟨by rw [HE.out]; rfl, BB.out⟩
  have b2 : ¬ (gs.length : Int) > 30 := by omega
  by_cases o3 : 30 < os.length
  · have HE := Lib.hid (show circE gs os = 2 by unfold circE; rw [if_neg (by omega), if_pos (.inr o3)])
    have b3 : (os.length : Int) > 30 := by omega
    clear g0 o0 g3
    go_enter Tryd.func22, Tryd.ntmps22
    go_wp2_with fail
    go_ret
    exact ⟨by rw [HE.out]; rfl, BB.out⟩
  have b3 : ¬ (os.length : Int) > 30 := by omega
  have HE := Lib.hid (show circE gs os = if gatesB gs gs.length = true then if outsB gs os = true then 0 else 1 else 1 by unfold circE; rw [if_neg (by omega), if_neg (by omega)])
  have hgl : gs.length ≤ 30 := by omega
  clear g0 o0 g3 o3
  go_enter Tryd.func22, Tryd.ntmps22
  go_wp2_with fail
  go_loopw [30] (fun i wr => ∃ k : Nat, k ≤ gs.length ∧ i = .int .i64 k ∧ gatesB gs k = true ∧ Box wr w.heap.size 25 [.slice A1 gs.length c1, .slice A2 os.length c2] ∧ Below w.heap.size w wr) (fun i _ => gs.length - (intOf i).toNat)
  case atStart => exact ⟨0, Nat.zero_le _, rfl, rfl, Box.new _ _ [.slice A1 gs.length c1, .slice A2 os.length c2], BB.out⟩
  case round =>
    obtain ⟨k, hk, rfl, hok, hbox, hbel⟩ := hrel
    have HOK := Lib.hid hok
    have KB := Lib.hid hbox
    have BEL := Lib.hid hbel
    have hsz := hbel.size
    clear hok hbox hbel
    by_cases hlt : k < gs.length
    · obtain ⟨A, c, hA, _, _, _, hu, hr⟩ := (KG.out.below BEL.out)
      injection hA with hA1 hA2 hA3
      subst hA1 hA3
      obtain ⟨b1', o1, g, rfl, hb1, hgk, hgo, ha1, ha2, ha3, ha4⟩ := gate_at hr hu hlt
      have HGK := Lib.hid hgk
      have BG := Lib.hid ((Below.refl wr.heap.size wr).alloc (Nat.le_refl _) (.cells #[.int .i64 g.kind, .int .i64 g.a, .int .i64 g.b, .int .u64 g.n] 62))
      clear hr hu hgk hb1
      go_wp2_with fail
      refine (cRight_any g k _).mono ?_
      rintro e w5 ⟨rfl, hb5⟩
      have B5 := Lib.hid (below_trans (below_trans BEL.out BG.out hsz) hb5 (by have := BG.out.size; omega))
      have K5 := Lib.hid ((KB.out.below BG.out).below hb5)
      clear hb5
      have HS := Lib.hid (show gatesB gs (k + 1) = gRight g k by rw [gatesB, HOK.out, HGK.out]; rfl)
      cases hgr : gRight g k with
      | true =>
        have HR := Lib.hid hgr
        clear hgr
        try dsimp only
        go_wp2_with fail
        exact ⟨⟨k + 1, by omega, by go_num, by rw [HS.out, HR.out], K5.out, B5.out⟩, by simp [intOf] <;> omega⟩
      | false =>
        have HR := Lib.hid hgr
        clear hgr
        try dsimp only
        go_wp2_with fail
        go_ret
        refine ⟨?_, B5.out⟩
        rw [HE.out, if_neg (fun h => ?_)]
        · rfl
        · have := (gatesB_iff gs gs.length).1 h k g (by omega) HGK.out
          rw [HR.out] at this; cases this
    · obtain rfl : k = gs.length := by omega
      have hc0 := KB.out.cell (i := 0) rfl
      have hc1' := KB.out.cell (i := 1) rfl
      go_wp2_with fail
      refine (hasInts_any 46 _ (outP gs.length) _ os _ (KO.out.below BEL.out) (fun z => cOut_any z _ _ _ _ _ (KB.out.cell (i := 0) rfl) hl1') hcf).mono ?_
      rintro e w' ⟨rfl, rfl⟩
      rw [outP_any]
      cases ho : outsB gs os with
      | true =>
        have HR := Lib.hid ho
        clear ho
        try dsimp only
        go_wp2_with fail
        go_ret
        exact ⟨by rw [HE.out, if_pos HOK.out, if_pos HR.out]; rfl, BEL.out⟩
      | false =>
        have HR := Lib.hid ho
        clear ho
        try dsimp only
        go_wp2_with fail
        go_ret
        exact ⟨by rw [HE.out, if_pos HOK.out, if_neg (by rw [HR.out]; simp)]; rfl, BEL.out⟩
end Go.Proofs.YtljpangeodgbkaaDoor
