/- Parts of the proof, put together by a program: CircW TextW Strs. No condition. -/
import Derived.Test.YtploomncapiloaaGreatDoorDAF
namespace Go.Proofs.YtploomncapiloaaGreatDoor
open Go.RowKit Croft
theorem cAhead_any (n i : Int) (b : Nat) (w : World) (h : w.cell? ⟨b, 0, none⟩ = some (.int .i64 i)) :
    Calls Tryz.prog 194 #[.int .i64 n, .pointer (some ⟨b, 0, none⟩)] w fun e w' => e = .returned (.bool (aheadB n i)) ∧ w = w' := by
  by_cases h1 : 0 ≤ n
  · have hd : aheadB n i = decide (n < i) := by simp [aheadB, h1]
    rw [hd]
    clear hd
    go_enter Tryz.func194, Tryz.ntmps194
    go_wp2
    all_goals (go_ret; exact ⟨by simp_all, rfl⟩)
  · have hd : aheadB n i = false := by simp [aheadB, h1]
    rw [hd]
    clear hd
    go_enter Tryz.func194, Tryz.ntmps194
    go_wp2
    all_goals (go_ret; exact ⟨rfl, rfl⟩)
def gV (g : Gt) : Value := .agg #[.int .i64 g.kind, .int .i64 g.a, .int .i64 g.b, .int .u64 g.n]
theorem cRight_1 (a b n i : Int) (w : World) :
    Calls Tryz.prog 175 #[.agg #[.int .i64 1, .int .i64 a, .int .i64 b, .int .u64 n], .int .i64 i] w fun e w' => e = .returned (.bool (decide (1 ≤ a) && decide (a ≤ 9) && decide (b = 0) && decide (n = 0))) ∧ Below w.heap.size w w' := by
  have BB := Lib.hid (((Below.refl w.heap.size w).alloc (Nat.le_refl _) (.cells #[.int .i64 1, .int .i64 a, .int .i64 b, .int .u64 n] 133)).alloc (by simp) (.cells #[.int .i64 i] 3))
  by_cases h1 : a ≥ 1
  · by_cases h2 : a ≤ 9
    · by_cases h3 : b = 0
      · by_cases h4 : n = 0
        · subst h3 h4
          go_enter Tryz.func175, Tryz.ntmps175
          go_wp2_with fail
          go_ret
          exact ⟨by simp [h1, h2], BB.out⟩
        · have hb : (n == 0) = false := by rw [beq_eq_false_iff_ne]; exact h4
          subst h3
          go_enter Tryz.func175, Tryz.ntmps175
          go_wp2_with fail
          go_ret
          exact ⟨by simp [h4], BB.out⟩
      · have hb : (b == 0) = false := by rw [beq_eq_false_iff_ne]; exact h3
        go_enter Tryz.func175, Tryz.ntmps175
        go_wp2_with fail
        go_ret
        exact ⟨by simp [h3], BB.out⟩
    · go_enter Tryz.func175, Tryz.ntmps175
      go_wp2_with fail
      go_ret
      exact ⟨by simp; intro _ h; omega, BB.out⟩
  · go_enter Tryz.func175, Tryz.ntmps175
    go_wp2_with fail
    go_ret
    exact ⟨by simp; intro h; omega, BB.out⟩
theorem cRight_2 (a b n i : Int) (w : World) :
    Calls Tryz.prog 175 #[.agg #[.int .i64 2, .int .i64 a, .int .i64 b, .int .u64 n], .int .i64 i] w fun e w' => e = .returned (.bool (decide (a = 0) && decide (b = 0))) ∧ Below w.heap.size w w' := by
  have BB := Lib.hid (((Below.refl w.heap.size w).alloc (Nat.le_refl _) (.cells #[.int .i64 2, .int .i64 a, .int .i64 b, .int .u64 n] 133)).alloc (by simp) (.cells #[.int .i64 i] 3))
  by_cases h1 : a = 0
  · by_cases h3 : b = 0
    · subst h1 h3
      go_enter Tryz.func175, Tryz.ntmps175
      go_wp2_with fail
      go_ret
      exact ⟨by simp, BB.out⟩
    · have hb : (b == 0) = false := by rw [beq_eq_false_iff_ne]; exact h3
      subst h1
      go_enter Tryz.func175, Tryz.ntmps175
      go_wp2_with fail
      go_ret
      exact ⟨by simp [h3], BB.out⟩
  · have hb : (a == 0) = false := by rw [beq_eq_false_iff_ne]; exact h1
    go_enter Tryz.func175, Tryz.ntmps175
    go_wp2_with fail
    go_ret
    exact ⟨by simp [h1], BB.out⟩
theorem cRight_6 (a b n i : Int) (w : World) :
    Calls Tryz.prog 175 #[.agg #[.int .i64 6, .int .i64 a, .int .i64 b, .int .u64 n], .int .i64 i] w fun e w' => e = .returned (.bool (aheadB a i && decide (b = 0))) ∧ Below w.heap.size w w' := by
  have BB := Lib.hid (((Below.refl w.heap.size w).alloc (Nat.le_refl _) (.cells #[.int .i64 6, .int .i64 a, .int .i64 b, .int .u64 n] 133)).alloc (by simp) (.cells #[.int .i64 i] 3))
  have hcf : ∀ (x y : Value) (W : World), (callFunc 194 #[x, y]).run Tryz.prog W = .ok (.enter 194 #[x, y]) W := fun x y W => by kernel_rfl
  by_cases h1 : aheadB a i = true
  · by_cases h3 : b = 0
    · subst h3
      go_enter Tryz.func175, Tryz.ntmps175
      go_wp2_with fail
      refine (cAhead_any _ i _ _ (by simp)).mono ?_
      rintro e w' ⟨rfl, rfl⟩
      rw [h1]
      try dsimp only
      go_wp2_with fail
      go_ret
      exact ⟨by simp [h1], BB.out⟩
    · have hb : (b == 0) = false := by rw [beq_eq_false_iff_ne]; exact h3
      go_enter Tryz.func175, Tryz.ntmps175
      go_wp2_with fail
      refine (cAhead_any _ i _ _ (by simp)).mono ?_
      rintro e w' ⟨rfl, rfl⟩
      rw [h1]
      try dsimp only
      go_wp2_with fail
      go_ret
      exact ⟨by simp [h3], BB.out⟩
  · have h1' : aheadB a i = false := by simpa using h1
    go_enter Tryz.func175, Tryz.ntmps175
    go_wp2_with fail
    refine (cAhead_any _ i _ _ (by simp)).mono ?_
    rintro e w' ⟨rfl, rfl⟩
    rw [h1']
    try dsimp only
    go_wp2_with fail
    go_ret
    exact ⟨by simp [h1'], BB.out⟩
set_option maxHeartbeats 1000000 in
theorem cRight_3 (a b n i : Int) (w : World) :
    Calls Tryz.prog 175 #[.agg #[.int .i64 3, .int .i64 a, .int .i64 b, .int .u64 n], .int .i64 i] w fun e w' => e = .returned (.bool (aheadB a i && aheadB b i && decide (n = 0))) ∧ Below w.heap.size w w' := by
  have BB := Lib.hid (((Below.refl w.heap.size w).alloc (Nat.le_refl _) (.cells #[.int .i64 3, .int .i64 a, .int .i64 b, .int .u64 n] 133)).alloc (by simp) (.cells #[.int .i64 i] 3))
  have hcf : ∀ (x y : Value) (W : World), (callFunc 194 #[x, y]).run Tryz.prog W = .ok (.enter 194 #[x, y]) W := fun x y W => by kernel_rfl
  by_cases h1 : aheadB a i = true
  · by_cases h2 : aheadB b i = true
    · by_cases h3 : n = 0
      · subst h3
        go_enter Tryz.func175, Tryz.ntmps175
        go_wp2_with fail
        refine (cAhead_any _ i _ _ (by simp)).mono ?_
        rintro e w' ⟨rfl, rfl⟩
        rw [h1]
        try dsimp only
        go_wp2_with fail
        refine (cAhead_any _ i _ _ (by simp)).mono ?_
        rintro e w' ⟨rfl, rfl⟩
        rw [h2]
        try dsimp only
        go_wp2_with fail
        go_ret
        exact ⟨by simp [h1, h2], BB.out⟩
      · have hb : (n == 0) = false := by rw [beq_eq_false_iff_ne]; exact h3
        go_enter Tryz.func175, Tryz.ntmps175
        go_wp2_with fail
        refine (cAhead_any _ i _ _ (by simp)).mono ?_
        rintro e w' ⟨rfl, rfl⟩
        rw [h1]
        try dsimp only
        go_wp2_with fail
        refine (cAhead_any _ i _ _ (by simp)).mono ?_
        rintro e w' ⟨rfl, rfl⟩
        rw [h2]
        try dsimp only
        go_wp2_with fail
        go_ret
        exact ⟨by simp [h3], BB.out⟩
    · have h2' : aheadB b i = false := by simpa using h2
      go_enter Tryz.func175, Tryz.ntmps175
      go_wp2_with fail
      refine (cAhead_any _ i _ _ (by simp)).mono ?_
      rintro e w' ⟨rfl, rfl⟩
      rw [h1]
      try dsimp only
      go_wp2_with fail
      refine (cAhead_any _ i _ _ (by simp)).mono ?_
      rintro e w' ⟨rfl, rfl⟩
      rw [h2']
      try dsimp only
      go_wp2_with fail
      go_ret
      exact ⟨by simp [h2'], BB.out⟩
  · have h1' : aheadB a i = false := by simpa using h1
    go_enter Tryz.func175, Tryz.ntmps175
    go_wp2_with fail
    refine (cAhead_any _ i _ _ (by simp)).mono ?_
    rintro e w' ⟨rfl, rfl⟩
    rw [h1']
    try dsimp only
    go_wp2_with fail
    go_ret
    exact ⟨by simp [h1'], BB.out⟩
set_option maxHeartbeats 1000000 in
theorem cRight_4 (a b n i : Int) (w : World) :
    Calls Tryz.prog 175 #[.agg #[.int .i64 4, .int .i64 a, .int .i64 b, .int .u64 n], .int .i64 i] w fun e w' => e = .returned (.bool (aheadB a i && aheadB b i && decide (n = 0))) ∧ Below w.heap.size w w' := by
  have BB := Lib.hid (((Below.refl w.heap.size w).alloc (Nat.le_refl _) (.cells #[.int .i64 4, .int .i64 a, .int .i64 b, .int .u64 n] 133)).alloc (by simp) (.cells #[.int .i64 i] 3))
  have hcf : ∀ (x y : Value) (W : World), (callFunc 194 #[x, y]).run Tryz.prog W = .ok (.enter 194 #[x, y]) W := fun x y W => by kernel_rfl
  by_cases h1 : aheadB a i = true
  · by_cases h2 : aheadB b i = true
    · by_cases h3 : n = 0
      · subst h3
        go_enter Tryz.func175, Tryz.ntmps175
        go_wp2_with fail
        refine (cAhead_any _ i _ _ (by simp)).mono ?_
        rintro e w' ⟨rfl, rfl⟩
        rw [h1]
        try dsimp only
        go_wp2_with fail
        refine (cAhead_any _ i _ _ (by simp)).mono ?_
        rintro e w' ⟨rfl, rfl⟩
        rw [h2]
        try dsimp only
        go_wp2_with fail
        go_ret
        exact ⟨by simp [h1, h2], BB.out⟩
      · have hb : (n == 0) = false := by rw [beq_eq_false_iff_ne]; exact h3
        go_enter Tryz.func175, Tryz.ntmps175
        go_wp2_with fail
        refine (cAhead_any _ i _ _ (by simp)).mono ?_
        rintro e w' ⟨rfl, rfl⟩
        rw [h1]
        try dsimp only
        go_wp2_with fail
        refine (cAhead_any _ i _ _ (by simp)).mono ?_
        rintro e w' ⟨rfl, rfl⟩
        rw [h2]
        try dsimp only
        go_wp2_with fail
        go_ret
        exact ⟨by simp [h3], BB.out⟩
    · have h2' : aheadB b i = false := by simpa using h2
      go_enter Tryz.func175, Tryz.ntmps175
      go_wp2_with fail
      refine (cAhead_any _ i _ _ (by simp)).mono ?_
      rintro e w' ⟨rfl, rfl⟩
      rw [h1]
      try dsimp only
      go_wp2_with fail
      refine (cAhead_any _ i _ _ (by simp)).mono ?_
      rintro e w' ⟨rfl, rfl⟩
      rw [h2']
      try dsimp only
      go_wp2_with fail
      go_ret
      exact ⟨by simp [h2'], BB.out⟩
  · have h1' : aheadB a i = false := by simpa using h1
    go_enter Tryz.func175, Tryz.ntmps175
    go_wp2_with fail
    refine (cAhead_any _ i _ _ (by simp)).mono ?_
    rintro e w' ⟨rfl, rfl⟩
    rw [h1']
    try dsimp only
    go_wp2_with fail
    go_ret
    exact ⟨by simp [h1'], BB.out⟩
set_option maxHeartbeats 1000000 in
theorem cRight_5 (a b n i : Int) (w : World) :
    Calls Tryz.prog 175 #[.agg #[.int .i64 5, .int .i64 a, .int .i64 b, .int .u64 n], .int .i64 i] w fun e w' => e = .returned (.bool (aheadB a i && aheadB b i && decide (n = 0))) ∧ Below w.heap.size w w' := by
  have BB := Lib.hid (((Below.refl w.heap.size w).alloc (Nat.le_refl _) (.cells #[.int .i64 5, .int .i64 a, .int .i64 b, .int .u64 n] 133)).alloc (by simp) (.cells #[.int .i64 i] 3))
  have hcf : ∀ (x y : Value) (W : World), (callFunc 194 #[x, y]).run Tryz.prog W = .ok (.enter 194 #[x, y]) W := fun x y W => by kernel_rfl
  by_cases h1 : aheadB a i = true
  · by_cases h2 : aheadB b i = true
    · by_cases h3 : n = 0
      · subst h3
        go_enter Tryz.func175, Tryz.ntmps175
        go_wp2_with fail
        refine (cAhead_any _ i _ _ (by simp)).mono ?_
        rintro e w' ⟨rfl, rfl⟩
        rw [h1]
        try dsimp only
        go_wp2_with fail
        refine (cAhead_any _ i _ _ (by simp)).mono ?_
        rintro e w' ⟨rfl, rfl⟩
        rw [h2]
        try dsimp only
        go_wp2_with fail
        go_ret
        exact ⟨by simp [h1, h2], BB.out⟩
      · have hb : (n == 0) = false := by rw [beq_eq_false_iff_ne]; exact h3
        go_enter Tryz.func175, Tryz.ntmps175
        go_wp2_with fail
        refine (cAhead_any _ i _ _ (by simp)).mono ?_
        rintro e w' ⟨rfl, rfl⟩
        rw [h1]
        try dsimp only
        go_wp2_with fail
        refine (cAhead_any _ i _ _ (by simp)).mono ?_
        rintro e w' ⟨rfl, rfl⟩
        rw [h2]
        try dsimp only
        go_wp2_with fail
        go_ret
        exact ⟨by simp [h3], BB.out⟩
    · have h2' : aheadB b i = false := by simpa using h2
      go_enter Tryz.func175, Tryz.ntmps175
      go_wp2_with fail
      refine (cAhead_any _ i _ _ (by simp)).mono ?_
      rintro e w' ⟨rfl, rfl⟩
      rw [h1]
      try dsimp only
      go_wp2_with fail
      refine (cAhead_any _ i _ _ (by simp)).mono ?_
      rintro e w' ⟨rfl, rfl⟩
      rw [h2']
      try dsimp only
      go_wp2_with fail
      go_ret
      exact ⟨by simp [h2'], BB.out⟩
  · have h1' : aheadB a i = false := by simpa using h1
    go_enter Tryz.func175, Tryz.ntmps175
    go_wp2_with fail
    refine (cAhead_any _ i _ _ (by simp)).mono ?_
    rintro e w' ⟨rfl, rfl⟩
    rw [h1']
    try dsimp only
    go_wp2_with fail
    go_ret
    exact ⟨by simp [h1'], BB.out⟩
theorem cRight_0 (k a b n i : Int) (w : World) (h1 : k ≠ 1) (h2 : k ≠ 2) (h3 : k ≠ 3) (h4 : k ≠ 4) (h5 : k ≠ 5) (h6 : k ≠ 6) :
    Calls Tryz.prog 175 #[.agg #[.int .i64 k, .int .i64 a, .int .i64 b, .int .u64 n], .int .i64 i] w fun e w' => e = .returned (.bool false) ∧ Below w.heap.size w w' := by
  have BB := Lib.hid (((Below.refl w.heap.size w).alloc (Nat.le_refl _) (.cells #[.int .i64 k, .int .i64 a, .int .i64 b, .int .u64 n] 133)).alloc (by simp) (.cells #[.int .i64 i] 3))
  have b1 : (k == 1) = false := by rw [beq_eq_false_iff_ne]; exact h1
  have b2 : (k == 2) = false := by rw [beq_eq_false_iff_ne]; exact h2
  have b3 : (k == 3) = false := by rw [beq_eq_false_iff_ne]; exact h3
  have b4 : (k == 4) = false := by rw [beq_eq_false_iff_ne]; exact h4
  have b5 : (k == 5) = false := by rw [beq_eq_false_iff_ne]; exact h5
  have b6 : (k == 6) = false := by rw [beq_eq_false_iff_ne]; exact h6
  clear h1 h2 h3 h4 h5 h6
  go_enter Tryz.func175, Tryz.ntmps175
  go_wp2_with fail
  go_ret
  exact ⟨rfl, BB.out⟩
theorem cRight_any (g : Gt) (i : Int) (w : World) :
    Calls Tryz.prog 175 #[gV g, .int .i64 i] w fun e w' => e = .returned (.bool (gRight g i)) ∧ Below w.heap.size w w' := by
  obtain ⟨k, a, b, n⟩ := g
  unfold gV gRight
  dsimp only
  by_cases h1 : k = 1
  · subst h1; rw [if_pos rfl]; exact cRight_1 a b n i w
  rw [if_neg h1]
  by_cases h2 : k = 2
  · subst h2; rw [if_pos rfl]; exact cRight_2 a b n i w
  rw [if_neg h2]
  by_cases h3 : k = 3
  · subst h3; rw [if_pos (.inl rfl)]; exact cRight_3 a b n i w
  by_cases h4 : k = 4
  · subst h4; rw [if_pos (.inr (.inl rfl))]; exact cRight_4 a b n i w
  by_cases h5 : k = 5
  · subst h5; rw [if_pos (.inr (.inr rfl))]; exact cRight_5 a b n i w
  rw [if_neg (by rintro (h | h | h) <;> omega)]
  by_cases h6 : k = 6
  · subst h6; rw [if_pos rfl]; exact cRight_6 a b n i w
  rw [if_neg h6]
  exact cRight_0 k a b n i w h1 h2 h3 h4 h5 h6
def idxInt (p : Int → Bool) (zs : List Int) (r : Int) : Prop := (0 ≤ r) ↔ zs.any p = true
theorem idxInts_any (g : Nat) (cap : Value) (p : Int → Bool) (va : Value) (zs : List Int) (w : World) (h1 : IsInts w va zs)
    (hg : ∀ z, Calls Tryz.prog g #[.int .i64 z, cap] w fun e w' => e = .returned (.bool (p z)) ∧ w = w')
    (hcf : ∀ (x y : Value) (W : World), (callFunc g #[x, y]).run Tryz.prog W = .ok (.enter g #[x, y]) W) :
    Calls Tryz.prog 177 #[va, .func (.func g) #[] #[cap]] w fun e w' => ∃ r, e = .returned (.int .i64 r) ∧ idxInt p zs r ∧ w = w' := by
  have HG := Lib.hid hg
  clear hg
  obtain ⟨A1, c1, rfl, hc1, hm1, hl1, hu1, hr1⟩ := h1
  have HU := Lib.hid hu1
  have HR := Lib.hid hr1
  clear hu1 hr1 hm1
  go_enter Tryz.func177, Tryz.ntmps177
  go_wp2_with fail
  go_loop [8] (fun i => ∃ k : Nat, k ≤ zs.length ∧ i = .int .i64 k ∧ (zs.take k).any p = false) (fun i => zs.length - (intOf i).toNat)
  case atStart => exact ⟨0, Nat.zero_le _, rfl, by simp⟩
  case round =>
    obtain ⟨k, hk, rfl, hno⟩ := hrel
    have HN := Lib.hid hno
    clear hno
    by_cases hlt : k < zs.length
    · obtain ⟨b1, o1, z, rfl, hb1, hz, huz, hc⟩ := ints_at HR.out HU.out hlt
      have HZ := Lib.hid hz
      clear hz hb1
      cases hp : p z with
      | true =>
        have HP := Lib.hid hp
        clear hp
        go_wp2_with fail
        refine (HG.out z).mono ?_
        rintro e w' ⟨rfl, rfl⟩
        rw [HP.out]
        try dsimp only
        go_wp2_with fail
        go_ret
        refine ⟨_, rfl, ⟨fun _ => ?_, fun _ => by omega⟩, rfl⟩
        rw [List.any_eq_true]
        exact ⟨z, List.mem_of_getElem? HZ.out, HP.out⟩
      | false =>
        have HP := Lib.hid hp
        clear hp
        go_wp2_with fail
        refine (HG.out z).mono ?_
        rintro e w' ⟨rfl, rfl⟩
        rw [HP.out]
        try dsimp only
        go_wp2_with fail
        refine ⟨⟨k + 1, by omega, by go_num, ?_⟩, by simp [intOf] <;> omega⟩
        rw [List.take_add_one, HZ.out, List.any_append, HN.out]
        simp [HP.out]
    · obtain rfl : k = zs.length := by omega
      go_wp2_with fail
      go_ret
      refine ⟨_, rfl, ⟨fun h => by omega, fun h => ?_⟩, rfl⟩
      have := HN.out
      rw [List.take_length, h] at this
      cases this
theorem hasInts_any (g : Nat) (cap : Value) (p : Int → Bool) (va : Value) (zs : List Int) (w : World) (h1 : IsInts w va zs)
    (hg : ∀ z, Calls Tryz.prog g #[.int .i64 z, cap] w fun e w' => e = .returned (.bool (p z)) ∧ w = w')
    (hcf : ∀ (x y : Value) (W : World), (callFunc g #[x, y]).run Tryz.prog W = .ok (.enter g #[x, y]) W) :
    Calls Tryz.prog 145 #[va, .func (.func g) #[] #[cap]] w fun e w' => e = .returned (.bool (zs.any p)) ∧ w = w' := by
  have C := Lib.hid (idxInts_any g cap p va zs w h1 hg hcf)
  clear h1 hg
  go_enter Tryz.func145, Tryz.ntmps145
  go_wp2_with fail
  refine C.out.mono ?_
  rintro e w' ⟨r, rfl, hr, rfl⟩
  cases ha : zs.any p with
  | true =>
    have h0 : r ≥ 0 := hr.2 ha
    have HA := Lib.hid ha
    clear hr ha
    try dsimp only
    go_wp2_with fail
    go_ret
    exact ⟨by rw [HA.out]; rfl, rfl⟩
  | false =>
    have h0 : ¬ r ≥ 0 := fun h => by have := hr.1 h; rw [ha] at this; cases this
    have HA := Lib.hid ha
    clear hr ha
    try dsimp only
    go_wp2_with fail
    go_ret
    exact ⟨by rw [HA.out]; rfl, rfl⟩
def outP (m : Nat) (z : Int) : Bool := !(decide (0 ≤ z) && decide (z < m))
theorem cOut_any (z : Int) (b m c : Nat) (A : Option Addr) (w : World) (h : w.cell? ⟨b, 0, none⟩ = some (.slice A m c)) (_hm : m ≤ 17592186043904) :
    Calls Tryz.prog 176 #[.int .i64 z, .pointer (some ⟨b, 0, none⟩)] w fun e w' => e = .returned (.bool (outP m z)) ∧ w = w' := by
  by_cases h1 : z < 0
  · have hd : outP m z = true := by simp [outP]; omega
    rw [hd]
    clear hd
    go_enter Tryz.func176, Tryz.ntmps176
    go_wp2_with fail
    go_ret
    exact ⟨rfl, rfl⟩
  · by_cases h2 : z ≥ (m : Int)
    · have hd : outP m z = true := by simp [outP]; omega
      rw [hd]
      clear hd
      go_enter Tryz.func176, Tryz.ntmps176
      go_wp2_with fail
      go_ret
      exact ⟨rfl, rfl⟩
    · have hd : outP m z = false := by simp [outP]; omega
      rw [hd]
      clear hd
      go_enter Tryz.func176, Tryz.ntmps176
      go_wp2_with fail
      go_ret
      exact ⟨rfl, rfl⟩
theorem outP_any (gs : List Gt) (os : List Int) : os.any (outP gs.length) = !(outsB gs os) := by
  unfold outsB outP
  rw [← List.not_all_eq_any_not]
def IsCirc (w : World) (v : Value) (gs : List Gt) (os : List Int) : Prop := ∃ vg vo, v = .agg #[vg, vo] ∧ IsGates w vg gs ∧ IsInts w vo os
theorem IsCirc.below {w w' : World} {v : Value} {gs : List Gt} {os : List Int} (h : IsCirc w v gs os) (hb : Below w.heap.size w w') : IsCirc w' v gs os := by
  obtain ⟨vg, vo, h1, h2, h3⟩ := h
  exact ⟨vg, vo, h1, h2.below hb, h3.below hb⟩
set_option maxRecDepth 100000 in
set_option maxHeartbeats 1000000 in
theorem cCheck_any (v : Value) (gs : List Gt) (os : List Int) (w : World) (h : IsCirc w v gs os) :
    Calls Tryz.prog 144 #[v] w fun e w' => e = .returned (.int .i64 (circE gs os)) ∧ Below w.heap.size w w' := by
  obtain ⟨vg, vo, rfl, hg, ho⟩ := h
  have KG := Lib.hid hg
  have KO := Lib.hid ho
  obtain ⟨A1, c1, rfl, hc1, hm1, hl1, hu1, hr1⟩ := hg
  obtain ⟨A2, c2, rfl, hc2, hm2, hl2, hu2, hr2⟩ := ho
  have BB := Lib.hid ((Below.refl w.heap.size w).alloc (Nat.le_refl _) (.cells #[.slice A1 gs.length c1, .slice A2 os.length c2] 85))
  have hcf : ∀ (x y : Value) (W : World), (callFunc 176 #[x, y]).run Tryz.prog W = .ok (.enter 176 #[x, y]) W := fun x y W => by kernel_rfl
  have hl1' : gs.length ≤ 17592186043904 := by omega
  clear hu1 hr1 hm1 hu2 hr2 hm2
  by_cases g0 : gs.length = 0
  · have HE := Lib.hid (show circE gs os = 1 by unfold circE; rw [if_pos (.inl g0)])
    have b0 : ((gs.length : Int) == 0) = true := by rw [beq_iff_eq]; omega
    have G0 := Lib.hid g0
    clear g0
    go_enter Tryz.func144, Tryz.ntmps144
    go_wp2_with fail
    go_ret
    exact ⟨by rw [HE.out]; rfl, BB.out⟩
  have b0 : ((gs.length : Int) == 0) = false := by rw [beq_eq_false_iff_ne]; omega
  by_cases o0 : os.length = 0
  · have HE := Lib.hid (show circE gs os = 1 by unfold circE; rw [if_pos (.inr o0)])
    have b1 : ((os.length : Int) == 0) = true := by rw [beq_iff_eq]; omega
    have O0 := Lib.hid o0
    clear o0 g0
    go_enter Tryz.func144, Tryz.ntmps144
    go_wp2_with fail
    go_ret
    exact ⟨by rw [HE.out]; rfl, BB.out⟩
  have b1 : ((os.length : Int) == 0) = false := by rw [beq_eq_false_iff_ne]; omega
  by_cases g3 : 30 < gs.length
  · have HE := Lib.hid (show circE gs os = 2 by unfold circE; rw [if_neg (by omega), if_pos (.inl g3)])
    have b2 : (gs.length : Int) > 30 := by omega
    clear g0 o0
    go_enter Tryz.func144, Tryz.ntmps144
    go_wp2_with fail
    go_ret
    exact ⟨by rw [HE.out]; rfl, BB.out⟩
  have b2 : ¬ (gs.length : Int) > 30 := by omega
  by_cases o3 : 30 < os.length
  · have HE := Lib.hid (show circE gs os = 2 by unfold circE; rw [if_neg (by omega), if_pos (.inr o3)])
    have b3 : (os.length : Int) > 30 := by omega
    clear g0 o0 g3
    go_enter Tryz.func144, Tryz.ntmps144
    go_wp2_with fail
    go_ret
    exact ⟨by rw [HE.out]; rfl, BB.out⟩
  have b3 : ¬ (os.length : Int) > 30 := by omega
  have HE := Lib.hid (show circE gs os = if gatesB gs gs.length = true then if outsB gs os = true then 0 else 1 else 1 by unfold circE; rw [if_neg (by omega), if_neg (by omega)])
  have hgl : gs.length ≤ 30 := by omega
  clear g0 o0 g3 o3
  go_enter Tryz.func144, Tryz.ntmps144
  go_wp2_with fail
  go_loopw [30] (fun i wr => ∃ k : Nat, k ≤ gs.length ∧ i = .int .i64 k ∧ gatesB gs k = true ∧ Box wr w.heap.size 85 [.slice A1 gs.length c1, .slice A2 os.length c2] ∧ Below w.heap.size w wr) (fun i _ => gs.length - (intOf i).toNat)
  case atStart => exact ⟨0, Nat.zero_le _, rfl, rfl, Box.new _ _ [.slice A1 gs.length c1, .slice A2 os.length c2], BB.out⟩
  case round =>
    obtain ⟨k, hk, rfl, hok, hbox, hbel⟩ := hrel
    have HOK := Lib.hid hok
    have KB := Lib.hid hbox
    have BEL := Lib.hid hbel
    have hsz := hbel.size
    clear hok hbox hbel
    by_cases hlt : k < gs.length
    · obtain ⟨A, c, hA, _, _, _, hu, hr⟩ := (KG.out.below BEL.out)
      injection hA with hA1 hA2 hA3
      subst hA1 hA3
      obtain ⟨b1', o1, g, rfl, hb1, hgk, hgo, ha1, ha2, ha3, ha4⟩ := gate_at hr hu hlt
      have HGK := Lib.hid hgk
      have BG := Lib.hid ((Below.refl wr.heap.size wr).alloc (Nat.le_refl _) (.cells #[.int .i64 g.kind, .int .i64 g.a, .int .i64 g.b, .int .u64 g.n] 133))
      clear hr hu hgk hb1
      go_wp2_with fail
      refine (cRight_any g k _).mono ?_
      rintro e w5 ⟨rfl, hb5⟩
      have B5 := Lib.hid (below_trans (below_trans BEL.out BG.out hsz) hb5 (by have := BG.out.size; omega))
      have K5 := Lib.hid ((KB.out.below BG.out).below hb5)
      clear hb5
      have HS := Lib.hid (show gatesB gs (k + 1) = gRight g k by rw [gatesB, HOK.out, HGK.out]; rfl)
      cases hgr : gRight g k with
      | true =>
        have HR := Lib.hid hgr
        clear hgr
        try dsimp only
        go_wp2_with fail
        exact ⟨⟨k + 1, by omega, by go_num, by rw [HS.out, HR.out], K5.out, B5.out⟩, by simp [intOf] <;> omega⟩
      | false =>
        have HR := Lib.hid hgr
        clear hgr
        try dsimp only
        go_wp2_with fail
        go_ret
        refine ⟨?_, B5.out⟩
        rw [HE.out, if_neg (fun h => ?_)]
        · rfl
        · have := (gatesB_iff gs gs.length).1 h k g (by omega) HGK.out
          rw [HR.out] at this; cases this
    · obtain rfl : k = gs.length := by omega
      have hc0 := KB.out.cell (i := 0) rfl
      have hc1' := KB.out.cell (i := 1) rfl
      go_wp2_with fail
      refine (hasInts_any 176 _ (outP gs.length) _ os _ (KO.out.below BEL.out) (fun z => cOut_any z _ _ _ _ _ (KB.out.cell (i := 0) rfl) hl1') hcf).mono ?_
      rintro e w' ⟨rfl, rfl⟩
      rw [outP_any]
      cases ho : outsB gs os with
      | true =>
        have HR := Lib.hid ho
        clear ho
        try dsimp only
        go_wp2_with fail
        go_ret
        exact ⟨by rw [HE.out, if_pos HOK.out, if_pos HR.out]; rfl, BEL.out⟩
      | false =>
        have HR := Lib.hid ho
        clear ho
        try dsimp only
        go_wp2_with fail
        go_ret
        exact ⟨by rw [HE.out, if_pos HOK.out, if_neg (by rw [HR.out]; simp)]; rfl, BEL.out⟩
end Go.Proofs.YtploomncapiloaaGreatDoor
namespace Go.Proofs.YtploomncapiloaaGreatDoor
open Go.RowKit Go.Sort Croft
def bs (l : List UInt8) : ByteArray := ⟨l.toArray⟩
theorem bs_size (l : List UInt8) : (bs l).size = l.length := by simp [bs, ByteArray.size]
theorem bs_append (a b : List UInt8) : bs a ++ bs b = bs (a ++ b) := by
  unfold bs
  apply ByteArray.ext
  simp
set_option maxRecDepth 100000 in
theorem cWord_any (k : Int) (w : World) (h1 : 1 ≤ k) (h6 : k ≤ 6) :
    Calls Tryz.prog 156 #[.int .i64 k] w fun e w' => e = .returned (.string (bs (wordL k))) ∧ w = w' := by
  obtain rfl | rfl | rfl | rfl | rfl | rfl : k = 1 ∨ k = 2 ∨ k = 3 ∨ k = 4 ∨ k = 5 ∨ k = 6 := by omega
  · have hix : ∀ W, (Instr.index 154 (.agg #[.string ⟨#[]⟩, .string ⟨#[105, 110, 112, 117, 116]⟩, .string ⟨#[99, 111, 110, 115, 116]⟩, .string ⟨#[97, 100, 100]⟩, .string ⟨#[115, 117, 98]⟩, .string ⟨#[109, 117, 108]⟩, .string ⟨#[115, 99, 97, 108, 101]⟩]) (.int .i64 1)).run Tryz.prog W = .ok (.string ⟨#[105, 110, 112, 117, 116]⟩) W := fun W => by kernel_rfl
    go_enter Tryz.func156, Tryz.ntmps156
    go_wp2_with fail
    go_ret
    exact ⟨rfl, rfl⟩
  · have hix : ∀ W, (Instr.index 154 (.agg #[.string ⟨#[]⟩, .string ⟨#[105, 110, 112, 117, 116]⟩, .string ⟨#[99, 111, 110, 115, 116]⟩, .string ⟨#[97, 100, 100]⟩, .string ⟨#[115, 117, 98]⟩, .string ⟨#[109, 117, 108]⟩, .string ⟨#[115, 99, 97, 108, 101]⟩]) (.int .i64 2)).run Tryz.prog W = .ok (.string ⟨#[99, 111, 110, 115, 116]⟩) W := fun W => by kernel_rfl
    go_enter Tryz.func156, Tryz.ntmps156
    go_wp2_with fail
    go_ret
    exact ⟨rfl, rfl⟩
  · have hix : ∀ W, (Instr.index 154 (.agg #[.string ⟨#[]⟩, .string ⟨#[105, 110, 112, 117, 116]⟩, .string ⟨#[99, 111, 110, 115, 116]⟩, .string ⟨#[97, 100, 100]⟩, .string ⟨#[115, 117, 98]⟩, .string ⟨#[109, 117, 108]⟩, .string ⟨#[115, 99, 97, 108, 101]⟩]) (.int .i64 3)).run Tryz.prog W = .ok (.string ⟨#[97, 100, 100]⟩) W := fun W => by kernel_rfl
    go_enter Tryz.func156, Tryz.ntmps156
    go_wp2_with fail
    go_ret
    exact ⟨rfl, rfl⟩
  · have hix : ∀ W, (Instr.index 154 (.agg #[.string ⟨#[]⟩, .string ⟨#[105, 110, 112, 117, 116]⟩, .string ⟨#[99, 111, 110, 115, 116]⟩, .string ⟨#[97, 100, 100]⟩, .string ⟨#[115, 117, 98]⟩, .string ⟨#[109, 117, 108]⟩, .string ⟨#[115, 99, 97, 108, 101]⟩]) (.int .i64 4)).run Tryz.prog W = .ok (.string ⟨#[115, 117, 98]⟩) W := fun W => by kernel_rfl
    go_enter Tryz.func156, Tryz.ntmps156
    go_wp2_with fail
    go_ret
    exact ⟨rfl, rfl⟩
  · have hix : ∀ W, (Instr.index 154 (.agg #[.string ⟨#[]⟩, .string ⟨#[105, 110, 112, 117, 116]⟩, .string ⟨#[99, 111, 110, 115, 116]⟩, .string ⟨#[97, 100, 100]⟩, .string ⟨#[115, 117, 98]⟩, .string ⟨#[109, 117, 108]⟩, .string ⟨#[115, 99, 97, 108, 101]⟩]) (.int .i64 5)).run Tryz.prog W = .ok (.string ⟨#[109, 117, 108]⟩) W := fun W => by kernel_rfl
    go_enter Tryz.func156, Tryz.ntmps156
    go_wp2_with fail
    go_ret
    exact ⟨rfl, rfl⟩
  · have hix : ∀ W, (Instr.index 154 (.agg #[.string ⟨#[]⟩, .string ⟨#[105, 110, 112, 117, 116]⟩, .string ⟨#[99, 111, 110, 115, 116]⟩, .string ⟨#[97, 100, 100]⟩, .string ⟨#[115, 117, 98]⟩, .string ⟨#[109, 117, 108]⟩, .string ⟨#[115, 99, 97, 108, 101]⟩]) (.int .i64 6)).run Tryz.prog W = .ok (.string ⟨#[115, 99, 97, 108, 101]⟩) W := fun W => by kernel_rfl
    go_enter Tryz.func156, Tryz.ntmps156
    go_wp2_with fail
    go_ret
    exact ⟨rfl, rfl⟩
theorem itoa_nat (z : Int) (w : World) (h0 : 0 ≤ z) (h1 : z ≤ 9223372036854775807) (htab : Lib.TabIs Tryz.prog w "internal/strconv.uint64pow10" .u64 Lib.pow10Tab) :
    Calls Tryz.prog 55 #[.int .i64 z] w fun e w' => e = .returned (.string (bs (numL z))) ∧ ∃ k os, w' = grow (w.drewN k) os := by
  obtain ⟨u, rfl⟩ : ∃ u : Nat, z = u := ⟨z.toNat, by omega⟩
  refine (sh_strconv_Itoa u (by omega) h1 w htab).mono fun e w' hh => ?_
  obtain ⟨rfl, hw⟩ := hh
  rw [Lib.itoa_nonneg]
  exact ⟨rfl, hw⟩
theorem fmt_nat (z : Int) (w : World) (h0 : 0 ≤ z) (h1 : z < 18446744073709551616) (htab : Lib.TabIs Tryz.prog w "internal/strconv.uint64pow10" .u64 Lib.pow10Tab) :
    Calls Tryz.prog 79 #[.int .u64 z, .int .i64 10] w fun e w' => e = .returned (.string (bs (numL z))) ∧ ∃ k os, w' = grow (w.drewN k) os := by
  obtain ⟨u, rfl⟩ : ∃ u : Nat, z = u := ⟨z.toNat, by omega⟩
  refine (fmtUint_any u (by omega) w htab).mono fun e w' hh => ?_
  obtain ⟨rfl, hw⟩ := hh
  exact ⟨rfl, hw⟩
theorem below_grow (w : World) (k : Nat) (os : Array Obj) : Below w.heap.size w (grow (w.drewN k) os) := by
  refine ⟨rfl, rfl, rfl, ?_, fun i hi => ?_⟩
  · simp [grow]
  · simp [grow, Array.getElem?_append_left hi]
theorem tab_below {w w' : World} {name : String} {k : IntKind} {zs : List Int} (h : Lib.TabIs Tryz.prog w name k zs) (hb : Below w.heap.size w w') : Lib.TabIs Tryz.prog w' name k zs := by
  unfold Lib.TabIs World.var? at *
  cases hg : Tryz.prog.globalNamed name with
  | none => simp [hg] at h
  | some g =>
    simp only [hg, Option.bind_some] at h ⊢
    have hlt : g < w.heap.size := by
      rcases Nat.lt_or_ge g w.heap.size with h' | h'
      · exact h'
      · rw [Array.getElem?_eq_none h'] at h; simp at h
    rw [hb.block g hlt]
    exact h
def sts (l : List (List UInt8)) : List Value := l.map fun x => .string (bs x)
theorem sts_length (l : List (List UInt8)) : (sts l).length = l.length := by simp [sts]
theorem sts_get (l : List (List UInt8)) (j : Nat) : (sts l)[j]? = (l[j]?).map fun x => Value.string (bs x) := by simp [sts]
def IsStrs (w : World) (v : Value) (l : List (List UInt8)) : Prop :=
  ∃ A cap, v = .slice A l.length cap ∧ l.length ≤ cap ∧ cap ≤ maxLen ∧ l.length ≤ 8796093022208 ∧ Cells w A (sts l)
theorem IsStrs.below {w w' : World} {v : Value} {l : List (List UInt8)} (h : IsStrs w v l) (hb : Below w.heap.size w w') : IsStrs w' v l := by
  obtain ⟨A, cap, h1, h2, h3, h4, h6⟩ := h
  exact ⟨A, cap, h1, h2, h3, h4, h6.below hb⟩
theorem IsStrs.drewN {w : World} {v : Value} {l : List (List UInt8)} (h : IsStrs w v l) (n : Nat) : IsStrs (w.drewN n) v l := h
theorem strs_at {w : World} {A : Option Addr} {l : List (List UInt8)} (h : Cells w A (sts l)) {k : Nat} (hk : k < l.length) :
    ∃ b o x, A = some ⟨b, o, none⟩ ∧ b < w.heap.size ∧ l[k]? = some x ∧ w.cell? ⟨b, o + k, none⟩ = some (.string (bs x)) := by
  obtain ⟨b, o, rfl, hb, hc⟩ := h.at_ (j := k) (by rw [sts_length]; exact hk)
  have hg : l[k]? = some l[k] := List.getElem?_eq_getElem hk
  exact ⟨b, o, l[k], rfl, hb, hg, by rw [hc k (by rw [sts_length]; exact hk), sts_get, hg]; rfl⟩
def OwnStrs (w : World) (base : Nat) (v : Value) (l : List (List UInt8)) : Prop :=
  w.ownsRow base 9 1 v l.length (sts l) ∧ l.length ≤ 8796093022208
theorem OwnStrs.is {w : World} {base : Nat} {v : Value} {l : List (List UInt8)} (h : OwnStrs w base v l) : IsStrs w v l := by
  obtain ⟨h1, h2⟩ := h
  obtain ⟨A, cap, rfl, h4, h5⟩ := own_form h1
  exact ⟨A, cap, rfl, h4, h5, h2, Cells.of_own h1⟩
theorem OwnStrs.nil (w : World) (base : Nat) : OwnStrs w base (.slice none 0 0) [] := ⟨World.ownsRow_nil _ _ _ _, by simp⟩
theorem OwnStrs.alloc {w : World} {base : Nat} {v : Value} {l : List (List UInt8)} (h : OwnStrs w base v l) (o : Obj) : OwnStrs (w.alloc o) base v l := ⟨h.1.alloc o, h.2⟩
theorem OwnStrs.drewN {w : World} {base : Nat} {v : Value} {l : List (List UInt8)} (h : OwnStrs w base v l) (n : Nat) : OwnStrs (w.drewN n) base v l := h
theorem OwnStrs.below {w w' : World} {base : Nat} {v : Value} {l : List (List UInt8)} (h : OwnStrs w base v l) (hb : Below w.heap.size w w') : OwnStrs w' base v l := ⟨own_kept h.1 hb, h.2⟩
theorem OwnStrs.less {w : World} {base base' : Nat} {v : Value} {l : List (List UInt8)} (h : OwnStrs w base v l) (hb : base' ≤ base) : OwnStrs w base' v l := by
  refine ⟨⟨h.1.1, ?_⟩, h.2⟩
  rcases h.1.2 with h1 | ⟨g, cap, cur, hv, hg, r⟩
  · exact .inl h1
  · exact .inr ⟨g, cap, cur, hv, by omega, r⟩
theorem stinfo : (Tryz.prog.info? 9).map (fun i => (i.zero, i.size, i.bytes)) = some (some (.string ⟨#[]⟩), 1, 16) := by kernel_rfl
theorem lit_strs (w : World) (base : Nat) (l : List (List UInt8)) (hl : l.length ≤ 8796093022208) (hb : base ≤ w.heap.size) : OwnStrs (w.alloc (.cells (sts l).toArray 9)) base (.slice (some ⟨w.heap.size, 0, none⟩) l.length l.length) l := by
  refine ⟨⟨by rw [sts_length]; omega, .inr ⟨w.heap.size, l.length, (sts l).toArray, rfl, hb, heap_alloc_new w _, Nat.le_refl _, by unfold maxLen; omega, by simp [sts_length], ?_⟩⟩, hl⟩
  exact List.take_of_length_le (by simp [sts_length])
theorem wpList_push_str {ops : Array Oper} {rest : List Oper} {o : Oper} {a : Act} {Q : Exit → Act → World → Prop} {w : World} (hgd : o.guard = none) (s x : Operand)
    (ho : o.op = .call { callee := .builtin .append, args := #[s, x], argTypes := #[24, 24] })
    (base : Nat) (v : Value) (l : List (List UInt8)) (z : List UInt8) (g c : Nat) (hs : a.eval s = v) (hown : OwnStrs w base v l) (hx : a.eval x = .slice (some ⟨g, 0, none⟩) 1 c)
    (hc : w.cell? ⟨g, 0, none⟩ = some (.string (bs z))) (hl : l.length + 1 ≤ 8796093022208) (hb : base ≤ w.heap.size)
    (h : ∀ v' w', OwnStrs w' base v' (l ++ [z]) → Below base w w' → wpList Tryz.prog ops Q rest (a.put o.dst v') w') : wpList Tryz.prog ops Q (o :: rest) a w := by
  obtain ⟨i0, hi, hz0, hz1, hz2⟩ := info_parts stinfo
  refine wpList_append_own w hgd s x 24 ho base 9 i0 (.string ⟨#[]⟩) 1 16 Tryz.underlying24 hi hz0 hz1 hz2 rfl (by decide) v l.length (sts l) hs hown.1 ⟨g, 0, none⟩ 1 c [.string (bs z)] hx rfl ?_ ?_ ?_ ?_ hb ?_
  · intro j u hu
    match j, hu with
    | 0, hu =>
      simp at hu
      subst hu
      rw [add_addr]; exact hc
  · intro u hu
    simp at hu
    subst hu; rfl
  · unfold maxLen; omega
  · omega
  · intro v' w' h1 h2 _
    refine h v' w' ⟨?_, ?_⟩ ((Below.refl _ _).grown h2 hb (fun k hk => (hown.1.lt k hk).1))
    · have e : (l ++ [z]).length = l.length + 1 := by simp
      have e2 : sts (l ++ [z]) = sts l ++ [.string (bs z)] := by simp [sts]
      rw [e, e2]; exact h1
    · simpa using hl
section
variable {w : World} {base g n c : Nat} {l : List (List UInt8)}
theorem OwnStrs.len (h : OwnStrs w base (.slice (some ⟨g, 0, none⟩) n c) l) : n = l.length := by
  rcases h.1.2 with ⟨hv, _⟩ | ⟨g', cap, cur, hv, _⟩
  · simp at hv
  · injection hv
theorem OwnStrs.cell (h : OwnStrs w base (.slice (some ⟨g, 0, none⟩) n c) l) {j : Nat} {x : List UInt8} (hj : l[j]? = some x) : w.cell? ⟨g, j, none⟩ = some (.string (bs x)) := by
  have hn := h.len
  subst hn
  obtain ⟨hlt, hz⟩ := List.getElem?_eq_some_iff.1 hj
  rw [h.1.cellAt j (by omega), sts_get, hj]; rfl
theorem OwnStrs.frozen (h : OwnStrs w base (.slice (some ⟨g, 0, none⟩) n c) l) (j : Nat) : w.frozen? ⟨g, j, none⟩ = false := by
  have hn := h.len
  subst hn
  exact h.1.frozenAt j
theorem OwnStrs.base_le (h : OwnStrs w base (.slice (some ⟨g, 0, none⟩) n c) l) : base ≤ g ∧ g < w.heap.size := h.1.lt g rfl
theorem OwnStrs.set_ (h : OwnStrs w base (.slice (some ⟨g, 0, none⟩) n c) l) (j : Nat) (x : List UInt8) : OwnStrs (w.setCell ⟨g, j, none⟩ (.string (bs x))) base (.slice (some ⟨g, 0, none⟩) n c) (l.set j x) := by
  have hn := h.len
  subst hn
  refine ⟨?_, by simpa using h.2⟩
  have h1 := (h.1.stored j (.string (bs x))).1
  have e : sts (l.set j x) = (sts l).set j (.string (bs x)) := by simp [sts, List.map_set]
  rw [List.length_set, e]; exact h1
end
theorem IsStrs.cut {w : World} {A : Option Addr} {len c : Nat} {l : List (List UInt8)} (h : IsStrs w (.slice A len c) l) (lo hi : Nat) (h1 : lo ≤ hi) (h2 : hi ≤ l.length) : IsStrs w (.slice (if c = lo then A else A.map (·.add (lo * 1))) (hi - lo) (c - lo)) ((l.drop lo).take (hi - lo)) := by
  obtain ⟨A1, c1, e1, e2, e3, e4, e6⟩ := h
  injection e1 with e1a e1b e1c
  subst e1a e1b e1c
  have hl : ((l.drop lo).take (hi - lo)).length = hi - lo := by simp; omega
  refine ⟨_, _, by rw [hl], by rw [hl]; omega, by omega, by rw [hl]; omega, ?_⟩
  rcases Nat.lt_or_ge lo hi with hlt | hge
  · obtain ⟨b, o, rfl, hb, hc⟩ := e6.at_ (j := lo) (by rw [sts_length]; omega)
    rw [if_neg (by omega)]
    refine .inr ⟨b, o + lo, by simp [add_addr], hb, fun j hj => ?_⟩
    rw [sts_length, hl] at hj
    rw [Nat.add_assoc, hc _ (by rw [sts_length]; omega), sts_get, sts_get, List.getElem?_take, if_pos hj, List.getElem?_drop]
  · have h0 : hi - lo = 0 := by omega
    rw [h0]; exact .inl (by simp [sts])
theorem IsStrs.from_ {w : World} {A : Option Addr} {c : Nat} {l : List (List UInt8)} (h : IsStrs w (.slice A l.length c) l) (lo : Nat) (h1 : lo ≤ l.length) : IsStrs w (.slice (if c = lo then A else A.map (·.add (lo * 1))) (l.length - lo) (c - lo)) (l.drop lo) := by
  have h2 := h.cut lo l.length h1 (Nat.le_refl _)
  rwa [List.take_of_length_le (by rw [List.length_drop]; exact Nat.le_refl _)] at h2
theorem sslice_from (A : Option Addr) (m c lo : Nat) (x : Int) (hx : x = lo) (h1 : lo ≤ m) (W : World) :
    (Instr.slice 24 (.slice A m c) (some (.int .i64 x)) none none).run Tryz.prog W = .ok (.slice (if c = lo then A else A.map (·.add (lo * 1))) (m - lo) (c - lo)) W := by
  subst hx
  have hU : Program.underlying Tryz.prog 24 = some (.slice (Program.elem Tryz.prog 24)) := by kernel_rfl
  have hs : ∀ W, (sizeOf (Program.elem Tryz.prog 24)).run Tryz.prog W = .ok 1 W := fun W => by kernel_rfl
  rw [run_slice_l W _ A m c hU .i64 _ (by omega) (by omega), hs]
  simp [Result.andThen, sliced]
def OwnGates (w : World) (base : Nat) (v : Value) (gs : List Gt) : Prop :=
  w.ownsRow base 133 4 v gs.length (gcs gs) ∧ gs.length ≤ 4398046511104 ∧ (∀ g ∈ gs, GateOk g)
theorem OwnGates.is {w : World} {base : Nat} {v : Value} {gs : List Gt} (h : OwnGates w base v gs) : IsGates w v gs := by
  obtain ⟨h1, h2, h3⟩ := h
  obtain ⟨A, cap, rfl, h4, h5⟩ := own_form h1
  exact ⟨A, cap, rfl, h4, h5, h2, h3, Cells.of_own h1⟩
theorem OwnGates.nil (w : World) (base : Nat) : OwnGates w base (.slice none 0 0) [] := ⟨World.ownsRow_nil _ _ _ _, by simp, by simp⟩
theorem OwnGates.below {w w' : World} {base : Nat} {v : Value} {gs : List Gt} (h : OwnGates w base v gs) (hb : Below w.heap.size w w') : OwnGates w' base v gs := ⟨own_kept h.1 hb, h.2⟩
theorem ginfo : (Tryz.prog.info? 133).map (fun i => (i.zero, i.size, i.bytes)) = some (some (.agg #[.int .i64 0, .int .i64 0, .int .i64 0, .int .u64 0]), 4, 32) := by kernel_rfl
theorem gcs_snoc (gs : List Gt) (g : Gt) : gcs (gs ++ [g]) = gcs gs ++ genc g := by simp [gcs]
end Go.Proofs.YtploomncapiloaaGreatDoor
