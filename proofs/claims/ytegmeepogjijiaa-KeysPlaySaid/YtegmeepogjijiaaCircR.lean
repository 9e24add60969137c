/- Circuits: is a gate right? -/
import Derived.Test.YtegmeepogjijiaaGates
import Derived.Test.YtegmeepogjijiaaBox
namespace Go.Proofs.Ytegmeepogjijiaa
open Go.RowKit Croft

theorem cAhead_any (n i : Int) (b : Nat) (w : World) (h : w.cell? ⟨b, 0, none⟩ = some (.int .i64 i)) :
    Calls Try.prog 145 #[.int .i64 n, .pointer (some ⟨b, 0, none⟩)] w fun e w' => e = .returned (.bool (aheadB n i)) ∧ w = w' := by
  by_cases h1 : 0 ≤ n
  · have hd : aheadB n i = decide (n < i) := by simp [aheadB, h1]
    rw [hd]
    clear hd
    go_enter Try.func145, Try.ntmps145
    go_wp2
    all_goals (go_ret; exact ⟨by simp_all, rfl⟩)
  · have hd : aheadB n i = false := by simp [aheadB, h1]
    rw [hd]
    clear hd
    go_enter Try.func145, Try.ntmps145
    go_wp2
    all_goals (go_ret; exact ⟨rfl, rfl⟩)
def gV (g : Gt) : Value := .agg #[.int .i64 g.kind, .int .i64 g.a, .int .i64 g.b, .int .u64 g.n]
theorem cRight_1 (a b n i : Int) (w : World) :
    Calls Try.prog 131 #[.agg #[.int .i64 1, .int .i64 a, .int .i64 b, .int .u64 n], .int .i64 i] w fun e w' => e = .returned (.bool (decide (1 ≤ a) && decide (a ≤ 9) && decide (b = 0) && decide (n = 0))) ∧ Below w.heap.size w w' := by
  have BB := Lib.hid (((Below.refl w.heap.size w).alloc (Nat.le_refl _) (.cells #[.int .i64 1, .int .i64 a, .int .i64 b, .int .u64 n] 122)).alloc (by simp) (.cells #[.int .i64 i] 3))
  by_cases h1 : a ≥ 1
  · by_cases h2 : a ≤ 9
    · by_cases h3 : b = 0
      · by_cases h4 : n = 0
        · subst h3 h4
          go_enter Try.func131, Try.ntmps131
          go_wp2_with fail
          go_ret
          exact ⟨by simp [h1, h2], BB.out⟩
        · have hb : (n == 0) = false := by rw [beq_eq_false_iff_ne]; exact h4
          subst h3
          go_enter Try.func131, Try.ntmps131
          go_wp2_with fail
          go_ret
          exact ⟨by simp [h4], BB.out⟩
      · have hb : (b == 0) = false := by rw [beq_eq_false_iff_ne]; exact h3
        go_enter Try.func131, Try.ntmps131
        go_wp2_with fail
        go_ret
        exact ⟨by simp [h3], BB.out⟩
    · go_enter Try.func131, Try.ntmps131
      go_wp2_with fail
      go_ret
      exact ⟨by simp; intro _ h; omega, BB.out⟩
  · go_enter Try.func131, Try.ntmps131
    go_wp2_with fail
    go_ret
    exact ⟨by simp; intro h; omega, BB.out⟩
theorem cRight_2 (a b n i : Int) (w : World) :
    Calls Try.prog 131 #[.agg #[.int .i64 2, .int .i64 a, .int .i64 b, .int .u64 n], .int .i64 i] w fun e w' => e = .returned (.bool (decide (a = 0) && decide (b = 0))) ∧ Below w.heap.size w w' := by
  have BB := Lib.hid (((Below.refl w.heap.size w).alloc (Nat.le_refl _) (.cells #[.int .i64 2, .int .i64 a, .int .i64 b, .int .u64 n] 122)).alloc (by simp) (.cells #[.int .i64 i] 3))
  by_cases h1 : a = 0
  · by_cases h3 : b = 0
    · subst h1 h3
      go_enter Try.func131, Try.ntmps131
      go_wp2_with fail
      go_ret
      exact ⟨by simp, BB.out⟩
    · have hb : (b == 0) = false := by rw [beq_eq_false_iff_ne]; exact h3
      subst h1
      go_enter Try.func131, Try.ntmps131
      go_wp2_with fail
      go_ret
      exact ⟨by simp [h3], BB.out⟩
  · have hb : (a == 0) = false := by rw [beq_eq_false_iff_ne]; exact h1
    go_enter Try.func131, Try.ntmps131
    go_wp2_with fail
    go_ret
    exact ⟨by simp [h1], BB.out⟩
theorem cRight_6 (a b n i : Int) (w : World) :
    Calls Try.prog 131 #[.agg #[.int .i64 6, .int .i64 a, .int .i64 b, .int .u64 n], .int .i64 i] w fun e w' => e = .returned (.bool (aheadB a i && decide (b = 0))) ∧ Below w.heap.size w w' := by
  have BB := Lib.hid (((Below.refl w.heap.size w).alloc (Nat.le_refl _) (.cells #[.int .i64 6, .int .i64 a, .int .i64 b, .int .u64 n] 122)).alloc (by simp) (.cells #[.int .i64 i] 3))
  have hcf : ∀ (x y : Value) (W : World), (callFunc 145 #[x, y]).run Try.prog W = .ok (.enter 145 #[x, y]) W := fun x y W => by kernel_rfl
  by_cases h1 : aheadB a i = true
  · by_cases h3 : b = 0
    · subst h3
      go_enter Try.func131, Try.ntmps131
      go_wp2_with fail
      refine (cAhead_any _ i _ _ (by simp)).mono ?_
      rintro e w' ⟨rfl, rfl⟩
      rw [h1]
      try dsimp only
      go_wp2_with fail
      go_ret
      exact ⟨by simp [h1], BB.out⟩
    · have hb : (b == 0) = false := by rw [beq_eq_false_iff_ne]; exact h3
      go_enter Try.func131, Try.ntmps131
      go_wp2_with fail
      refine (cAhead_any _ i _ _ (by simp)).mono ?_
      rintro e w' ⟨rfl, rfl⟩
      rw [h1]
      try dsimp only
      go_wp2_with fail
      go_ret
      exact ⟨by simp [h3], BB.out⟩
  · have h1' : aheadB a i = false := by simpa using h1
    go_enter Try.func131, Try.ntmps131
    go_wp2_with fail
    refine (cAhead_any _ i _ _ (by simp)).mono ?_
    rintro e w' ⟨rfl, rfl⟩
    rw [h1']
    try dsimp only
    go_wp2_with fail
    go_ret
    exact ⟨by simp [h1'], BB.out⟩
set_option maxHeartbeats 1000000 in
theorem cRight_3 (a b n i : Int) (w : World) :
    Calls Try.prog 131 #[.agg #[.int .i64 3, .int .i64 a, .int .i64 b, .int .u64 n], .int .i64 i] w fun e w' => e = .returned (.bool (aheadB a i && aheadB b i && decide (n = 0))) ∧ Below w.heap.size w w' := by
  have BB := Lib.hid (((Below.refl w.heap.size w).alloc (Nat.le_refl _) (.cells #[.int .i64 3, .int .i64 a, .int .i64 b, .int .u64 n] 122)).alloc (by simp) (.cells #[.int .i64 i] 3))
  have hcf : ∀ (x y : Value) (W : World), (callFunc 145 #[x, y]).run Try.prog W = .ok (.enter 145 #[x, y]) W := fun x y W => by kernel_rfl
  by_cases h1 : aheadB a i = true
  · by_cases h2 : aheadB b i = true
    · by_cases h3 : n = 0
      · subst h3
        go_enter Try.func131, Try.ntmps131
        go_wp2_with fail
        refine (cAhead_any _ i _ _ (by simp)).mono ?_
        rintro e w' ⟨rfl, rfl⟩
        rw [h1]
        try dsimp only
        go_wp2_with fail
        refine (cAhead_any _ i _ _ (by simp)).mono ?_
        rintro e w' ⟨rfl, rfl⟩
        rw [h2]
        try dsimp only
        go_wp2_with fail
        go_ret
        exact ⟨by simp [h1, h2], BB.out⟩
      · have hb : (n == 0) = false := by rw [beq_eq_false_iff_ne]; exact h3
        go_enter Try.func131, Try.ntmps131
        go_wp2_with fail
        refine (cAhead_any _ i _ _ (by simp)).mono ?_
        rintro e w' ⟨rfl, rfl⟩
        rw [h1]
        try dsimp only
        go_wp2_with fail
        refine (cAhead_any _ i _ _ (by simp)).mono ?_
        rintro e w' ⟨rfl, rfl⟩
        rw [h2]
        try dsimp only
        go_wp2_with fail
        go_ret
        exact ⟨by simp [h3], BB.out⟩
    · have h2' : aheadB b i = false := by simpa using h2
      go_enter Try.func131, Try.ntmps131
      go_wp2_with fail
      refine (cAhead_any _ i _ _ (by simp)).mono ?_
      rintro e w' ⟨rfl, rfl⟩
      rw [h1]
      try dsimp only
      go_wp2_with fail
      refine (cAhead_any _ i _ _ (by simp)).mono ?_
      rintro e w' ⟨rfl, rfl⟩
      rw [h2']
      try dsimp only
      go_wp2_with fail
      go_ret
      exact ⟨by simp [h2'], BB.out⟩
  · have h1' : aheadB a i = false := by simpa using h1
    go_enter Try.func131, Try.ntmps131
    go_wp2_with fail
    refine (cAhead_any _ i _ _ (by simp)).mono ?_
    rintro e w' ⟨rfl, rfl⟩
    rw [h1']
    try dsimp only
    go_wp2_with fail
    go_ret
    exact ⟨by simp [h1'], BB.out⟩
set_option maxHeartbeats 1000000 in
theorem cRight_4 (a b n i : Int) (w : World) :
    Calls Try.prog 131 #[.agg #[.int .i64 4, .int .i64 a, .int .i64 b, .int .u64 n], .int .i64 i] w fun e w' => e = .returned (.bool (aheadB a i && aheadB b i && decide (n = 0))) ∧ Below w.heap.size w w' := by
  have BB := Lib.hid (((Below.refl w.heap.size w).alloc (Nat.le_refl _) (.cells #[.int .i64 4, .int .i64 a, .int .i64 b, .int .u64 n] 122)).alloc (by simp) (.cells #[.int .i64 i] 3))
  have hcf : ∀ (x y : Value) (W : World), (callFunc 145 #[x, y]).run Try.prog W = .ok (.enter 145 #[x, y]) W := fun x y W => by kernel_rfl
  by_cases h1 : aheadB a i = true
  · by_cases h2 : aheadB b i = true
    · by_cases h3 : n = 0
      · subst h3
        go_enter Try.func131, Try.ntmps131
        go_wp2_with fail
        refine (cAhead_any _ i _ _ (by simp)).mono ?_
        rintro e w' ⟨rfl, rfl⟩
        rw [h1]
        try dsimp only
        go_wp2_with fail
        refine (cAhead_any _ i _ _ (by simp)).mono ?_
        rintro e w' ⟨rfl, rfl⟩
        rw [h2]
        try dsimp only
        go_wp2_with fail
        go_ret
        exact ⟨by simp [h1, h2], BB.out⟩
      · have hb : (n == 0) = false := by rw [beq_eq_false_iff_ne]; exact h3
        go_enter Try.func131, Try.ntmps131
        go_wp2_with fail
        refine (cAhead_any _ i _ _ (by simp)).mono ?_
        rintro e w' ⟨rfl, rfl⟩
        rw [h1]
        try dsimp only
        go_wp2_with fail
        refine (cAhead_any _ i _ _ (by simp)).mono ?_
        rintro e w' ⟨rfl, rfl⟩
        rw [h2]
        try dsimp only
        go_wp2_with fail
        go_ret
        exact ⟨by simp [h3], BB.out⟩
    · have h2' : aheadB b i = false := by simpa using h2
      go_enter Try.func131, Try.ntmps131
      go_wp2_with fail
      refine (cAhead_any _ i _ _ (by simp)).mono ?_
      rintro e w' ⟨rfl, rfl⟩
      rw [h1]
      try dsimp only
      go_wp2_with fail
      refine (cAhead_any _ i _ _ (by simp)).mono ?_
      rintro e w' ⟨rfl, rfl⟩
      rw [h2']
      try dsimp only
      go_wp2_with fail
      go_ret
      exact ⟨by simp [h2'], BB.out⟩
  · have h1' : aheadB a i = false := by simpa using h1
    go_enter Try.func131, Try.ntmps131
    go_wp2_with fail
    refine (cAhead_any _ i _ _ (by simp)).mono ?_
    rintro e w' ⟨rfl, rfl⟩
    rw [h1']
    try dsimp only
    go_wp2_with fail
    go_ret
    exact ⟨by simp [h1'], BB.out⟩
set_option maxHeartbeats 1000000 in
theorem cRight_5 (a b n i : Int) (w : World) :
    Calls Try.prog 131 #[.agg #[.int .i64 5, .int .i64 a, .int .i64 b, .int .u64 n], .int .i64 i] w fun e w' => e = .returned (.bool (aheadB a i && aheadB b i && decide (n = 0))) ∧ Below w.heap.size w w' := by
  have BB := Lib.hid (((Below.refl w.heap.size w).alloc (Nat.le_refl _) (.cells #[.int .i64 5, .int .i64 a, .int .i64 b, .int .u64 n] 122)).alloc (by simp) (.cells #[.int .i64 i] 3))
  have hcf : ∀ (x y : Value) (W : World), (callFunc 145 #[x, y]).run Try.prog W = .ok (.enter 145 #[x, y]) W := fun x y W => by kernel_rfl
  by_cases h1 : aheadB a i = true
  · by_cases h2 : aheadB b i = true
    · by_cases h3 : n = 0
      · subst h3
        go_enter Try.func131, Try.ntmps131
        go_wp2_with fail
        refine (cAhead_any _ i _ _ (by simp)).mono ?_
        rintro e w' ⟨rfl, rfl⟩
        rw [h1]
        try dsimp only
        go_wp2_with fail
        refine (cAhead_any _ i _ _ (by simp)).mono ?_
        rintro e w' ⟨rfl, rfl⟩
        rw [h2]
        try dsimp only
        go_wp2_with fail
        go_ret
        exact ⟨by simp [h1, h2], BB.out⟩
      · have hb : (n == 0) = false := by rw [beq_eq_false_iff_ne]; exact h3
        go_enter Try.func131, Try.ntmps131
        go_wp2_with fail
        refine (cAhead_any _ i _ _ (by simp)).mono ?_
        rintro e w' ⟨rfl, rfl⟩
        rw [h1]
        try dsimp only
        go_wp2_with fail
        refine (cAhead_any _ i _ _ (by simp)).mono ?_
        rintro e w' ⟨rfl, rfl⟩
        rw [h2]
        try dsimp only
        go_wp2_with fail
        go_ret
        exact ⟨by simp [h3], BB.out⟩
    · have h2' : aheadB b i = false := by simpa using h2
      go_enter Try.func131, Try.ntmps131
      go_wp2_with fail
      refine (cAhead_any _ i _ _ (by simp)).mono ?_
      rintro e w' ⟨rfl, rfl⟩
      rw [h1]
      try dsimp only
      go_wp2_with fail
      refine (cAhead_any _ i _ _ (by simp)).mono ?_
      rintro e w' ⟨rfl, rfl⟩
      rw [h2']
      try dsimp only
      go_wp2_with fail
      go_ret
      exact ⟨by simp [h2'], BB.out⟩
  · have h1' : aheadB a i = false := by simpa using h1
    go_enter Try.func131, Try.ntmps131
    go_wp2_with fail
    refine (cAhead_any _ i _ _ (by simp)).mono ?_
    rintro e w' ⟨rfl, rfl⟩
    rw [h1']
    try dsimp only
    go_wp2_with fail
    go_ret
    exact ⟨by simp [h1'], BB.out⟩
theorem cRight_0 (k a b n i : Int) (w : World) (h1 : k ≠ 1) (h2 : k ≠ 2) (h3 : k ≠ 3) (h4 : k ≠ 4) (h5 : k ≠ 5) (h6 : k ≠ 6) :
    Calls Try.prog 131 #[.agg #[.int .i64 k, .int .i64 a, .int .i64 b, .int .u64 n], .int .i64 i] w fun e w' => e = .returned (.bool false) ∧ Below w.heap.size w w' := by
  have BB := Lib.hid (((Below.refl w.heap.size w).alloc (Nat.le_refl _) (.cells #[.int .i64 k, .int .i64 a, .int .i64 b, .int .u64 n] 122)).alloc (by simp) (.cells #[.int .i64 i] 3))
  have b1 : (k == 1) = false := by rw [beq_eq_false_iff_ne]; exact h1
  have b2 : (k == 2) = false := by rw [beq_eq_false_iff_ne]; exact h2
  have b3 : (k == 3) = false := by rw [beq_eq_false_iff_ne]; exact h3
  have b4 : (k == 4) = false := by rw [beq_eq_false_iff_ne]; exact h4
  have b5 : (k == 5) = false := by rw [beq_eq_false_iff_ne]; exact h5
  have b6 : (k == 6) = false := by rw [beq_eq_false_iff_ne]; exact h6
  clear h1 h2 h3 h4 h5 h6
  go_enter Try.func131, Try.ntmps131
  go_wp2_with fail
  go_ret
  exact ⟨rfl, BB.out⟩
theorem cRight_any (g : Gt) (i : Int) (w : World) :
    Calls Try.prog 131 #[gV g, .int .i64 i] w fun e w' => e = .returned (.bool (gRight g i)) ∧ Below w.heap.size w w' := by
  obtain ⟨k, a, b, n⟩ := g
  unfold gV gRight
  dsimp only
  by_cases h1 : k = 1
  · subst h1; rw [if_pos rfl]; exact cRight_1 a b n i w
  rw [if_neg h1]
  by_cases h2 : k = 2
  · subst h2; rw [if_pos rfl]; exact cRight_2 a b n i w
  rw [if_neg h2]
  by_cases h3 : k = 3
  · subst h3; rw [if_pos (.inl rfl)]; exact cRight_3 a b n i w
  by_cases h4 : k = 4
  · subst h4; rw [if_pos (.inr (.inl rfl))]; exact cRight_4 a b n i w
  by_cases h5 : k = 5
  · subst h5; rw [if_pos (.inr (.inr rfl))]; exact cRight_5 a b n i w
  rw [if_neg (by rintro (h | h | h) <;> omega)]
  by_cases h6 : k = 6
  · subst h6; rw [if_pos rfl]; exact cRight_6 a b n i w
  rw [if_neg h6]
  exact cRight_0 k a b n i w h1 h2 h3 h4 h5 h6
end Go.Proofs.Ytegmeepogjijiaa
