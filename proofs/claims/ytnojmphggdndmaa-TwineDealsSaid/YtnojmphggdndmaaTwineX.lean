/- Rows of a dealing in two variables: what the helpers return. -/
import Derived.Test.YtnojmphggdndmaaSquareW
import Derived.Test.YtnojmphggdndmaaRowsW
namespace Go.Proofs.Ytnojmphggdndmaa
open Go.RowKit Croft

def rowL (rows : List (List Int)) (x : Int) : List Int := rows.map fun r => ofF (peval (toFs r) (toF x))
theorem rowL_next {rows : List (List Int)} {k : Nat} {r : List Int} (x : Int) (h : rows[k]? = some r) : rowL (rows.take (k + 1)) x = rowL (rows.take k) x ++ [ofF (peval (toFs r) (toF x))] := by
  unfold rowL
  rw [List.take_add_one, h]
  simp
theorem rowL_length (rows : List (List Int)) (x : Int) : (rowL rows x).length = rows.length := by simp [rowL]
set_option maxRecDepth 100000 in
theorem pRow_any (va : Value) (rows : List (List Int)) (x : Int) (w : World) (h1 : IsNumss w va rows) (hx : 0 ≤ x ∧ x ≤ 1000) :
    Calls Try.prog 68 #[va, .int .i64 x] w fun e w' => ∃ v, e = .returned v ∧ OwnNums w' w.heap.size v (rowL rows x) ∧ Below w.heap.size w w' := by
  have KA := Lib.hid h1
  obtain ⟨A1, c1, vs, rfl, hc1, hm1, hl1, hr1, ha1⟩ := h1
  obtain ⟨hx1, hx2⟩ := hx
  clear hr1 ha1 hm1
  go_enter Try.func68, Try.ntmps68
  go_wp2_with fail
  go_loopw [5, 10] (fun v i wr => ∃ k : Nat, k ≤ rows.length ∧ i = .int .i64 k ∧ OwnNums wr w.heap.size v (rowL (rows.take k) x) ∧ Below w.heap.size w wr) (fun _ i _ => rows.length - (intOf i).toNat)
  case atStart => exact ⟨0, Nat.zero_le _, rfl, OwnNums.nil _ _, Below.refl _ _⟩
  case round =>
    obtain ⟨k, hk, rfl, hown, hbel⟩ := hrel
    have KO := Lib.hid hown
    have BEL := Lib.hid hbel
    have hsz := hbel.size
    clear hown hbel
    by_cases hlt : k < rows.length
    · obtain ⟨A, c, vs, hA, _, _, _, hr, ha⟩ := (KA.out.below BEL.out)
      injection hA with hA1 hA2 hA3
      subst hA1 hA3
      obtain ⟨b1, o1, y, r, rfl, hb1, hy, hr2, hyr, hcell⟩ := numss_at hr ha hlt
      have HR := Lib.hid hr2
      have KY := Lib.hid hyr
      have hrl : rows.length ≤ 5864062014805 := hl1
      clear hr ha hy hr2 hyr hb1
      go_wp2_with fail
      refine (pAt_any _ _ _ _ KY.out (by omega)).mono ?_
      rintro e w' ⟨rfl, nd, rfl⟩
      try dsimp only
      go_wp2_with (at_builtin; refine wpList_push rfl _ _ rfl w.heap.size _ _ (ofF (peval (toFs r) (toF x))) (wr.drewN nd).heap.size 1 rfl ((KO.out.drewN nd).alloc _) rfl (new_cell _ _ _) (U64.of_ofF _) (by rw [rowL_length]; simp only [List.length_take]; omega) (by simp; omega) ?_)
      intro v' w' hown' hbel'
      go_wp2_with fail
      refine ⟨⟨k + 1, by omega, by go_num, by rw [rowL_next x HR.out]; exact hown', ((below_drewN BEL.out nd).alloc (by simp; omega) _).trans hbel'⟩, by simp [intOf] <;> omega⟩
    · obtain rfl : k = rows.length := by omega
      go_wp2_with fail
      go_ret
      have h := KO.out
      rw [List.take_length] at h
      exact ⟨_, rfl, h, BEL.out⟩
theorem off_idx {t i j : Nat} (h : i ≤ j) : off t i + (j - i) = idx t i j := by unfold idx; rw [Nat.min_eq_left h, Nat.max_eq_right h]
theorem idx_comm (t i j : Nat) : idx t i j = idx t j i := by unfold idx; rw [Nat.min_comm, Nat.max_comm]
theorem idx_lt {t i j : Nat} (ht : t ≤ 4) (hi : i ≤ t) (hj : j ≤ t) : (idx t i j : Int) ≤ needN t := by
  have := (off_bound ht (show min i j ≤ t + 1 by omega)).2 (by omega)
  unfold idx
  omega
/-- the reference's number: rows ahead -/
theorem number_le (secret : Int) (t i j : Nat) (vd : Value) (ds : List Int) (w : World) (hs : U64 secret) (h : IsNums w vd ds) (ht : t ≤ 4) (hl : (ds.length : Int) = needN t) (hij : i ≤ j) (hj : j ≤ t) :
    Calls Try.prog 71 #[.int .u64 secret, .int .i64 t, vd, .int .i64 i, .int .i64 j] w fun e w' => e = .returned (.int .u64 (ofF (toF ((secret :: ds).getD (idx t i j) 0)))) ∧ ∃ n, w' = w.drewN n := by
  have hix := idx_lt ht (show i ≤ t by omega) (show j ≤ t by omega)
  have HI := Lib.hid (show off t i + (j - i) = idx t i j from off_idx hij)
  obtain ⟨A1, c1, rfl, hc1, hm1, hl1, hu1, hr1⟩ := h
  have hnb : ¬ (i : Int) > j := by omega
  have hob := fun k (hk : k ≤ t + 1) => off_bound ht hk
  have HOB := Lib.hid hob
  have HL := Lib.hid hl
  have hn14 : needN t ≤ 14 := by unfold needN; split <;> (try split) <;> (try split) <;> (try split) <;> omega
  clear hob hl hix
  have HU := Lib.hid hu1
  have HR := Lib.hid hr1
  have HN14 := Lib.hid hn14
  clear hu1 hr1 hm1 hn14
  go_enter Try.func71, Try.ntmps71
  go_wp2_with fail
  go_loop [11, 12] (fun a k => ∃ m : Nat, m ≤ i ∧ k = .int .i64 m ∧ a = .int .i64 ((off t m : Int) - 1)) (fun _ k => i - (intOf k).toNat)
  case atStart => exact ⟨0, Nat.zero_le _, rfl, rfl⟩
  case round =>
    obtain ⟨m, hm, rfl, rfl⟩ := hrel
    have hb1 := (HOB.out m (by omega)).1
    have hn := HN14.out
    by_cases hlt : m < i
    · have hs2 : off t (m + 1) = off t m + (t + 1 - m) := rfl
      have HS := Lib.hid hs2
      clear hs2
      go_wp2_with fail
      refine ⟨⟨m + 1, by omega, by go_num, ?_⟩, by simp [intOf] <;> omega⟩
      rw [HS.out]
      congr 1
      omega
    · obtain rfl : i = m := by omega
      have hi2 := HI.out
      have hix := idx_lt ht (show i ≤ t by omega) (show j ≤ t by omega)
      by_cases hz : idx t i j = 0
      · have h0 : (off t i : Int) + (j - i) = 0 := by omega
        have hx : (off t i : Int) - 1 + (j - i) < 0 := by omega
        have HZ := Lib.hid hz
        clear hz h0 hi2
        go_wp2_with fail
        refine (rNorm_any _ _ hs).mono ?_
        rintro e w' ⟨rfl, rfl⟩
        try dsimp only
        go_wp2_with fail
        go_ret
        exact ⟨by rw [HZ.out]; rfl, 0, rfl⟩
      · have hx : ¬ (off t i : Int) - 1 + (j - i) < 0 := by omega
        obtain ⟨q, hq⟩ : ∃ q, idx t i j = q + 1 := ⟨idx t i j - 1, by omega⟩
        have hqe : (off t i : Int) - 1 + (j - i) = (q : Int) := by omega
        have hql : q < ds.length := by have := HL.out; omega
        obtain ⟨b1, o1, y, rfl, hb1', hy, huy, hcell⟩ := nums_at HR.out HU.out hql
        have hcell2 : w.cell? ⟨b1, o1 + ((off t i : Int) - 1 + (j - i)).toNat, none⟩ = some (.int .u64 y) := by rw [hqe, Int.toNat_natCast]; exact hcell
        have HY := Lib.hid hy
        have HQ := Lib.hid hq
        have hqlt : (off t i : Int) - 1 + (j - i) < ds.length := by omega
        clear hz hi2 hq hqe hy hb1' hix hcell
        go_wp2_with fail
        refine (rNorm_any _ _ huy).mono ?_
        rintro e w' ⟨rfl, rfl⟩
        try dsimp only
        go_wp2_with fail
        go_ret
        refine ⟨?_, 0, rfl⟩
        rw [HQ.out, List.getD, List.getElem?_cons_succ, HY.out]; rfl
theorem number_gt (secret : Int) (t i j : Nat) (vd : Value) (ds : List Int) (w : World) (hs : U64 secret) (h : IsNums w vd ds) (ht : t ≤ 4) (hl : (ds.length : Int) = needN t) (hij : j < i) (hi : i ≤ t) :
    Calls Try.prog 71 #[.int .u64 secret, .int .i64 t, vd, .int .i64 i, .int .i64 j] w fun e w' => e = .returned (.int .u64 (ofF (toF ((secret :: ds).getD (idx t i j) 0)))) ∧ ∃ n, w' = w.drewN n := by
  have hix := idx_lt ht (show i ≤ t by omega) (show j ≤ t by omega)
  have HI := Lib.hid (show off t j + (i - j) = idx t i j from (off_idx (show j ≤ i by omega)).trans (idx_comm t j i))
  obtain ⟨A1, c1, rfl, hc1, hm1, hl1, hu1, hr1⟩ := h
  have hnb : (i : Int) > j := by omega
  have hob := fun k (hk : k ≤ t + 1) => off_bound ht hk
  have HOB := Lib.hid hob
  have HL := Lib.hid hl
  have hn14 : needN t ≤ 14 := by unfold needN; split <;> (try split) <;> (try split) <;> (try split) <;> omega
  clear hob hl hix
  have HU := Lib.hid hu1
  have HR := Lib.hid hr1
  have HN14 := Lib.hid hn14
  clear hu1 hr1 hm1 hn14
  go_enter Try.func71, Try.ntmps71
  go_wp2_with fail
  go_loop [11, 12] (fun a k => ∃ m : Nat, m ≤ j ∧ k = .int .i64 m ∧ a = .int .i64 ((off t m : Int) - 1)) (fun _ k => j - (intOf k).toNat)
  case atStart => exact ⟨0, Nat.zero_le _, rfl, rfl⟩
  case round =>
    obtain ⟨m, hm, rfl, rfl⟩ := hrel
    have hb1 := (HOB.out m (by omega)).1
    have hn := HN14.out
    by_cases hlt : m < j
    · have hs2 : off t (m + 1) = off t m + (t + 1 - m) := rfl
      have HS := Lib.hid hs2
      clear hs2
      go_wp2_with fail
      refine ⟨⟨m + 1, by omega, by go_num, ?_⟩, by simp [intOf] <;> omega⟩
      rw [HS.out]
      congr 1
      omega
    · obtain rfl : j = m := by omega
      have hi2 := HI.out
      have hix := idx_lt ht (show i ≤ t by omega) (show j ≤ t by omega)
      by_cases hz : idx t i j = 0
      · have h0 : (off t j : Int) + (i - j) = 0 := by omega
        have hx : (off t j : Int) - 1 + (i - j) < 0 := by omega
        have HZ := Lib.hid hz
        clear hz h0 hi2
        go_wp2_with fail
        refine (rNorm_any _ _ hs).mono ?_
        rintro e w' ⟨rfl, rfl⟩
        try dsimp only
        go_wp2_with fail
        go_ret
        exact ⟨by rw [HZ.out]; rfl, 0, rfl⟩
      · have hx : ¬ (off t j : Int) - 1 + (i - j) < 0 := by omega
        obtain ⟨q, hq⟩ : ∃ q, idx t i j = q + 1 := ⟨idx t i j - 1, by omega⟩
        have hqe : (off t j : Int) - 1 + (i - j) = (q : Int) := by omega
        have hql : q < ds.length := by have := HL.out; omega
        obtain ⟨b1, o1, y, rfl, hb1', hy, huy, hcell⟩ := nums_at HR.out HU.out hql
        have hcell2 : w.cell? ⟨b1, o1 + ((off t j : Int) - 1 + (i - j)).toNat, none⟩ = some (.int .u64 y) := by rw [hqe, Int.toNat_natCast]; exact hcell
        have HY := Lib.hid hy
        have HQ := Lib.hid hq
        have hqlt : (off t j : Int) - 1 + (i - j) < ds.length := by omega
        clear hz hi2 hq hqe hy hb1' hix hcell
        go_wp2_with fail
        refine (rNorm_any _ _ huy).mono ?_
        rintro e w' ⟨rfl, rfl⟩
        try dsimp only
        go_wp2_with fail
        go_ret
        refine ⟨?_, 0, rfl⟩
        rw [HQ.out, List.getD, List.getElem?_cons_succ, HY.out]; rfl
theorem number_any (secret : Int) (t i j : Nat) (vd : Value) (ds : List Int) (w : World) (hs : U64 secret) (h : IsNums w vd ds) (ht : t ≤ 4) (hl : (ds.length : Int) = needN t) (hi : i ≤ t) (hj : j ≤ t) :
    Calls Try.prog 71 #[.int .u64 secret, .int .i64 t, vd, .int .i64 i, .int .i64 j] w fun e w' => e = .returned (.int .u64 (ofF (toF ((secret :: ds).getD (idx t i j) 0)))) ∧ ∃ n, w' = w.drewN n := by
  by_cases hij : i ≤ j
  · exact number_le secret t i j vd ds w hs h ht hl hij hj
  · exact number_gt secret t i j vd ds w hs h ht hl (by omega) hi
end Go.Proofs.Ytnojmphggdndmaa
