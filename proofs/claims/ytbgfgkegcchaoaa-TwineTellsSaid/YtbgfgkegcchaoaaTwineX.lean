/- Rows of a dealing in two variables: what the helpers return. -/
import Derived.Test.YtbgfgkegcchaoaaSquareW
import Derived.Test.YtbgfgkegcchaoaaRowsW
namespace Go.Proofs.Ytbgfgkegcchaoaa
open Go.RowKit Croft

def rowL (rows : List (List Int)) (x : Int) : List Int := rows.map fun r => ofF (peval (toFs r) (toF x))
theorem rowL_next {rows : List (List Int)} {k : Nat} {r : List Int} (x : Int) (h : rows[k]? = some r) : rowL (rows.take (k + 1)) x = rowL (rows.take k) x ++ [ofF (peval (toFs r) (toF x))] := by
  unfold rowL
  rw [List.take_add_one, h]
  simp
theorem rowL_length (rows : List (List Int)) (x : Int) : (rowL rows x).length = rows.length := by simp [rowL]
set_option maxRecDepth 100000 in
theorem pRow_any (va : Value) (rows : List (List Int)) (x : Int) (w : World) (h1 : IsNumss w va rows) (hx : 0 ≤ x ∧ x ≤ 1000) :
    Calls Try.prog 107 #[va, .int .i64 x] w fun e w' => ∃ v, e = .returned v ∧ OwnNums w' w.heap.size v (rowL rows x) ∧ Below w.heap.size w w' := by
  have KA := Lib.hid h1
  obtain ⟨A1, c1, vs, rfl, hc1, hm1, hl1, hr1, ha1⟩ := h1
  obtain ⟨hx1, hx2⟩ := hx
  clear hr1 ha1 hm1
  go_enter Try.func107, Try.ntmps107
  go_wp2_with fail
  go_loopw [5, 10] (fun v i wr => ∃ k : Nat, k ≤ rows.length ∧ i = .int .i64 k ∧ OwnNums wr w.heap.size v (rowL (rows.take k) x) ∧ Below w.heap.size w wr) (fun _ i _ => rows.length - (intOf i).toNat)
  case atStart => exact ⟨0, Nat.zero_le _, rfl, OwnNums.nil _ _, Below.refl _ _⟩
  case round =>
    obtain ⟨k, hk, rfl, hown, hbel⟩ := hrel
    have KO := Lib.hid hown
    have BEL := Lib.hid hbel
    have hsz := hbel.size
    clear hown hbel
    by_cases hlt : k < rows.length
    · obtain ⟨A, c, vs, hA, _, _, _, hr, ha⟩ := (KA.out.below BEL.out)
      injection hA with hA1 hA2 hA3
      subst hA1 hA3
      obtain ⟨b1, o1, y, r, rfl, hb1, hy, hr2, hyr, hcell⟩ := numss_at hr ha hlt
      have HR := Lib.hid hr2
      have KY := Lib.hid hyr
      have hrl : rows.length ≤ 5864062014805 := hl1
      clear hr ha hy hr2 hyr hb1
      go_wp2_with fail
      refine (pAt_any _ _ _ _ KY.out (by omega)).mono ?_
      rintro e w' ⟨rfl, nd, rfl⟩
      try dsimp only
      go_wp2_with (at_builtin; refine wpList_push rfl _ _ rfl w.heap.size _ _ (ofF (peval (toFs r) (toF x))) (wr.drewN nd).heap.size 1 rfl ((KO.out.drewN nd).alloc _) rfl (new_cell _ _ _) (U64.of_ofF _) (by rw [rowL_length]; simp only [List.length_take]; omega) (by simp; omega) ?_)
      intro v' w' hown' hbel'
      go_wp2_with fail
      refine ⟨⟨k + 1, by omega, by go_num, by rw [rowL_next x HR.out]; exact hown', ((below_drewN BEL.out nd).alloc (by simp; omega) _).trans hbel'⟩, by simp [intOf] <;> omega⟩
    · obtain rfl : k = rows.length := by omega
      go_wp2_with fail
      go_ret
      have h := KO.out
      rw [List.take_length] at h
      exact ⟨_, rfl, h, BEL.out⟩
theorem off_idx {t i j : Nat} (h : i ≤ j) : off t i + (j - i) = idx t i j := by unfold idx; rw [Nat.min_eq_left h, Nat.max_eq_right h]
theorem idx_comm (t i j : Nat) : idx t i j = idx t j i := by unfold idx; rw [Nat.min_comm, Nat.max_comm]
theorem idx_lt {t i j : Nat} (ht : t ≤ 4) (hi : i ≤ t) (hj : j ≤ t) : (idx t i j : Int) ≤ needN t := by
  have := (off_bound ht (show min i j ≤ t + 1 by omega)).2 (by omega)
  unfold idx
  omega
end Go.Proofs.Ytbgfgkegcchaoaa
