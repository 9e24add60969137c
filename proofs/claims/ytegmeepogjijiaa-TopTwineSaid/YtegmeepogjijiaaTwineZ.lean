/- Rows of a dealing in two variables: what the helpers return. -/
import Derived.Test.YtegmeepogjijiaaSquareW
import Derived.Test.YtegmeepogjijiaaRowsW
import Derived.Test.YtegmeepogjijiaaBox
import Derived.Outline
namespace Go.Proofs.Ytegmeepogjijiaa
open Go.RowKit Croft

def rowL (rows : List (List Int)) (x : Int) : List Int := rows.map fun r => ofF (peval (toFs r) (toF x))
theorem rowL_next {rows : List (List Int)} {k : Nat} {r : List Int} (x : Int) (h : rows[k]? = some r) : rowL (rows.take (k + 1)) x = rowL (rows.take k) x ++ [ofF (peval (toFs r) (toF x))] := by
  unfold rowL
  rw [List.take_add_one, h]
  simp
theorem rowL_length (rows : List (List Int)) (x : Int) : (rowL rows x).length = rows.length := by simp [rowL]
set_option maxRecDepth 100000 in
theorem pRow_any (va : Value) (rows : List (List Int)) (x : Int) (w : World) (h1 : IsNumss w va rows) (hx : 0 ≤ x ∧ x ≤ 1000) :
    Calls Try.prog 117 #[va, .int .i64 x] w fun e w' => ∃ v, e = .returned v ∧ OwnNums w' w.heap.size v (rowL rows x) ∧ Below w.heap.size w w' := by
  have KA := Lib.hid h1
  obtain ⟨A1, c1, vs, rfl, hc1, hm1, hl1, hr1, ha1⟩ := h1
  obtain ⟨hx1, hx2⟩ := hx
  clear hr1 ha1 hm1
  go_enter Try.func117, Try.ntmps117
  go_wp2_with fail
  go_loopw [5, 10] (fun v i wr => ∃ k : Nat, k ≤ rows.length ∧ i = .int .i64 k ∧ OwnNums wr w.heap.size v (rowL (rows.take k) x) ∧ Below w.heap.size w wr) (fun _ i _ => rows.length - (intOf i).toNat)
  case atStart => exact ⟨0, Nat.zero_le _, rfl, OwnNums.nil _ _, Below.refl _ _⟩
  case round =>
    obtain ⟨k, hk, rfl, hown, hbel⟩ := hrel
    have KO := Lib.hid hown
    have BEL := Lib.hid hbel
    have hsz := hbel.size
    clear hown hbel
    by_cases hlt : k < rows.length
    · obtain ⟨A, c, vs, hA, _, _, _, hr, ha⟩ := (KA.out.below BEL.out)
      injection hA with hA1 hA2 hA3
      subst hA1 hA3
      obtain ⟨b1, o1, y, r, rfl, hb1, hy, hr2, hyr, hcell⟩ := numss_at hr ha hlt
      have HR := Lib.hid hr2
      have KY := Lib.hid hyr
      have hrl : rows.length ≤ 5864062014805 := hl1
      clear hr ha hy hr2 hyr hb1
      go_wp2_with fail
      refine (pAt_any _ _ _ _ KY.out (by omega)).mono ?_
      rintro e w' ⟨rfl, nd, rfl⟩
      try dsimp only
      go_wp2_with (at_builtin; refine wpList_push rfl _ _ rfl w.heap.size _ _ (ofF (peval (toFs r) (toF x))) (wr.drewN nd).heap.size 1 rfl ((KO.out.drewN nd).alloc _) rfl (new_cell _ _ _) (U64.of_ofF _) (by rw [rowL_length]; simp only [List.length_take]; omega) (by simp; omega) ?_)
      intro v' w' hown' hbel'
      go_wp2_with fail
      refine ⟨⟨k + 1, by omega, by go_num, by rw [rowL_next x HR.out]; exact hown', ((below_drewN BEL.out nd).alloc (by simp; omega) _).trans hbel'⟩, by simp [intOf] <;> omega⟩
    · obtain rfl : k = rows.length := by omega
      go_wp2_with fail
      go_ret
      have h := KO.out
      rw [List.take_length] at h
      exact ⟨_, rfl, h, BEL.out⟩
theorem off_idx {t i j : Nat} (h : i ≤ j) : off t i + (j - i) = idx t i j := by unfold idx; rw [Nat.min_eq_left h, Nat.max_eq_right h]
theorem idx_comm (t i j : Nat) : idx t i j = idx t j i := by unfold idx; rw [Nat.min_comm, Nat.max_comm]
theorem idx_lt {t i j : Nat} (ht : t ≤ 4) (hi : i ≤ t) (hj : j ≤ t) : (idx t i j : Int) ≤ needN t := by
  have := (off_bound ht (show min i j ≤ t + 1 by omega)).2 (by omega)
  unfold idx
  omega
end Go.Proofs.Ytegmeepogjijiaa
namespace Go.Proofs.Ytegmeepogjijiaa
open Go.RowKit Croft

def dMat (D : List Int) (t : Nat) : List (List Int) := mat (t + 1) fun p q => ofF (toF (D.getD (idx t p q) 0))
def dRows (D : List Int) (t n : Nat) : List (Int × List Int) := (List.range n).map fun (i : Nat) => ((i : Int) + 1, rowL (dMat D t) ((i : Int) + 1))
theorem dRows_length (D : List Int) (t n : Nat) : (dRows D t n).length = n := by simp [dRows]
theorem dRows_next (D : List Int) (t n : Nat) : dRows D t (n + 1) = dRows D t n ++ [((n : Int) + 1, rowL (dMat D t) ((n : Int) + 1))] := by simp [dRows, List.range_succ]
/-- rows of the call's own, and an error -/
def RowsRes (w : World) (e : Ending) (w' : World) (l : List (Int × List Int)) (err : Int) : Prop :=
  ∃ v vs, e = .returned (.tuple #[v, .int .i64 err]) ∧ OwnRows w' w.heap.size v vs l ∧ Below w.heap.size w w'
theorem pDeal2_badt (secret t : Int) (vd : Value) (n : Int) (w : World) (h : ¬ (0 ≤ t ∧ t ≤ 4)) :
    Calls Try.prog 63 #[.int .u64 secret, .int .i64 t, vd, .int .i64 n] w fun e w' => RowsRes w e w' [] 1 := by
  have H := Lib.hid h
  clear h
  go_enter Try.func63, Try.ntmps63
  go_wp2_with fail
  refine (pNeed_bad _ _ H.out).mono ?_
  rintro e w' ⟨rfl, rfl⟩
  try dsimp only
  go_wp2_with fail
  go_ret2
  exact ⟨_, _, rfl, OwnRows.nil _ _, Below.refl _ _⟩
theorem pDeal2_bad (secret t : Int) (vd : Value) (ds : List Int) (n : Int) (w : World) (h1 : IsNums w vd ds) (ht : 0 ≤ t ∧ t ≤ 4) (h : ¬ ((ds.length : Int) = needN t ∧ t + 1 ≤ n ∧ n ≤ 9)) :
    Calls Try.prog 63 #[.int .u64 secret, .int .i64 t, vd, .int .i64 n] w fun e w' => RowsRes w e w' [] 1 := by
  have HT := Lib.hid ht
  obtain ⟨A1, c1, rfl, hc1, hm1, hl1, hu1, hr1⟩ := h1
  obtain ⟨ht1, ht2⟩ := ht
  obtain ⟨N, hN⟩ : ∃ N, N = needN t := ⟨_, rfl⟩
  rw [← hN] at h
  have HN := Lib.hid hN
  clear hu1 hr1 hm1 hN
  by_cases k1 : (ds.length : Int) = N
  · have b1 : ((ds.length : Int) != N) = false := by rw [bne_eq_false_iff_eq]; exact k1
    have K1 := Lib.hid k1
    have h2 : ¬ (t + 1 ≤ n ∧ n ≤ 9) := fun hh => h ⟨k1, hh⟩
    clear h k1
    by_cases k2 : n < t + 1
    · have b2 : decide (n < t + 1) = true := by simpa using k2
      clear h2
      go_enter Try.func63, Try.ntmps63
      go_wp2_with fail
      refine (pNeed_ok _ _ HT.out).mono ?_
      rintro e w' ⟨rfl, rfl⟩
      rw [← HN.out]
      try dsimp only
      go_wp2_with fail
      go_ret2
      exact ⟨_, _, rfl, OwnRows.nil _ _, Below.refl _ _⟩
    · have b2 : decide (n < t + 1) = false := by simpa using k2
      have k3 : n > 9 := by omega
      clear h2
      go_enter Try.func63, Try.ntmps63
      go_wp2_with fail
      refine (pNeed_ok _ _ HT.out).mono ?_
      rintro e w' ⟨rfl, rfl⟩
      rw [← HN.out]
      try dsimp only
      go_wp2_with fail
      go_ret2
      exact ⟨_, _, rfl, OwnRows.nil _ _, Below.refl _ _⟩
  · have b1 : ((ds.length : Int) != N) = true := by rw [bne_iff_ne]; exact k1
    have K1 := Lib.hid k1
    clear h k1
    go_enter Try.func63, Try.ntmps63
    go_wp2_with fail
    refine (pNeed_ok _ _ HT.out).mono ?_
    rintro e w' ⟨rfl, rfl⟩
    rw [← HN.out]
    try dsimp only
    go_wp2_with fail
    go_ret2
    exact ⟨_, _, rfl, OwnRows.nil _ _, Below.refl _ _⟩
set_option maxRecDepth 100000 in
set_option maxHeartbeats 1000000 in
theorem pDeal2_ok (secret : Int) (t n : Nat) (vd : Value) (ds : List Int) (w : World) (hs : U64 secret) (h1 : IsNums w vd ds) (ht : t ≤ 4) (hl : (ds.length : Int) = needN t) (hn1 : t + 1 ≤ n) (hn2 : n ≤ 9) :
    Calls Try.prog 63 #[.int .u64 secret, .int .i64 t, vd, .int .i64 n] w fun e w' => RowsRes w e w' (dRows (secret :: ds) t n) 0 := by
  have KD := Lib.hid h1
  have HL := Lib.hid hl
  suffices hgoal : ∀ Post : Ending → World → Prop, (∀ e w', RowsRes w e w' (dRows (secret :: ds) t n) 0 → Post e w') → Calls Try.prog 63 #[.int .u64 secret, .int .i64 t, vd, .int .i64 n] w Post from hgoal _ fun e w' h => h
  intro Post hp
  have HP := Lib.hid hp
  obtain ⟨A1, c1, rfl, hc1, hm1, hl1, hu1, hr1⟩ := h1
  have b1 : ((ds.length : Int) != needN t) = false := by rw [bne_eq_false_iff_eq]; exact hl
  have b2 : decide ((n : Int) < (t : Int) + 1) = false := by simp; omega
  clear hp hl hu1 hr1 hm1
  go_enter Try.func63, Try.ntmps63
  go_wp2_with fail
  refine (pNeed_ok _ _ (by omega)).mono ?_
  rintro e w' ⟨rfl, rfl⟩
  try dsimp only
  go_wp2_with fail
  refine (pSquare_any _ t _ ds _ hs KD.out ht HL.out).mono ?_
  rintro e W1 ⟨va, vm, rfl, ho, hb⟩
  have KA := Lib.hid ho.is
  have BEL := Lib.hid hb
  clear ho hb
  try dsimp only
  go_wp2_with fail
  go_loopw [13, 14] (fun v i wr => ∃ (k : Nat) (vs : List Value), k ≤ n ∧ i = .int .i64 ((k : Int) + 1) ∧ OwnRows wr W1.heap.size v vs (dRows (secret :: ds) t k) ∧ Below W1.heap.size W1 wr ∧ Below w.heap.size w wr) (fun _ i _ => n + 1 - (intOf i).toNat)
  case atStart => exact ⟨0, [], Nat.zero_le _, rfl, OwnRows.nil _ _, Below.refl _ _, BEL.out⟩
  case round =>
    obtain ⟨k, vs, hk, rfl, hown, hbel1, hbel2⟩ := hrel
    have KO := Lib.hid hown
    have B1 := Lib.hid hbel1
    have B2 := Lib.hid hbel2
    have hsz := hbel2.size
    have hsz1 := hbel1.size
    have hszw := BEL.out.size
    clear hown hbel1 hbel2
    by_cases hlt : k < n
    · have KA2 := Lib.hid (KA.out.below B1.out)
      go_wp2_with fail
      refine (pRow_any _ _ _ _ KA2.out (by omega)).mono ?_
      rintro e W3 ⟨vr, rfl, ho, hb⟩
      have KR := Lib.hid ho
      have KO2 := Lib.hid (KO.out.below hb)
      have B1' := Lib.hid (below_trans B1.out hb B1.out.size)
      have B2' := Lib.hid (below_trans B2.out hb hsz)
      have hsz3 := hb.size
      clear ho hb
      have FAR := Lib.hid (show ∀ (q : Nat) (z : Value) (b : Nat), vs[q]? = some z → z.ownBlock = some b → vr.ownBlock ≠ some b from fun q z b hz hzb hvb => by
        have hq : q < (dRows (secret :: ds) t k).length := by rw [← KO.out.vlen]; exact (List.getElem?_eq_some_iff.1 hz).1
        have h1 := ((KO.out.row q z _ hz (List.getElem?_eq_getElem hq)).1.lt b hzb).2
        have h2 := (KR.out.1.lt b hvb).1
        omega)
      obtain ⟨Ar, cr, hvr, _, _⟩ := own_form KR.out.1
      subst hvr
      have hlr : (rowL (dMat (secret :: ds) t) ((k : Int) + 1)).length = t + 1 := by simp [rowL_length, dMat, mat_length]
      have HLR := Lib.hid hlr
      clear hlr
      try dsimp only
      go_wp2_with (at_builtin; go_loud (refine wpList_push_arow rfl _ _ rfl W1.heap.size _ vs (dRows (secret :: ds) t k) ((k : Int) + 1) _ (rowL (dMat (secret :: ds) t) ((k : Int) + 1)) W3.heap.size 1 rfl (KO2.out.alloc _) rfl (pair_cell0 _ _ _ _) (pair_cell1 _ _ _ _) (by unfold I64; omega) ((KR.out.alloc _).less hsz1) FAR.out (by rw [dRows_length]; omega) (by rw [size_alloc]; omega) ?_))
      intro v' w' hown' hbel'
      rw [← dRows_next] at hown'
      have K' := Lib.hid hown'
      have B3 := Lib.hid ((B1'.out.alloc B1'.out.size (.cells #[.int .i64 ((k : Int) + 1), .slice Ar (rowL (dMat (secret :: ds) t) ((k : Int) + 1)).length cr] 106)).trans hbel')
      have B4 := Lib.hid ((B2'.out.alloc B2'.out.size (.cells #[.int .i64 ((k : Int) + 1), .slice Ar (rowL (dMat (secret :: ds) t) ((k : Int) + 1)).length cr] 106)).trans (hbel'.mono hszw))
      clear hown' hbel'
      go_wp2_with fail
      exact ⟨⟨k + 1, _, by omega, by go_num, K'.out, B3.out, B4.out⟩, by simp [intOf] <;> omega⟩
    · obtain rfl : k = n := by omega
      go_wp2_with fail
      exact HP.out _ _ ⟨_, _, rfl, KO.out.less hszw, B2.out⟩
end Go.Proofs.Ytegmeepogjijiaa
namespace Go.Proofs.Ytegmeepogjijiaa
open Go.RowKit Croft

def dC (D : List Int) (t : Nat) (x : Int) (j m : Nat) : F := fsum m fun i => toF (D.getD (idx t i j) 0) * toF x ^ i
def dCs (D : List Int) (t : Nat) (x : Int) (m : Nat) : List Int := (List.range m).map fun j => ofF (dC D t x j (t + 1))
theorem dCs_next (D : List Int) (t : Nat) (x : Int) (m : Nat) : dCs D t x (m + 1) = dCs D t x m ++ [ofF (dC D t x m (t + 1))] := by simp [dCs, List.range_succ]
theorem dCs_length (D : List Int) (t : Nat) (x : Int) (m : Nat) : (dCs D t x m).length = m := by simp [dCs]
theorem dCs_full (D : List Int) (t : Nat) (x : Int) : dCs D t x (t + 1) = rowL (dMat D t) x := by
  unfold dCs rowL dMat mat
  rw [List.map_map]
  apply List.map_congr_left
  intro j hj
  rw [List.mem_range] at hj
  simp only [Function.comp]
  congr 1
  rw [peval_sum _ _ (t + 1) (by simp [toFs])]
  unfold dC
  apply fsum_congr
  intro i hi
  congr 1
  rw [co_get (a := toF (D.getD (idx t i j) 0))]
  simp only [toFs, List.getElem?_map, List.getElem?_range hi, Option.map_some, toF_ofF]
  rw [idx_comm]
end Go.Proofs.Ytegmeepogjijiaa
