/- Package gate's sums, and the reference's: what each call returns. -/
import Derived.Test.YtljpangeodgbkaaDoorLists
namespace Go.Proofs.YtljpangeodgbkaaDoor
open Go.RowKit Croft

theorem rIn_any (n lo hi : Int) (w : World) :
    Calls Tryd.prog 48 #[.int .i64 n, .int .i64 lo, .int .i64 hi] w fun e w' => e = .returned (.bool (decide (lo ≤ n ∧ n ≤ hi))) ∧ w = w' := by
  by_cases h1 : lo ≤ n
  · by_cases h2 : n ≤ hi
    all_goals
      have hd : decide (lo ≤ n ∧ n ≤ hi) = decide (n ≤ hi) := by simp [h1]
      rw [hd]
      go_enter Tryd.func48, Tryd.ntmps48
      go_wp2
      all_goals (go_ret; exact ⟨by simp [h2], rfl⟩)
  · have hd : decide (lo ≤ n ∧ n ≤ hi) = false := by simp [h1]
    rw [hd]
    go_enter Tryd.func48, Tryd.ntmps48
    go_wp2
    all_goals (go_ret; exact ⟨rfl, rfl⟩)

/-- so many lists: may they be wires together? -/
def wireB : List Nat → Bool
  | [] => false
  | n :: l => decide (1 ≤ n) && decide (n ≤ 9) && l.all (· == n)
def wireE (l : List Nat) : Int := if wireB l = true then 0 else 5
def LensAt (w : World) (b o : Nat) (l : List Nat) : Prop := b < w.heap.size ∧ ∀ j n, l[j]? = some n → ∃ A c, w.cell? ⟨b, o + j, none⟩ = some (.slice A n c) ∧ n ≤ 17592186043904
theorem gForm_any (b o c n : Nat) (l : List Nat) (w : World) (h : LensAt w b o (n :: l)) (hl : l.length ≤ 4) :
    Calls Tryd.prog 93 #[.slice (some ⟨b, o, none⟩) (n :: l).length c] w fun e w' => e = .returned (.int .i64 (wireE (n :: l))) ∧ w = w' := by
  obtain ⟨hb, h⟩ := h
  obtain ⟨A0, c0, hc0, hn0⟩ := h 0 n rfl
  rw [Nat.add_zero] at hc0
  have H := Lib.hid h
  clear h
  simp only [List.length_cons]
  by_cases hbad : 1 ≤ n ∧ n ≤ 9
  · obtain ⟨hg1, hg2⟩ := hbad
    go_enter Tryd.func93, Tryd.ntmps93
    go_wp2_with fail
    go_loop [12] (fun i => ∃ k : Nat, k ≤ l.length + 1 ∧ i = .int .i64 k ∧ (∀ j m, j < k → (n :: l)[j]? = some m → m = n)) (fun i => l.length + 1 - (intOf i).toNat)
    case atStart => exact ⟨0, Nat.zero_le _, rfl, by intro j m hj; omega⟩
    case round =>
      obtain ⟨k, hk, rfl, hall⟩ := hrel
      have HA := Lib.hid hall
      clear hall
      by_cases hlt : k < l.length + 1
      · obtain ⟨m, hm⟩ : ∃ m, (n :: l)[k]? = some m := ⟨_, List.getElem?_eq_getElem (by simpa using hlt)⟩
        obtain ⟨A, cc, hcm, hnm⟩ := H.out k m hm
        have HM := Lib.hid hm
        clear hm
        by_cases hmn : m = n
        · subst hmn
          go_wp2_with fail
          refine ⟨⟨k + 1, by omega, by go_num, ?_⟩, by simp [intOf]; omega⟩
          intro j x hj hx
          by_cases hjk : j = k
          · subst hjk; rw [HM.out] at hx; injection hx with hx; exact hx.symm
          · exact HA.out j x (by omega) hx
        · have hne : ((m : Int) != (n : Int)) = true := by rw [bne_iff_ne]; omega
          have HN := Lib.hid hmn
          clear hmn
          go_wp2_with fail
          go_ret
          refine ⟨?_, rfl⟩
          have : wireB (n :: l) = false := by
            unfold wireB
            have h1 := HM.out
            cases k with
            | zero => simp at h1; exact absurd h1.symm HN.out
            | succ k =>
              simp at h1
              rw [Bool.and_eq_false_iff]
              right
              rw [List.all_eq_false]
              exact ⟨m, List.mem_of_getElem? h1, by simpa using HN.out⟩
          unfold wireE; rw [this]; rfl
      · go_wp2_with fail
        go_ret
        refine ⟨?_, rfl⟩
        have : wireB (n :: l) = true := by
          unfold wireB
          simp only [Bool.and_eq_true, decide_eq_true_eq, List.all_eq_true, beq_iff_eq]
          refine ⟨⟨hg1, hg2⟩, fun x hx => ?_⟩
          obtain ⟨j, hj, hjx⟩ := List.getElem_of_mem hx
          exact HA.out (j + 1) x (by omega) (by simp [hjx, List.getElem?_eq_getElem hj])
        unfold wireE; rw [this]; rfl
  · have hw : wireE (n :: l) = 5 := by
      unfold wireE wireB
      rw [if_neg]
      simp only [Bool.and_eq_true, decide_eq_true_eq]
      intro h; exact hbad h.1
    rw [hw]
    rcases (show n < 1 ∨ 9 < n by omega) with hbad | hbad
    all_goals
      clear hw
      go_enter Tryd.func93, Tryd.ntmps93
      go_wp2_with fail
      go_loop [12] (fun i => i = .int .i64 0) (fun _ => 0)
      case atStart => rfl
      case round =>
        subst hrel
        go_wp2_with fail
        go_ret
        exact ⟨rfl, rfl⟩
/-- what is told of numbers, one by one reckoned -/
def zipS (op : F → F → F) (xs ys : List Int) : List Int := (List.zipWith op (xs.map toF) (ys.map toF)).map ofF
theorem zipS_length (op : F → F → F) (xs ys : List Int) : (zipS op xs ys).length = min xs.length ys.length := by simp [zipS]
theorem zipS_take {op : F → F → F} {xs ys : List Int} {k : Nat} {x y : Int} (hx : xs[k]? = some x) (hy : ys[k]? = some y) : zipS op (xs.take (k + 1)) (ys.take (k + 1)) = zipS op (xs.take k) (ys.take k) ++ [ofF (op (toF x) (toF y))] := by
  obtain ⟨h1, _⟩ := List.getElem?_eq_some_iff.1 hx
  obtain ⟨h2, _⟩ := List.getElem?_eq_some_iff.1 hy
  rw [List.take_add_one, List.take_add_one, hx, hy]
  unfold zipS
  simp only [Option.toList, List.map_append, List.map_cons, List.map_nil]
  rw [List.zipWith_append (by simp; omega)]
  simp
theorem zipS_zero (op : F → F → F) (xs ys : List Int) : zipS op (xs.take 0) (ys.take 0) = [] := by simp [zipS]
theorem zipS_u64 (op : F → F → F) (xs ys : List Int) : ∀ z ∈ zipS op xs ys, U64 z := ofF_u64s _
/-- a list of numbers of the call's own, and an error -/
def ListRes (w : World) (e : Ending) (w' : World) (l : List Int) (err : Int) : Prop :=
  ∃ v, e = .returned (.tuple #[v, .int .i64 err]) ∧ OwnNums w' w.heap.size v l ∧ Below w.heap.size w w'
def wire2E (xs ys : List Int) : Int := wireE [xs.length, ys.length]
theorem wire2E_ok {xs ys : List Int} (h1 : 1 ≤ xs.length) (h2 : xs.length ≤ 9) (h : ys.length = xs.length) : wire2E xs ys = 0 := by
  unfold wire2E wireE wireB
  simp [h1, h2, h]
theorem wire2E_bad {xs ys : List Int} (h : ¬ (1 ≤ xs.length ∧ xs.length ≤ 9 ∧ ys.length = xs.length)) : wire2E xs ys = 5 := by
  unfold wire2E wireE wireB
  rw [if_neg]
  simp
  intro h1 h2 h3
  exact h ⟨h1, h2, h3⟩
def eachL (op : F → F → F) (xs ys : List Int) : List Int := if wire2E xs ys = 0 then zipS op xs ys else []
theorem gEach_any (g : Nat) (op : F → F → F) (hg : ∀ x y W, 0 ≤ x → 0 ≤ y → Calls Tryd.prog g #[.int .u64 x, .int .u64 y] W fun e w' => e = .returned (.int .u64 (ofF (op (toF x) (toF y)))) ∧ W = w')
    (hcf : ∀ (x y : Value) (W : World), (callFunc g #[x, y]).run Tryd.prog W = .ok (.enter g #[x, y]) W)
    (va vb : Value) (xs ys : List Int) (w : World) (h1 : IsNums w va xs) (h2 : IsNums w vb ys) :
    Calls Tryd.prog 72 #[va, vb, .func (.func g) #[] #[]] w fun e w' => ListRes w e w' (eachL op xs ys) (wire2E xs ys) := by
  have HG := Lib.hid hg
  clear hg
  have k1 := Lib.hid h1
  have k2 := Lib.hid h2
  obtain ⟨A1, c1, rfl, hc1, hm1, hl1, hu1, hr1⟩ := h1
  obtain ⟨A2, c2, rfl, hc2, hm2, hl2, hu2, hr2⟩ := h2
  by_cases hbad : 1 ≤ xs.length ∧ xs.length ≤ 9 ∧ ys.length = xs.length
  · obtain ⟨hb1, hb2, hb3⟩ := hbad
    have hE := wire2E_ok hb1 hb2 hb3
    have HR := Lib.hid (show eachL op xs ys = zipS op xs ys by unfold eachL; rw [if_pos hE])
    have HE := Lib.hid hE
    have HL := Lib.hid hb3
    have hb4 : ys.length ≤ xs.length := by omega
    have hb5 : xs.length ≤ ys.length := by omega
    clear hb3 hE
    go_enter Tryd.func72, Tryd.ntmps72
    go_wp2_with fail
    refine (gForm_any _ 0 _ xs.length [ys.length] _ ?_ (by simp)).mono ?_
    · refine ⟨by simp, fun j m hj => ?_⟩
      match j, hj with
      | 0, hj => simp at hj; subst hj; exact ⟨A1, c1, by simp, hl1⟩
      | 1, hj => simp at hj; subst hj; exact ⟨A2, c2, by simp, hl2⟩
    rintro e w' ⟨rfl, rfl⟩
    rw [show wireE [xs.length, ys.length] = 0 from HE.out]
    go_wp2_with fail
    have HB := Lib.hid ((Below.refl w.heap.size w).alloc (Nat.le_refl _) (.cells #[Value.slice A1 xs.length c1, Value.slice A2 ys.length c2] 35))
    go_loopw [9, 20] (fun v i wr => ∃ k : Nat, k ≤ xs.length ∧ i = .int .i64 k ∧ OwnNums wr w.heap.size v (zipS op (xs.take k) (ys.take k)) ∧ Below w.heap.size w wr) (fun _ i _ => xs.length - (intOf i).toNat)
    case atStart => exact ⟨0, Nat.zero_le _, rfl, by rw [zipS_zero]; exact OwnNums.nil _ _, HB.out⟩
    case round =>
      obtain ⟨k, hk, rfl, hown, hbel⟩ := hrel
      have hsz := hbel.size
      by_cases hlt : k < xs.length
      · have hlt2 : k < ys.length := by omega
        obtain ⟨b1, o1, x, rfl, hb1, hx, hux, hcx⟩ := nums_at (hr1.below hbel) hu1 hlt
        obtain ⟨b2, o2, y, rfl, hb2, hy, huy, hcy⟩ := nums_at (hr2.below hbel) hu2 hlt2
        have HX := Lib.hid hx
        have HY := Lib.hid hy
        have hx0 := hux.1
        have hy0 := huy.1
        have HO := Lib.hid hown
        have HBE := Lib.hid hbel
        clear hx hy hr1 hr2 hb1 hb2 hown hbel
        go_wp2_with fail
        refine wp_region_quiet_tail_from 1 11 (by kernel_rfl) (by kernel_rfl) (fun _ _ _ _ _ h => h) ?_
        simp only [List.take_succ_cons, List.take_zero, List.drop_succ_cons, List.drop_zero, putAll, moved]
        simp [Act.put, Act.eval]
        repeat (go_big_quiet_step ((exact Calls.quiet_of_same ((HG.out _ _ _ hx0 hy0).mono fun _ _ h => ⟨h.1, h.2.symm⟩))))
        refine wpQuiet_nil ?_
        intro nq
        go_wp2_with (at_builtin; refine wpList_push rfl _ _ rfl w.heap.size _ _ (ofF (op (toF x) (toF y))) (wr.drewN nq).heap.size 1 rfl ((HO.out.drewN nq).alloc _) rfl (new_cell _ _ _) (U64.of_ofF _) (by rw [zipS_length]; simp only [List.length_take]; omega) (by simp; omega) ?_)
        intro v' w' hown' hbel'
        go_wp2_with fail
        refine ⟨⟨k + 1, by omega, by go_num, by rw [zipS_take HX.out HY.out]; exact hown', ((below_drewN HBE.out nq).alloc (by simp; omega) _).trans hbel'⟩, by simp [intOf]; omega⟩
      · go_wp2_with fail
        go_ret2
        obtain rfl : k = xs.length := by omega
        rw [HR.out, show wire2E xs ys = 0 from HE.out]
        rw [List.take_length, List.take_of_length_le (by omega)] at hown
        exact ⟨_, rfl, hown, hbel⟩
  · have hE := wire2E_bad hbad
    rw [show eachL op xs ys = [] by unfold eachL; rw [if_neg (by rw [hE]; omega)], hE]
    clear hbad
    have HE := Lib.hid hE
    clear hE
    go_enter Tryd.func72, Tryd.ntmps72
    go_wp2_with fail
    refine (gForm_any _ 0 _ xs.length [ys.length] _ ?_ (by simp)).mono ?_
    · refine ⟨by simp, fun j m hj => ?_⟩
      match j, hj with
      | 0, hj => simp at hj; subst hj; exact ⟨A1, c1, by simp, hl1⟩
      | 1, hj => simp at hj; subst hj; exact ⟨A2, c2, by simp, hl2⟩
    rintro e w' ⟨rfl, rfl⟩
    rw [show wireE [xs.length, ys.length] = 5 from HE.out]
    go_wp2_with fail
    go_ret2
    exact ⟨_, rfl, OwnNums.nil _ _, (Below.refl _ _).alloc (Nat.le_refl _) _⟩
theorem gAdd_any (va vb : Value) (xs ys : List Int) (w : World) (h1 : IsNums w va xs) (h2 : IsNums w vb ys) :
    Calls Tryd.prog 54 #[va, vb] w fun e w' => ListRes w e w' (eachL (· + ·) xs ys) (wire2E xs ys) := by
  have hcf : ∀ (x y : Value) (W : World), (callFunc 73 #[x, y]).run Tryd.prog W = .ok (.enter 73 #[x, y]) W := fun x y W => by kernel_rfl
  have C := Lib.hid (gEach_any 73 (· + ·) (fun x y W hx hy => fAdd_any x y W hx hy) hcf va vb xs ys w h1 h2)
  clear h1 h2 hcf
  go_enter Tryd.func54, Tryd.ntmps54
  go_wp2_with fail
  refine C.out.mono ?_
  rintro e w' ⟨v, rfl, ho, hb⟩
  go_wp2_with fail
  go_ret2
  exact ⟨_, rfl, ho, hb⟩
theorem gSub_any (va vb : Value) (xs ys : List Int) (w : World) (h1 : IsNums w va xs) (h2 : IsNums w vb ys) :
    Calls Tryd.prog 55 #[va, vb] w fun e w' => ListRes w e w' (eachL (· - ·) xs ys) (wire2E xs ys) := by
  have hcf : ∀ (x y : Value) (W : World), (callFunc 74 #[x, y]).run Tryd.prog W = .ok (.enter 74 #[x, y]) W := fun x y W => by kernel_rfl
  have C := Lib.hid (gEach_any 74 (· - ·) (fun x y W hx hy => fSub_any x y W hx hy) hcf va vb xs ys w h1 h2)
  clear h1 h2 hcf
  go_enter Tryd.func55, Tryd.ntmps55
  go_wp2_with fail
  refine C.out.mono ?_
  rintro e w' ⟨v, rfl, ho, hb⟩
  go_wp2_with fail
  go_ret2
  exact ⟨_, rfl, ho, hb⟩
theorem gSame_any (va : Value) (xs : List Int) (x : Int) (w : World) (h1 : IsNums w va xs) (hx : U64 x) :
    Calls Tryd.prog 76 #[va, .int .u64 x] w fun e w' => ∃ v, e = .returned v ∧ OwnNums w' w.heap.size v (List.replicate xs.length x) ∧ Below w.heap.size w w' := by
  obtain ⟨A1, c1, rfl, hc1, hm1, hl1, hu1, hr1⟩ := h1
  clear hr1 hu1 hm1
  generalize xs.length = m at *
  go_enter Tryd.func76, Tryd.ntmps76
  go_wp2_with (refine wpList_make_nums rfl _ _ rfl w.heap.size m m rfl rfl rfl hl1 (Nat.le_refl _) ?_)
  intro w1 ho1 hb1
  have HO := Lib.hid ho1
  have HB := Lib.hid hb1
  clear ho1 hb1
  go_wp2_with fail
  go_loopw [12] (fun i wr => ∃ k : Nat, k ≤ m ∧ i = .int .i64 k ∧ OwnNums wr w.heap.size (.slice (some ⟨w.heap.size, 0, none⟩) m m) (List.replicate k x ++ List.replicate (m - k) 0) ∧ Below w.heap.size w wr) (fun i _ => m - (intOf i).toNat)
  case atStart => exact ⟨0, Nat.zero_le _, rfl, by simpa using HO.out, HB.out⟩
  case round =>
    obtain ⟨k, hk, rfl, hown, hbel⟩ := hrel
    by_cases hlt : k < m
    · have hg : (List.replicate k x ++ List.replicate (m - k) 0)[k]? = some 0 := by
        rw [List.getElem?_append_right (by simp), List.length_replicate, Nat.sub_self, List.getElem?_replicate, if_pos (by omega)]
      have hcell := hown.cell hg
      have hfr := hown.frozen k
      have hset := hown.set_ k hx
      have hs : (List.replicate k x ++ List.replicate (m - k) 0).set k x = List.replicate (k + 1) x ++ List.replicate (m - (k + 1)) 0 := by
        rw [List.set_append_right _ _ (by simp)]
        obtain ⟨d, hd⟩ : ∃ d, m - k = d + 1 := ⟨m - k - 1, by omega⟩
        rw [hd, show m - (k + 1) = d by omega, List.length_replicate, Nat.sub_self, List.replicate_succ, List.set_cons_zero, List.replicate_succ']
        simp
      rw [hs] at hset
      have hle := hown.base_le
      have HO2 := Lib.hid hset
      have HB2 := Lib.hid (hbel.setCell (p := ⟨w.heap.size, k, none⟩) (Nat.le_refl _) (.int .u64 x))
      clear hset hown hbel hg hs hle
      go_wp2_with fail
      refine ⟨⟨k + 1, by omega, by go_num, HO2.out, HB2.out⟩, by simp [intOf]; omega⟩
    · have HO2 := Lib.hid hown
      have HB2 := Lib.hid hbel
      clear hown hbel
      go_wp2_with fail
      go_ret
      obtain rfl : k = m := by omega
      exact ⟨_, rfl, by simpa using HO2.out, HB2.out⟩
theorem zipS_same (op : F → F → F) (xs : List Int) (x : Int) : zipS op xs (List.replicate xs.length x) = xs.map fun y => ofF (op (toF y) (toF x)) := by
  unfold zipS
  apply List.ext_getElem
  · simp
  · intro j h1 h2
    simp
def oneL (op : F → F → F) (xs : List Int) (x : Int) : List Int := if wireE [xs.length] = 0 then xs.map (fun y => ofF (op (toF y) (toF x))) else []
theorem wire2E_same (xs : List Int) (x : Int) : wire2E xs (List.replicate xs.length x) = wireE [xs.length] := by
  unfold wire2E wireE wireB
  simp
theorem eachL_same (op : F → F → F) (xs : List Int) (x : Int) : eachL op xs (List.replicate xs.length x) = oneL op xs x := by
  unfold eachL oneL
  rw [wire2E_same, zipS_same]
theorem ListRes.after {w w1 w' : World} {e : Ending} {l : List Int} {err : Int} (h : ListRes w1 e w' l err) (hb : Below w.heap.size w w1) : ListRes w e w' l err := by
  obtain ⟨v, he, ho, hb2⟩ := h
  exact ⟨v, he, ho.less hb.size, below_trans hb hb2 hb.size⟩
theorem gScale_any (va : Value) (xs : List Int) (x : Int) (w : World) (h1 : IsNums w va xs) (hx : U64 x) :
    Calls Tryd.prog 57 #[va, .int .u64 x] w fun e w' => ListRes w e w' (oneL (· * ·) xs x) (wireE [xs.length]) := by
  have hcf : ∀ (x y : Value) (W : World), (callFunc 77 #[x, y]).run Tryd.prog W = .ok (.enter 77 #[x, y]) W := fun x y W => by kernel_rfl
  have K1 := Lib.hid h1
  have C := Lib.hid (gEach_any 77 (· * ·) (fun x y W hx hy => fMul_any x y W hx hy) hcf)
  clear h1 hcf
  go_enter Tryd.func57, Tryd.ntmps57
  go_wp2_with fail
  refine (gSame_any _ _ _ _ K1.out hx).mono ?_
  rintro e w1 ⟨v, rfl, ho, hb⟩
  have K2 := Lib.hid (K1.out.below hb)
  have K3 := Lib.hid ho
  have K4 := Lib.hid hb
  clear ho hb
  go_wp2_with fail
  refine (C.out _ _ _ _ _ K2.out K3.out.is).mono ?_
  intro e w' hr
  rw [eachL_same, wire2E_same] at hr
  have hr2 := hr.after K4.out
  clear hr
  obtain ⟨v2, rfl, ho, hb⟩ := hr2
  go_wp2_with fail
  go_ret2
  exact ⟨_, rfl, ho, hb⟩
/-! the reference's -/
def wireK (n : Nat) (l : List Nat) (k : Nat) : Bool := decide (1 ≤ (n : Int) ∧ (n : Int) ≤ 9) && (l.take k).all (· == n)
theorem wireK_step {n k m : Nat} {l : List Nat} (h : l[k]? = some m) : wireK n l (k + 1) = (wireK n l k && (m == n)) := by
  unfold wireK
  rw [List.take_add_one, h]
  simp [Bool.and_assoc]
theorem wireK_full (n : Nat) (l : List Nat) : wireK n (n :: l) (l.length + 1) = wireB (n :: l) := by
  unfold wireK wireB
  rw [List.take_of_length_le (by simp)]
  simp only [List.all_cons, beq_self_eq_true, Bool.true_and]
  congr 1
  rw [Bool.eq_iff_iff]; simp; omega
def mixedL (xs ys : List Int) (a b c : Int) : List Int := (List.zipWith (fun x y => toF a * toF x + toF b * toF y + toF c) xs ys).map ofF
theorem mixedL_length (xs ys : List Int) (a b c : Int) : (mixedL xs ys a b c).length = min xs.length ys.length := by simp [mixedL]
theorem mixedL_take {xs ys : List Int} {k : Nat} {x y a b c : Int} (hx : xs[k]? = some x) (hy : ys[k]? = some y) :
    mixedL (xs.take (k + 1)) (ys.take (k + 1)) a b c = mixedL (xs.take k) (ys.take k) a b c ++ [ofF (toF a * toF x + toF b * toF y + toF c)] := by
  obtain ⟨h1, _⟩ := List.getElem?_eq_some_iff.1 hx
  obtain ⟨h2, _⟩ := List.getElem?_eq_some_iff.1 hy
  rw [List.take_add_one, List.take_add_one, hx, hy]
  unfold mixedL
  simp only [Option.toList]
  rw [List.zipWith_append (by simp; omega)]
  simp
theorem mixedL_zero (xs ys : List Int) (a b c : Int) : mixedL (xs.take 0) (ys.take 0) a b c = [] := by simp [mixedL]
end Go.Proofs.YtljpangeodgbkaaDoor
