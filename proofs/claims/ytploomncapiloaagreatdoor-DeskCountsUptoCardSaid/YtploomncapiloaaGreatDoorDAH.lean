/- Parts of the proof, put together by a program: GateW PolyD KeepW. No condition. -/
import Derived.Test.YtploomncapiloaaGreatDoorDAD
import Derived.WalkLawsBesides
namespace Go.Proofs.YtploomncapiloaaGreatDoor
open Go.RowKit Croft
theorem rIn_any (n lo hi : Int) (w : World) :
    Calls Tryz.prog 41 #[.int .i64 n, .int .i64 lo, .int .i64 hi] w fun e w' => e = .returned (.bool (decide (lo ≤ n ∧ n ≤ hi))) ∧ w = w' := by
  by_cases h1 : lo ≤ n
  · by_cases h2 : n ≤ hi
    all_goals
      have hd : decide (lo ≤ n ∧ n ≤ hi) = decide (n ≤ hi) := by simp [h1]
      rw [hd]
      go_enter Tryz.func41, Tryz.ntmps41
      go_wp2
      all_goals (go_ret; exact ⟨by simp [h2], rfl⟩)
  · have hd : decide (lo ≤ n ∧ n ≤ hi) = false := by simp [h1]
    rw [hd]
    go_enter Tryz.func41, Tryz.ntmps41
    go_wp2
    all_goals (go_ret; exact ⟨rfl, rfl⟩)
def wireB : List Nat → Bool
  | [] => false
  | n :: l => decide (1 ≤ n) && decide (n ≤ 9) && l.all (· == n)
def wireE (l : List Nat) : Int := if wireB l = true then 0 else 5
def LensAt (w : World) (b o : Nat) (l : List Nat) : Prop := b < w.heap.size ∧ ∀ j n, l[j]? = some n → ∃ A c, w.cell? ⟨b, o + j, none⟩ = some (.slice A n c) ∧ n ≤ 17592186043904
theorem gForm_any (b o c n : Nat) (l : List Nat) (w : World) (h : LensAt w b o (n :: l)) (hl : l.length ≤ 4) :
    Calls Tryz.prog 160 #[.slice (some ⟨b, o, none⟩) (n :: l).length c] w fun e w' => e = .returned (.int .i64 (wireE (n :: l))) ∧ w = w' := by
  obtain ⟨hb, h⟩ := h
  obtain ⟨A0, c0, hc0, hn0⟩ := h 0 n rfl
  rw [Nat.add_zero] at hc0
  have H := Lib.hid h
  clear h
  simp only [List.length_cons]
  by_cases hbad : 1 ≤ n ∧ n ≤ 9
  · obtain ⟨hg1, hg2⟩ := hbad
    go_enter Tryz.func160, Tryz.ntmps160
    go_wp2_with fail
    go_loop [12] (fun i => ∃ k : Nat, k ≤ l.length + 1 ∧ i = .int .i64 k ∧ (∀ j m, j < k → (n :: l)[j]? = some m → m = n)) (fun i => l.length + 1 - (intOf i).toNat)
    case atStart => exact ⟨0, Nat.zero_le _, rfl, by intro j m hj; omega⟩
    case round =>
      obtain ⟨k, hk, rfl, hall⟩ := hrel
      have HA := Lib.hid hall
      clear hall
      by_cases hlt : k < l.length + 1
      · obtain ⟨m, hm⟩ : ∃ m, (n :: l)[k]? = some m := ⟨_, List.getElem?_eq_getElem (by simpa using hlt)⟩
        obtain ⟨A, cc, hcm, hnm⟩ := H.out k m hm
        have HM := Lib.hid hm
        clear hm
        by_cases hmn : m = n
        · subst hmn
          go_wp2_with fail
          refine ⟨⟨k + 1, by omega, by go_num, ?_⟩, by simp [intOf]; omega⟩
          intro j x hj hx
          by_cases hjk : j = k
          · subst hjk; rw [HM.out] at hx; injection hx with hx; exact hx.symm
          · exact HA.out j x (by omega) hx
        · have hne : ((m : Int) != (n : Int)) = true := by rw [bne_iff_ne]; omega
          have HN := Lib.hid hmn
          clear hmn
          go_wp2_with fail
          go_ret
          refine ⟨?_, rfl⟩
          have : wireB (n :: l) = false := by
            unfold wireB
            have h1 := HM.out
            cases k with
            | zero => simp at h1; exact absurd h1.symm HN.out
            | succ k =>
              simp at h1
              rw [Bool.and_eq_false_iff]
              right
              rw [List.all_eq_false]
              exact ⟨m, List.mem_of_getElem? h1, by simpa using HN.out⟩
          unfold wireE; rw [this]; rfl
      · go_wp2_with fail
        go_ret
        refine ⟨?_, rfl⟩
        have : wireB (n :: l) = true := by
          unfold wireB
          simp only [Bool.and_eq_true, decide_eq_true_eq, List.all_eq_true, beq_iff_eq]
          refine ⟨⟨hg1, hg2⟩, fun x hx => ?_⟩
          obtain ⟨j, hj, hjx⟩ := List.getElem_of_mem hx
          exact HA.out (j + 1) x (by omega) (by simp [hjx, List.getElem?_eq_getElem hj])
        unfold wireE; rw [this]; rfl
  · have hw : wireE (n :: l) = 5 := by
      unfold wireE wireB
      rw [if_neg]
      simp only [Bool.and_eq_true, decide_eq_true_eq]
      intro h; exact hbad h.1
    rw [hw]
    rcases (show n < 1 ∨ 9 < n by omega) with hbad | hbad
    all_goals
      clear hw
      go_enter Tryz.func160, Tryz.ntmps160
      go_wp2_with fail
      go_loop [12] (fun i => i = .int .i64 0) (fun _ => 0)
      case atStart => rfl
      case round =>
        subst hrel
        go_wp2_with fail
        go_ret
        exact ⟨rfl, rfl⟩
def zipS (op : F → F → F) (xs ys : List Int) : List Int := (List.zipWith op (xs.map toF) (ys.map toF)).map ofF
theorem zipS_length (op : F → F → F) (xs ys : List Int) : (zipS op xs ys).length = min xs.length ys.length := by simp [zipS]
theorem zipS_take {op : F → F → F} {xs ys : List Int} {k : Nat} {x y : Int} (hx : xs[k]? = some x) (hy : ys[k]? = some y) : zipS op (xs.take (k + 1)) (ys.take (k + 1)) = zipS op (xs.take k) (ys.take k) ++ [ofF (op (toF x) (toF y))] := by
  obtain ⟨h1, _⟩ := List.getElem?_eq_some_iff.1 hx
  obtain ⟨h2, _⟩ := List.getElem?_eq_some_iff.1 hy
  rw [List.take_add_one, List.take_add_one, hx, hy]
  unfold zipS
  simp only [Option.toList, List.map_append, List.map_cons, List.map_nil]
  rw [List.zipWith_append (by simp; omega)]
  simp
theorem zipS_zero (op : F → F → F) (xs ys : List Int) : zipS op (xs.take 0) (ys.take 0) = [] := by simp [zipS]
def ListRes (w : World) (e : Ending) (w' : World) (l : List Int) (err : Int) : Prop :=
  ∃ v, e = .returned (.tuple #[v, .int .i64 err]) ∧ OwnNums w' w.heap.size v l ∧ Below w.heap.size w w'
def wire2E (xs ys : List Int) : Int := wireE [xs.length, ys.length]
theorem wire2E_ok {xs ys : List Int} (h1 : 1 ≤ xs.length) (h2 : xs.length ≤ 9) (h : ys.length = xs.length) : wire2E xs ys = 0 := by
  unfold wire2E wireE wireB
  simp [h1, h2, h]
theorem wire2E_bad {xs ys : List Int} (h : ¬ (1 ≤ xs.length ∧ xs.length ≤ 9 ∧ ys.length = xs.length)) : wire2E xs ys = 5 := by
  unfold wire2E wireE wireB
  rw [if_neg]
  simp
  intro h1 h2 h3
  exact h ⟨h1, h2, h3⟩
def eachL (op : F → F → F) (xs ys : List Int) : List Int := if wire2E xs ys = 0 then zipS op xs ys else []
theorem gEach_any (g : Nat) (op : F → F → F) (hg : ∀ x y W, 0 ≤ x → 0 ≤ y → Calls Tryz.prog g #[.int .u64 x, .int .u64 y] W fun e w' => e = .returned (.int .u64 (ofF (op (toF x) (toF y)))) ∧ W = w')
    (hcf : ∀ (x y : Value) (W : World), (callFunc g #[x, y]).run Tryz.prog W = .ok (.enter g #[x, y]) W)
    (va vb : Value) (xs ys : List Int) (w : World) (h1 : IsNums w va xs) (h2 : IsNums w vb ys) :
    Calls Tryz.prog 158 #[va, vb, .func (.func g) #[] #[]] w fun e w' => ListRes w e w' (eachL op xs ys) (wire2E xs ys) := by
  have HG := Lib.hid hg
  clear hg
  have k1 := Lib.hid h1
  have k2 := Lib.hid h2
  obtain ⟨A1, c1, rfl, hc1, hm1, hl1, hu1, hr1⟩ := h1
  obtain ⟨A2, c2, rfl, hc2, hm2, hl2, hu2, hr2⟩ := h2
  by_cases hbad : 1 ≤ xs.length ∧ xs.length ≤ 9 ∧ ys.length = xs.length
  · obtain ⟨hb1, hb2, hb3⟩ := hbad
    have hE := wire2E_ok hb1 hb2 hb3
    have HR := Lib.hid (show eachL op xs ys = zipS op xs ys by unfold eachL; rw [if_pos hE])
    have HE := Lib.hid hE
    have HL := Lib.hid hb3
    have hb4 : ys.length ≤ xs.length := by omega
    have hb5 : xs.length ≤ ys.length := by omega
    clear hb3 hE
    go_enter Tryz.func158, Tryz.ntmps158
    go_wp2_with fail
    refine (gForm_any _ 0 _ xs.length [ys.length] _ ?_ (by simp)).mono ?_
    · refine ⟨by simp, fun j m hj => ?_⟩
      match j, hj with
      | 0, hj => simp at hj; subst hj; exact ⟨A1, c1, by simp, hl1⟩
      | 1, hj => simp at hj; subst hj; exact ⟨A2, c2, by simp, hl2⟩
    rintro e w' ⟨rfl, rfl⟩
    rw [show wireE [xs.length, ys.length] = 0 from HE.out]
    go_wp2_with fail
    have HB := Lib.hid ((Below.refl w.heap.size w).alloc (Nat.le_refl _) (.cells #[Value.slice A1 xs.length c1, Value.slice A2 ys.length c2] 64))
    go_loopw [9, 20] (fun v i wr => ∃ k : Nat, k ≤ xs.length ∧ i = .int .i64 k ∧ OwnNums wr w.heap.size v (zipS op (xs.take k) (ys.take k)) ∧ Below w.heap.size w wr) (fun _ i _ => xs.length - (intOf i).toNat)
    case atStart => exact ⟨0, Nat.zero_le _, rfl, by rw [zipS_zero]; exact OwnNums.nil _ _, HB.out⟩
    case round =>
      obtain ⟨k, hk, rfl, hown, hbel⟩ := hrel
      have hsz := hbel.size
      by_cases hlt : k < xs.length
      · have hlt2 : k < ys.length := by omega
        obtain ⟨b1, o1, x, rfl, hb1, hx, hux, hcx⟩ := nums_at (hr1.below hbel) hu1 hlt
        obtain ⟨b2, o2, y, rfl, hb2, hy, huy, hcy⟩ := nums_at (hr2.below hbel) hu2 hlt2
        have HX := Lib.hid hx
        have HY := Lib.hid hy
        have hx0 := hux.1
        have hy0 := huy.1
        have HO := Lib.hid hown
        have HBE := Lib.hid hbel
        clear hx hy hr1 hr2 hb1 hb2 hown hbel
        go_wp2_with fail
        refine wp_region_quiet_tail_from 1 11 (by kernel_rfl) (by kernel_rfl) (fun _ _ _ _ _ h => h) ?_
        simp only [List.take_succ_cons, List.take_zero, List.drop_succ_cons, List.drop_zero, putAll, moved]
        simp [Act.put, Act.eval]
        repeat (go_big_quiet_step ((exact Calls.quiet_of_same ((HG.out _ _ _ hx0 hy0).mono fun _ _ h => ⟨h.1, h.2.symm⟩))))
        refine wpQuiet_nil ?_
        intro nq
        go_wp2_with (at_builtin; refine wpList_push rfl _ _ rfl w.heap.size _ _ (ofF (op (toF x) (toF y))) (wr.drewN nq).heap.size 1 rfl ((HO.out.drewN nq).alloc _) rfl (new_cell _ _ _) (U64.of_ofF _) (by rw [zipS_length]; simp only [List.length_take]; omega) (by simp; omega) ?_)
        intro v' w' hown' hbel'
        go_wp2_with fail
        refine ⟨⟨k + 1, by omega, by go_num, by rw [zipS_take HX.out HY.out]; exact hown', ((below_drewN HBE.out nq).alloc (by simp; omega) _).trans hbel'⟩, by simp [intOf]; omega⟩
      · go_wp2_with fail
        go_ret2
        obtain rfl : k = xs.length := by omega
        rw [HR.out, show wire2E xs ys = 0 from HE.out]
        rw [List.take_length, List.take_of_length_le (by omega)] at hown
        exact ⟨_, rfl, hown, hbel⟩
  · have hE := wire2E_bad hbad
    rw [show eachL op xs ys = [] by unfold eachL; rw [if_neg (by rw [hE]; omega)], hE]
    clear hbad
    have HE := Lib.hid hE
    clear hE
    go_enter Tryz.func158, Tryz.ntmps158
    go_wp2_with fail
    refine (gForm_any _ 0 _ xs.length [ys.length] _ ?_ (by simp)).mono ?_
    · refine ⟨by simp, fun j m hj => ?_⟩
      match j, hj with
      | 0, hj => simp at hj; subst hj; exact ⟨A1, c1, by simp, hl1⟩
      | 1, hj => simp at hj; subst hj; exact ⟨A2, c2, by simp, hl2⟩
    rintro e w' ⟨rfl, rfl⟩
    rw [show wireE [xs.length, ys.length] = 5 from HE.out]
    go_wp2_with fail
    go_ret2
    exact ⟨_, rfl, OwnNums.nil _ _, (Below.refl _ _).alloc (Nat.le_refl _) _⟩
theorem gAdd_any (va vb : Value) (xs ys : List Int) (w : World) (h1 : IsNums w va xs) (h2 : IsNums w vb ys) :
    Calls Tryz.prog 121 #[va, vb] w fun e w' => ListRes w e w' (eachL (· + ·) xs ys) (wire2E xs ys) := by
  have hcf : ∀ (x y : Value) (W : World), (callFunc 152 #[x, y]).run Tryz.prog W = .ok (.enter 152 #[x, y]) W := fun x y W => by kernel_rfl
  have C := Lib.hid (gEach_any 152 (· + ·) (fun x y W hx hy => fAdd_any x y W hx hy) hcf va vb xs ys w h1 h2)
  clear h1 h2 hcf
  go_enter Tryz.func121, Tryz.ntmps121
  go_wp2_with fail
  refine C.out.mono ?_
  rintro e w' ⟨v, rfl, ho, hb⟩
  go_wp2_with fail
  go_ret2
  exact ⟨_, rfl, ho, hb⟩
theorem gSub_any (va vb : Value) (xs ys : List Int) (w : World) (h1 : IsNums w va xs) (h2 : IsNums w vb ys) :
    Calls Tryz.prog 149 #[va, vb] w fun e w' => ListRes w e w' (eachL (· - ·) xs ys) (wire2E xs ys) := by
  have hcf : ∀ (x y : Value) (W : World), (callFunc 157 #[x, y]).run Tryz.prog W = .ok (.enter 157 #[x, y]) W := fun x y W => by kernel_rfl
  have C := Lib.hid (gEach_any 157 (· - ·) (fun x y W hx hy => fSub_any x y W hx hy) hcf va vb xs ys w h1 h2)
  clear h1 h2 hcf
  go_enter Tryz.func149, Tryz.ntmps149
  go_wp2_with fail
  refine C.out.mono ?_
  rintro e w' ⟨v, rfl, ho, hb⟩
  go_wp2_with fail
  go_ret2
  exact ⟨_, rfl, ho, hb⟩
theorem gSame_any (va : Value) (xs : List Int) (x : Int) (w : World) (h1 : IsNums w va xs) (hx : U64 x) :
    Calls Tryz.prog 159 #[va, .int .u64 x] w fun e w' => ∃ v, e = .returned v ∧ OwnNums w' w.heap.size v (List.replicate xs.length x) ∧ Below w.heap.size w w' := by
  obtain ⟨A1, c1, rfl, hc1, hm1, hl1, hu1, hr1⟩ := h1
  clear hr1 hu1 hm1
  generalize xs.length = m at *
  go_enter Tryz.func159, Tryz.ntmps159
  go_wp2_with (refine wpList_make_nums rfl _ _ rfl w.heap.size m m rfl rfl rfl hl1 (Nat.le_refl _) ?_)
  intro w1 ho1 hb1
  have HO := Lib.hid ho1
  have HB := Lib.hid hb1
  clear ho1 hb1
  go_wp2_with fail
  go_loopw [12] (fun i wr => ∃ k : Nat, k ≤ m ∧ i = .int .i64 k ∧ OwnNums wr w.heap.size (.slice (some ⟨w.heap.size, 0, none⟩) m m) (List.replicate k x ++ List.replicate (m - k) 0) ∧ Below w.heap.size w wr) (fun i _ => m - (intOf i).toNat)
  case atStart => exact ⟨0, Nat.zero_le _, rfl, by simpa using HO.out, HB.out⟩
  case round =>
    obtain ⟨k, hk, rfl, hown, hbel⟩ := hrel
    by_cases hlt : k < m
    · have hg : (List.replicate k x ++ List.replicate (m - k) 0)[k]? = some 0 := by
        rw [List.getElem?_append_right (by simp), List.length_replicate, Nat.sub_self, List.getElem?_replicate, if_pos (by omega)]
      have hcell := hown.cell hg
      have hfr := hown.frozen k
      have hset := hown.set_ k hx
      have hs : (List.replicate k x ++ List.replicate (m - k) 0).set k x = List.replicate (k + 1) x ++ List.replicate (m - (k + 1)) 0 := by
        rw [List.set_append_right _ _ (by simp)]
        obtain ⟨d, hd⟩ : ∃ d, m - k = d + 1 := ⟨m - k - 1, by omega⟩
        rw [hd, show m - (k + 1) = d by omega, List.length_replicate, Nat.sub_self, List.replicate_succ, List.set_cons_zero, List.replicate_succ']
        simp
      rw [hs] at hset
      have hle := hown.base_le
      have HO2 := Lib.hid hset
      have HB2 := Lib.hid (hbel.setCell (p := ⟨w.heap.size, k, none⟩) (Nat.le_refl _) (.int .u64 x))
      clear hset hown hbel hg hs hle
      go_wp2_with fail
      refine ⟨⟨k + 1, by omega, by go_num, HO2.out, HB2.out⟩, by simp [intOf]; omega⟩
    · have HO2 := Lib.hid hown
      have HB2 := Lib.hid hbel
      clear hown hbel
      go_wp2_with fail
      go_ret
      obtain rfl : k = m := by omega
      exact ⟨_, rfl, by simpa using HO2.out, HB2.out⟩
theorem zipS_same (op : F → F → F) (xs : List Int) (x : Int) : zipS op xs (List.replicate xs.length x) = xs.map fun y => ofF (op (toF y) (toF x)) := by
  unfold zipS
  apply List.ext_getElem
  · simp
  · intro j h1 h2
    simp
def oneL (op : F → F → F) (xs : List Int) (x : Int) : List Int := if wireE [xs.length] = 0 then xs.map (fun y => ofF (op (toF y) (toF x))) else []
theorem wire2E_same (xs : List Int) (x : Int) : wire2E xs (List.replicate xs.length x) = wireE [xs.length] := by
  unfold wire2E wireE wireB
  simp
theorem eachL_same (op : F → F → F) (xs : List Int) (x : Int) : eachL op xs (List.replicate xs.length x) = oneL op xs x := by
  unfold eachL oneL
  rw [wire2E_same, zipS_same]
theorem ListRes.after {w w1 w' : World} {e : Ending} {l : List Int} {err : Int} (h : ListRes w1 e w' l err) (hb : Below w.heap.size w w1) : ListRes w e w' l err := by
  obtain ⟨v, he, ho, hb2⟩ := h
  exact ⟨v, he, ho.less hb.size, below_trans hb hb2 hb.size⟩
theorem gScale_any (va : Value) (xs : List Int) (x : Int) (w : World) (h1 : IsNums w va xs) (hx : U64 x) :
    Calls Tryz.prog 123 #[va, .int .u64 x] w fun e w' => ListRes w e w' (oneL (· * ·) xs x) (wireE [xs.length]) := by
  have hcf : ∀ (x y : Value) (W : World), (callFunc 153 #[x, y]).run Tryz.prog W = .ok (.enter 153 #[x, y]) W := fun x y W => by kernel_rfl
  have K1 := Lib.hid h1
  have C := Lib.hid (gEach_any 153 (· * ·) (fun x y W hx hy => fMul_any x y W hx hy) hcf)
  clear h1 hcf
  go_enter Tryz.func123, Tryz.ntmps123
  go_wp2_with fail
  refine (gSame_any _ _ _ _ K1.out hx).mono ?_
  rintro e w1 ⟨v, rfl, ho, hb⟩
  have K2 := Lib.hid (K1.out.below hb)
  have K3 := Lib.hid ho
  have K4 := Lib.hid hb
  clear ho hb
  go_wp2_with fail
  refine (C.out _ _ _ _ _ K2.out K3.out.is).mono ?_
  intro e w' hr
  rw [eachL_same, wire2E_same] at hr
  have hr2 := hr.after K4.out
  clear hr
  obtain ⟨v2, rfl, ho, hb⟩ := hr2
  go_wp2_with fail
  go_ret2
  exact ⟨_, rfl, ho, hb⟩
theorem gPlus_any (va : Value) (xs : List Int) (x : Int) (w : World) (h1 : IsNums w va xs) (hx : U64 x) :
    Calls Tryz.prog 122 #[va, .int .u64 x] w fun e w' => ListRes w e w' (oneL (· + ·) xs x) (wireE [xs.length]) := by
  have hcf : ∀ (x y : Value) (W : World), (callFunc 152 #[x, y]).run Tryz.prog W = .ok (.enter 152 #[x, y]) W := fun x y W => by kernel_rfl
  have K1 := Lib.hid h1
  have C := Lib.hid (gEach_any 152 (· + ·) (fun x y W hx hy => fAdd_any x y W hx hy) hcf)
  clear h1 hcf
  go_enter Tryz.func122, Tryz.ntmps122
  go_wp2_with fail
  refine (gSame_any _ _ _ _ K1.out hx).mono ?_
  rintro e w1 ⟨v, rfl, ho, hb⟩
  have K2 := Lib.hid (K1.out.below hb)
  have K3 := Lib.hid ho
  have K4 := Lib.hid hb
  clear ho hb
  go_wp2_with fail
  refine (C.out _ _ _ _ _ K2.out K3.out.is).mono ?_
  intro e w' hr
  rw [eachL_same, wire2E_same] at hr
  have hr2 := hr.after K4.out
  clear hr
  obtain ⟨v2, rfl, ho, hb⟩ := hr2
  go_wp2_with fail
  go_ret2
  exact ⟨_, rfl, ho, hb⟩
theorem OwnNums.form {w : World} {base : Nat} {v : Value} {zs : List Int} (h : OwnNums w base v zs) (hn : 0 < zs.length) : ∃ g cap, v = .slice (some ⟨g, 0, none⟩) zs.length cap ∧ base ≤ g ∧ g < w.heap.size ∧ zs.length ≤ cap ∧ cap ≤ maxLen := by
  rcases h.1.2 with ⟨_, h0⟩ | ⟨g, cap, cur, hv, hb, hg, hc, hm, _⟩
  · omega
  · exact ⟨g, cap, hv, hb, (Array.getElem?_eq_some_iff.1 hg).1, hc, hm⟩
theorem OwnNums.far {w : World} {base g n c : Nat} {zs : List Int} (h : OwnNums w base (.slice (some ⟨g, 0, none⟩) n c) zs) {g' : Nat} (hne : g ≠ g') (k : Nat) (u : Value) : OwnNums (w.setCell ⟨g', k, none⟩ u) base (.slice (some ⟨g, 0, none⟩) n c) zs := by
  refine ⟨?_, h.2⟩
  have hg : w.grownBy (w.setCell ⟨g', k, none⟩ u) (some g') := ⟨rfl, rfl, rfl, by simp [World.setCell], fun i _ hi => Below.heap_setCell _ _ _ _ (by rintro rfl; exact hi rfl)⟩
  exact h.1.kept hg (.inr (by simp [Value.ownBlock, hne]))
structure DivOut (A B Q R : List F) : Prop where
  nq : pnorm Q = Q
  nr : pnorm R = R
  short : R.length < B.length
  eq : pnorm (padd (pmulS Q B) R) = A
  lq : Q.length ≤ A.length + 1
def DivRes (w : World) (e : Ending) (w' : World) (A B : List F) : Prop :=
  ∃ vq vr Q R, e = .returned (.tuple #[vq, vr, .int .i64 0]) ∧ OwnNums w' w.heap.size vq (ofFs Q) ∧ OwnNums w' w.heap.size vr (ofFs R) ∧ DivOut A B Q R ∧ Below w.heap.size w w'
def DivBad (w : World) (e : Ending) (w' : World) (err : Int) : Prop := e = .returned (.tuple #[.slice none 0 0, .slice none 0 0, .int .i64 err]) ∧ Below w.heap.size w w'
set_option maxRecDepth 100000 in
theorem pDiv_small (va vb : Value) (xs ys : List Int) (w : World) (h1 : IsNums w va xs) (h2 : IsNums w vb ys) (hx : xs.length ≤ 40) (hy : ys.length ≤ 40) :
    Calls Tryz.prog 198 #[va, vb] w fun e w' => (pnorm (toFs ys) = [] → DivBad w e w' 4) ∧ (pnorm (toFs ys) ≠ [] → DivRes w e w' (pnorm (toFs xs)) (pnorm (toFs ys))) := by
  have KA := Lib.hid h1
  have KB := Lib.hid h2
  have BEL := Lib.hid (Below.refl w.heap.size w)
  have hlx := pnorm_length (toFs xs)
  have hly := pnorm_length (toFs ys)
  rw [toFs_length] at hlx hly
  obtain ⟨A1, c1, rfl, hc1, hm1, hl1, hu1, hr1⟩ := h1
  obtain ⟨A2, c2, rfl, hc2, hm2, hl2, hu2, hr2⟩ := h2
  clear hr1 hu1 hr2 hu2
  have hx' : ¬ (40 : Int) < (xs.length : Int) := by omega
  have hy' : ¬ (40 : Int) < (ys.length : Int) := by omega
  have hd : decide ((40 : Int) < (xs.length : Int)) = false := by simpa using hx'
  obtain ⟨A, hA⟩ : ∃ A, pnorm (toFs xs) = A := ⟨_, rfl⟩
  obtain ⟨B, hB⟩ : ∃ B, pnorm (toFs ys) = B := ⟨_, rfl⟩
  have hnA : pnorm A = A := by rw [← hA, pnorm_norm]
  have hnB : pnorm B = B := by rw [← hB, pnorm_norm]
  rw [hA] at hlx ⊢
  rw [hB] at hly ⊢
  have EA := Lib.hid hA
  have EB := Lib.hid hB
  have NA := Lib.hid hnA
  have NB := Lib.hid hnB
  clear hA hB hnA hnB
  suffices hgoal : ∀ Post : Ending → World → Prop, (∀ e w', B = [] → DivBad w e w' 4 → Post e w') → (∀ e w', B ≠ [] → DivRes w e w' A B → Post e w') → Calls Tryz.prog 198 #[.slice A1 xs.length c1, .slice A2 ys.length c2] w Post from
    hgoal _ (fun e w' hb h => ⟨fun _ => h, fun hn => absurd hb hn⟩) (fun e w' hb h => ⟨fun hn => absurd hn hb, fun _ => h⟩)
  intro Post hp1 hp2
  have HP1 := Lib.hid hp1
  have HP2 := Lib.hid hp2
  clear hp1 hp2
  go_enter Tryz.func198, Tryz.ntmps198
  go_wp2_with fail
  refine (pNormal_any _ _ _ KA.out).mono ?_
  rintro e W1 ⟨v1, rfl, ho, hb⟩
  rw [EA.out] at ho
  replace KB := Lib.hid (KB.out.below hb)
  replace BEL := Lib.hid (below_trans BEL.out hb BEL.out.size)
  have K1 := Lib.hid ho
  have LT1 := Lib.hid (fun g (hg : v1.ownBlock = some g) => (ho.1.lt g hg).2)
  clear ho hb KA
  go_wp2_with fail
  refine (pNormal_any _ _ _ KB.out).mono ?_
  rintro e W2 ⟨v2, rfl, ho, hb⟩
  rw [EB.out] at ho
  have hs1 := BEL.out.size
  have hs2 := hb.size
  replace K1 := Lib.hid (K1.out.below hb)
  replace BEL := Lib.hid (below_trans BEL.out hb BEL.out.size)
  have K2 := Lib.hid ho
  clear ho hb KB
  dsimp only
  by_cases hB0 : B.length = 0
  · obtain ⟨A', c', hv, _, _⟩ := own_form K2.out.1
    subst hv
    rw [ofFs_length]
    have he : ((B.length : Int) == 0) = true := by rw [beq_iff_eq]; omega
    have HB0 := Lib.hid (List.eq_nil_of_length_eq_zero hB0)
    clear hB0
    go_wp2_with fail
    go_ret3
    exact HP1.out _ _ HB0.out ⟨rfl, BEL.out⟩
  have heB : ((B.length : Int) == 0) = false := by rw [beq_eq_false_iff_ne]; omega
  have hB1 : 1 ≤ B.length := by omega
  have HBN := Lib.hid (show B ≠ [] by rintro rfl; simp at hB0)
  clear hB0
  by_cases hAB : A.length < B.length
  · obtain ⟨A', c', hv, _, _⟩ := own_form K2.out.1
    obtain ⟨A'', c'', hv2, _, _⟩ := own_form K1.out.1
    subst hv hv2
    rw [ofFs_length, ofFs_length]
    have hlt : (A.length : Int) < (B.length : Int) := by omega
    have HAB := Lib.hid hAB
    clear hAB
    go_wp2_with fail
    go_ret3
    have k1 := K1.out
    rw [ofFs_length] at k1
    refine HP2.out _ _ HBN.out ⟨_, _, [], A, rfl, OwnNums.nil _ _, k1, ⟨rfl, NA.out, HAB.out, ?_, by simp⟩, BEL.out⟩
    rw [show pmulS [] B = [] from if_pos (.inl rfl), show padd [] A = A from rfl, NA.out]
  · obtain ⟨ga, ca, hv1, hga1, hga2, hca, hcam⟩ := K1.out.form (by rw [ofFs_length]; omega)
    obtain ⟨gb, cb, hv2, hgb1, hgb2, hcb, hcbm⟩ := K2.out.form (by rw [ofFs_length]; omega)
    have hgab := LT1.out ga (by rw [hv1]; rfl)
    rw [ofFs_length] at hv1 hv2 hca hcb
    subst hv1 hv2
    obtain ⟨N, hN⟩ : ∃ N, N = A.length - B.length + 1 := ⟨_, rfl⟩
    have hN1 : N + B.length ≤ A.length + 1 := by omega
    have hN2 : A.length + 1 ≤ N + B.length := by omega
    have HN := Lib.hid hN
    have hlt : ¬ (A.length : Int) < (B.length : Int) := by omega
    have hAB' : B.length ≤ A.length := by omega
    obtain ⟨t, ht⟩ : ∃ t, t = B.length - 1 := ⟨_, rfl⟩
    have ht1 : B.length ≤ t + 1 := by omega
    have ht2 : t + 1 ≤ B.length := by omega
    have hbl := K2.out.cell (ofFs_get (get_co (l := B) (j := t) (by omega)))
    have HV := Lib.hid (mul_inv (by rw [ht]; exact pnorm_full NB.out HBN.out : co B t ≠ 0))
    have HZ := Lib.hid (show zErr (co B t) = 0 by unfold zErr; rw [if_neg (by rw [ht]; exact pnorm_full NB.out HBN.out)])
    have HT := Lib.hid ht
    have hi1 : ((B.length : Int) - 1).toNat = t := by omega
    clear hAB hN ht
    go_wp2_with fail
    refine (fInv_any _ _ (ofF_nonneg _)).mono ?_
    rintro e w' ⟨rfl, rfl⟩
    rw [toF_ofF, HZ.out]
    clear hbl hi1
    obtain ⟨v, hv⟩ : ∃ v, inv (co B t) = v := ⟨_, rfl⟩
    rw [hv]
    rw [hv] at HV
    clear hv HZ
    go_wp2_with (refine wpList_make_nums rfl _ _ rfl W2.heap.size _ N rfl rfl (by omega) (by omega) (Nat.le_refl _) ?_)
    intro W3 ho3 hb3
    have K3 := Lib.hid (show OwnNums W3 W2.heap.size (.slice (some ⟨W2.heap.size, 0, none⟩) N N) (ofFs (List.replicate N 0)) by
      have : ofFs (List.replicate N 0) = List.replicate N 0 := by simp [ofFs, ofF_zero]
      rw [this]; exact ho3)
    replace K1 := Lib.hid (K1.out.below hb3)
    replace K2 := Lib.hid (K2.out.below hb3)
    have hs3 := BEL.out.size
    have hs4 := hb3.size
    replace BEL := Lib.hid (below_trans BEL.out hb3 BEL.out.size)
    have ST := Lib.hid (by have h := DivInv.start A B hB1 hAB'; rw [← HN.out] at h; exact h)
    clear ho3 hb3
    go_wp2_with fail
    go_loopw [10] (fun i wr => ∃ (m : Nat) (q a : List F), m ≤ N ∧ i = .int .i64 ((m : Int) - 1) ∧ DivInv A B q a m ∧ OwnNums wr w.heap.size (.slice (some ⟨ga, 0, none⟩) A.length ca) (ofFs a) ∧ OwnNums wr W1.heap.size (.slice (some ⟨gb, 0, none⟩) B.length cb) (ofFs B) ∧ OwnNums wr W2.heap.size (.slice (some ⟨W2.heap.size, 0, none⟩) N N) (ofFs q) ∧ Below w.heap.size w wr) (fun i _ => (intOf i + 1).toNat)
    case atStart => exact ⟨N, List.replicate N 0, A, Nat.le_refl _, by go_num, ST.out, K1.out, K2.out, K3.out, BEL.out⟩
    case round =>
      obtain ⟨m, q, a, hm, rfl, hinv, hoa, hob, hoq, hbel⟩ := hrel
      clear K1 K2 K3 BEL ST
      have HI := Lib.hid hinv
      have hqN : q.length = N := by rw [hinv.lq, ← HN.out]
      have hlq : N ≤ q.length := by omega
      have haA := hinv.la
      have hla : A.length ≤ a.length := by omega
      clear hinv hqN haA
      by_cases h0 : m = 0
      · subst h0
        have D := Lib.hid (HI.out.done hB1)
        have HA' := Lib.hid hoa
        have HQ := Lib.hid hoq.is
        have HB' := Lib.hid hbel
        have hsz := hbel.size
        clear hoa hob hoq hbel
        go_wp2_with fail
        refine (pNormal_any _ _ _ HQ.out).mono ?_
        rintro e W4 ⟨v4, rfl, ho, hb⟩
        rw [toFs_ofFs] at ho
        have K4 := Lib.hid ho
        have KA := Lib.hid (HA'.out.is.below hb)
        have hsz2 := hb.size
        have BEL := Lib.hid (below_trans HB'.out hb hsz)
        clear ho hb HA' HQ HB'
        dsimp only
        go_wp2_with fail
        refine (pNormal_any _ _ _ KA.out).mono ?_
        rintro e W5 ⟨v5, rfl, ho, hb⟩
        rw [toFs_ofFs] at ho
        have K5 := Lib.hid (ho.less BEL.out.size)
        replace K4 := Lib.hid ((K4.out.below hb).less hsz)
        replace BEL := Lib.hid (below_trans BEL.out hb BEL.out.size)
        clear ho hb KA
        dsimp only
        go_wp2_with fail
        go_ret3
        obtain ⟨d1, d2⟩ := D.out
        rw [NA.out] at d2
        exact HP2.out _ _ HBN.out ⟨_, _, pnorm q, pnorm a, rfl, K4.out, K5.out, ⟨pnorm_norm _, pnorm_norm _, d1, d2, by have := pnorm_length q; have := HI.out.lq; omega⟩, BEL.out⟩
      · obtain ⟨j, rfl⟩ : ∃ j, m = j + 1 := ⟨m - 1, by omega⟩
        have hjt : j + t < a.length := by omega
        have hca := hoa.cell (ofFs_get (get_co hjt))
        have hi : ((j : Int) + (B.length : Int) - 1).toNat = j + t := by omega
        have hcq := hoq.cell (ofFs_get (get_co (l := q) (j := j) (by omega)))
        have hfq := hoq.frozen j
        obtain ⟨c, hc⟩ : ∃ c, c = co a (j + t) * v := ⟨_, rfl⟩
        have HC := Lib.hid hc
        have hoq2 := hoq.set_ j (U64.of_ofF c)
        rw [ofFs_set] at hoq2
        have HQ := Lib.hid hoq2
        have HA' := Lib.hid (hoa.far (g' := W2.heap.size) (by omega) j (.int .u64 (ofF c)))
        have HB' := Lib.hid (hob.far (g' := W2.heap.size) (by omega) j (.int .u64 (ofF c)))
        have HBE := Lib.hid (hbel.setCell (p := ⟨W2.heap.size, j, none⟩) (show w.heap.size ≤ W2.heap.size by omega) (.int .u64 (ofF c)))
        have STEP := Lib.hid (HI.out.step hB1 hAB' (show j < q.length by omega) c v (by rw [hc]; congr 2; have := HT.out; omega) (by rw [← HT.out]; exact HV.out))
        clear hoa hob hoq hoq2 hbel hc h0
        go_wp2_with fail
        refine (fMul_any _ _ _ (ofF_nonneg _) (ofF_nonneg _)).mono ?_
        rintro e w' ⟨rfl, rfl⟩
        rw [toF_ofF, toF_ofF, ← HC.out]
        dsimp only
        go_wp2_with fail
        clear hca hcq hfq hi
        obtain ⟨wo, hwo⟩ : ∃ wo, wo = wr.setCell ⟨W2.heap.size, j, none⟩ (.int .u64 (ofF c)) := ⟨_, rfl⟩
        rw [← hwo] at HQ HA' HB' HBE ⊢
        clear hwo
        go_loopw [73] (fun i wr => ∃ p : Nat, p ≤ B.length ∧ i = .int .i64 p ∧ OwnNums wr w.heap.size (.slice (some ⟨ga, 0, none⟩) A.length ca) (ofFs (subAt a j c B p)) ∧ OwnNums wr W1.heap.size (.slice (some ⟨gb, 0, none⟩) B.length cb) (ofFs B) ∧ OwnNums wr W2.heap.size (.slice (some ⟨W2.heap.size, 0, none⟩) N N) (ofFs (q.set j c)) ∧ Below w.heap.size w wr) (fun i _ => B.length - (intOf i).toNat)
        case atStart => exact ⟨0, Nat.zero_le _, rfl, by rw [subAt_zero]; exact HA'.out, HB'.out, HQ.out, HBE.out⟩
        case round =>
          obtain ⟨p, hp, rfl, hoa, hob, hoq, hbel⟩ := hrel
          clear HQ HA' HB' HBE
          by_cases hlt2 : p < B.length
          · have hcb := hob.cell (ofFs_get (get_co hlt2))
            have hcq := hoq.cell (ofFs_get (show (q.set j c)[j]? = some c by rw [List.getElem?_set_self (by omega)]))
            have hca := hoa.cell (ofFs_get (get_co (l := subAt a j c B p) (j := j + p) (by rw [subAt_length]; omega)))
            have hfa := hoa.frozen (j + p)
            obtain ⟨s, hs⟩ : ∃ s, s = co (subAt a j c B p) (j + p) := ⟨_, rfl⟩
            obtain ⟨y, hy⟩ : ∃ y, y = co B p := ⟨_, rfl⟩
            have hoa2 := hoa.set_ (j + p) (U64.of_ofF (s - c * y))
            rw [ofFs_set, hs, hy, subAt_set] at hoa2
            rw [← hs] at hca
            rw [← hy] at hcb
            have HS := Lib.hid hs
            have HY := Lib.hid hy
            have HA' := Lib.hid hoa2
            have HB' := Lib.hid (hob.far (g' := ga) (by omega) (j + p) (.int .u64 (ofF (s - c * y))))
            have HQ := Lib.hid (hoq.far (g' := ga) (by omega) (j + p) (.int .u64 (ofF (s - c * y))))
            have HBE := Lib.hid (hbel.setCell (p := ⟨ga, j + p, none⟩) hga1 (.int .u64 (ofF (s - c * y))))
            rw [← HS.out, ← HY.out] at HA'
            have hjp : j + p < A.length := by omega
            have hjN : j < N := by omega
            clear hoa hob hoq hoa2 hbel hs hy
            go_wp2_with fail
            refine wp_region_quiet_tail 18 (by kernel_rfl) (by kernel_rfl) ?_
            simp only [List.take_succ_cons, List.take_zero, List.drop_succ_cons, List.drop_zero]
            repeat (go_big_quiet_step ((first | exact quietL (fMul_any _ _ _ (ofF_nonneg _) (ofF_nonneg _)) | exact quietL (fSub_any _ _ _ (ofF_nonneg _) (ofF_nonneg _)))))
            refine wpQuiet_nil ?_
            intro nq
            go_wp2_with fail
            simp only [toF_ofF]
            refine ⟨⟨p + 1, by omega, by go_num, HA'.out.drewN nq, HB'.out.drewN nq, HQ.out.drewN nq, below_drewN HBE.out nq⟩, by simp [intOf]; omega⟩
          · have HA' := Lib.hid hoa
            have HB' := Lib.hid hob
            have HQ := Lib.hid hoq
            have HBE := Lib.hid hbel
            clear hoa hob hoq hbel
            go_wp2_with fail
            obtain rfl : p = B.length := by omega
            exact ⟨⟨j, q.set j c, subAt a j c B B.length, by omega, by go_num, STEP.out, HA'.out, HB'.out, HQ.out, HBE.out⟩, by simp [intOf] <;> omega⟩
theorem Cells.take {w : World} {A : Option Addr} {cs : List Value} (h : Cells w A cs) (n : Nat) : Cells w A (cs.take n) := by
  rcases h with rfl | ⟨b, o, rfl, hb, hc⟩
  · exact .inl (by simp)
  · refine .inr ⟨b, o, rfl, hb, fun j hj => ?_⟩
    simp only [List.length_take] at hj
    rw [hc j (by omega), List.getElem?_take, if_pos (by omega)]
theorem u64s_take (zs : List Int) (n : Nat) : u64s (zs.take n) = (u64s zs).take n := by simp [u64s, List.map_take]
theorem lit_nums (w : World) (zs : List Int) (h : ∀ z ∈ zs, U64 z) (hl : zs.length ≤ 1000) : IsNums (w.alloc (.cells (u64s zs).toArray 67)) (.slice (some ⟨w.heap.size, 0, none⟩) zs.length zs.length) zs := by
  refine ⟨_, _, rfl, Nat.le_refl _, by unfold maxLen; omega, by omega, h, .inr ⟨_, 0, rfl, by simp, fun j hj => ?_⟩⟩
  rw [Nat.zero_add, cell_of_row _ _ j _ _ (0, 0) (heap_alloc_new w _)]
  simp
theorem div_unique {B Q R Q' R' : List F} (hB : B ≠ []) (hnB : pnorm B = B) (hQ : pnorm Q = Q) (hR : pnorm R = R) (hQ' : pnorm Q' = Q') (hR' : pnorm R' = R') (hl : R.length < B.length) (hl' : R'.length < B.length)
    (h : pnorm (padd (pmulS Q B) R) = pnorm (padd (pmulS Q' B) R')) : Q = Q' ∧ R = R' := by
  have hco : ∀ k, co (pmulS Q B) k + co R k = co (pmulS Q' B) k + co R' k := fun k => by
    rw [← co_add, ← co_add, ← pnorm_co, h, pnorm_co]
  have hd : pnorm (padd Q (pscale (-1) Q')) = [] := by
    by_cases hne : pnorm (padd Q (pscale (-1) Q')) = []
    · exact hne
    · exfalso
      have hn := pnorm_norm (padd Q (pscale (-1) Q'))
      have hco2 : ∀ i, co (pnorm (padd Q (pscale (-1) Q'))) i = co Q i - co Q' i := fun i => by rw [pnorm_co, co_add, co_scale]; grind
      generalize pnorm (padd Q (pscale (-1) Q')) = D at *
      have hpn := pmulS_normal hn hnB
      have hlen : (pmulS D B).length = D.length + B.length - 1 := by rw [pmulS_length, if_neg (by simp [hne, hB])]
      have hDl := List.length_pos_iff.2 hne
      have hne2 : pmulS D B ≠ [] := by intro e; rw [e] at hlen; simp at hlen; omega
      have hf := pnorm_full hpn hne2
      have hz : co (pmulS D B) ((pmulS D B).length - 1) = co R' ((pmulS D B).length - 1) - co R ((pmulS D B).length - 1) := by
        have e : co (pmulS D B) ((pmulS D B).length - 1) = co (pmulS Q B) ((pmulS D B).length - 1) - co (pmulS Q' B) ((pmulS D B).length - 1) := by
          generalize (pmulS D B).length - 1 = k
          rw [co_mulS, co_mulS, co_mulS]
          have : ∀ i, co D i * co B (k - i) = co Q i * co B (k - i) + (-1) * (co Q' i * co B (k - i)) := fun i => by rw [hco2]; grind
          rw [fsum_congr (fun i _ => this i), fsum_add, fsum_mul]; grind
        have := hco ((pmulS D B).length - 1)
        rw [e]; grind
      rw [co_of_le (l := R') (by omega), co_of_le (l := R) (by omega), F_sz] at hz
      exact hf hz
  have hQQ : Q = Q' := by
    rw [← hQ, ← hQ']
    apply pnorm_ext
    intro i
    have := Zero.iff_co.1 ((pnorm_nil_iff _).1 hd) i
    rw [co_add, co_scale] at this
    grind
  refine ⟨hQQ, ?_⟩
  subst hQQ
  rw [← hR, ← hR']
  apply pnorm_ext
  intro i
  have := hco i
  grind
end Go.Proofs.YtploomncapiloaaGreatDoor
