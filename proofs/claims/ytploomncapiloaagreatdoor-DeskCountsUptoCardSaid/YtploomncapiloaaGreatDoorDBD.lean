/- Parts of the proof, put together by a program: DeskD DeskX DeskL DeskN. No condition. -/
import Derived.Test.YtploomncapiloaaGreatDoorDBC
namespace Go.Proofs.YtploomncapiloaaGreatDoor
open Go.RowKit Go.Sort Go.PlainAid Croft
def ClosOf (F : Nat) (f : Keep → List UInt8 × Keep) (n : List Int) : Prop := ∀ (base kb mb lo bk bn : Nat) (k : Keep) (va : Value) (w : World), Held w base kb mb lo bk bn k va n → Calls Tryz.prog F #[.pointer (some ⟨bk, 0, none⟩), .pointer (some ⟨bn, 0, none⟩)] w fun e w' => KRes base kb mb (f k) w e w'
theorem clos1 (n : List Int) : ClosOf 63 (genA n) n := fun _ _ _ _ bk bn k va w H => keyed1_any n bk bn k va w H
theorem clos2 (n : List Int) (h : 1 ≤ n.length) : ClosOf 66 (refreshA (n.getD 0 0) (n.drop 1)) n := by
  match n, h with
  | z0 :: r, _ => exact fun _ _ _ _ bk bn k va w H => keyed2_any z0 r bk bn k va w H
theorem clos3 (n : List Int) (h : n.length = 2) : ClosOf 68 (tweakA (n.getD 0 0) (n.getD 1 0)) n := by
  match n, h with
  | [z0, z1], _ => exact fun _ _ _ _ bk bn k va w H => keyed3_any z0 z1 bk bn k va w H
theorem clos4 (n : List Int) (h : n.length = 4) : ClosOf 70 (combineA (n.getD 0 0) (n.getD 1 0) (n.getD 2 0) (n.getD 3 0)) n := by
  match n, h with
  | [z0, z1, z2, z3], _ => exact fun _ _ _ _ bk bn k va w H => keyed4_any z0 z1 z2 z3 bk bn k va w H
theorem clos5 (n : List Int) (h : 2 ≤ n.length) : ClosOf 72 (multiplyA (n.getD 0 0) (n.getD 1 0) (n.drop 2)) n := by
  match n, h with
  | z0 :: z1 :: r, _ => exact fun _ _ _ _ bk bn k va w H => keyed5_any z0 z1 r bk bn k va w H
theorem clos6 (n : List Int) (h : n.length = 1) : ClosOf 74 (keyA (n.getD 0 0)) n := by
  match n, h with
  | [z0], _ => exact fun _ _ _ _ bk bn k va w H => keyed6_any z0 bk bn k va w H
theorem clos7 (n : List Int) (h : n.length = 1) : ClosOf 76 (dropA (n.getD 0 0)) n := by
  match n, h with
  | [z0], _ => exact fun _ _ _ _ bk bn k va w H => keyed7_any z0 bk bn k va w H
def FunRes (w : World) (kp va : Value) (n : List Int) (o : Option (Keep → List UInt8 × Keep)) (e : Ending) (w' : World) : Prop :=
  (match o with
    | none => e = .returned .nilFunc
    | some f => ∃ F bk bn, e = .returned (.func (.func F) #[] #[.pointer (some ⟨bk, 0, none⟩), .pointer (some ⟨bn, 0, none⟩)]) ∧ (∀ (x y : Value) (W : World), (callFunc F #[x, y]).run Tryz.prog W = .ok (.enter F #[x, y]) W) ∧ ClosOf F f n ∧
      w.heap.size ≤ bk ∧ w.heap.size ≤ bn ∧ bk < w'.heap.size ∧ bn < w'.heap.size ∧ w'.cell? ⟨bk, 0, none⟩ = some kp ∧ w'.cell? ⟨bn, 0, none⟩ = some va) ∧ Below w.heap.size w w'
set_option maxRecDepth 100000 in
set_option maxHeartbeats 4000000 in
theorem keyed_any (db : Nat) (v : List UInt8) (va : Value) (pa : Option Addr) (n : List Int) (w : World) (tx : Value) (hd : Box w db 32 [tx, .pointer pa]) (h1 : IsInts w va n) :
    Calls Tryz.prog 32 #[.pointer (some ⟨db, 0, none⟩), .string (bs v), va] w fun e w' => FunRes w (.pointer pa) va n (keyedK v n) e w' := by
  obtain ⟨A3, c3, rfl, _, _, hl3, _⟩ := h1
  have hkp : w.cell? ⟨db, 1, none⟩ = some (.pointer pa) := hd.cell (i := 1) rfl
  have hlt := hd.lt
  obtain ⟨N, hN⟩ : ∃ N, N = n.length := ⟨_, rfl⟩
  rw [← hN] at hl3 ⊢
  suffices hgoal : ∀ Post : Ending → World → Prop, (∀ e w', FunRes w (.pointer pa) (.slice A3 N c3) n (keyedK v n) e w' → Post e w') → Calls Tryz.prog 32 #[.pointer (some ⟨db, 0, none⟩), .string (bs v), .slice A3 N c3] w Post from hgoal _ fun e w' h => h
  intro Post hpo
  have HP := Lib.hid hpo
  have HNL := Lib.hid hN
  obtain ⟨sv, hsv⟩ : ∃ sv, sv = bs v := ⟨_, rfl⟩
  rw [← hsv]
  obtain ⟨w1, hw1⟩ : ∃ w1, w1 = w.alloc (.cells #[.slice A3 N c3] 53) := ⟨_, rfl⟩
  have B1 := Lib.hid (show Below w.heap.size w w1 by rw [hw1]; exact (Below.refl w.heap.size w).alloc (Nat.le_refl _) _)
  have X1 := Lib.hid (show Box w1 w.heap.size 53 [.slice A3 N c3] by rw [hw1]; exact Box.new _ _ _)
  have hkp1 := (B1.out.cell (p := ⟨db, 1, none⟩) hlt).trans hkp
  have hs1 : w1.heap.size = w.heap.size + 1 := by rw [hw1, size_alloc]
  have hkp2 := hkp1
  rw [hw1] at hkp2
  obtain ⟨w2, hw2⟩ : ∃ w2, w2 = w1.alloc (.cells #[.pointer pa] 30) := ⟨_, rfl⟩
  have B2 := Lib.hid (show Below w1.heap.size w1 w2 by rw [hw2]; exact (Below.refl w1.heap.size w1).alloc (Nat.le_refl _) _)
  have X2 := Lib.hid (show Box w2 (w.heap.size + 1) 30 [.pointer pa] by rw [hw2, ← hs1]; exact Box.new w1 30 [.pointer pa])
  have hz2 : w2.heap.size = w.heap.size + 2 := by rw [hw2, size_alloc, hs1]
  have n0 := (B2.out.cell (p := ⟨w.heap.size, 0, none⟩) (by show w.heap.size < w1.heap.size; omega)).trans (X1.out.cell (i := 0) rfl)
  have HC := Lib.hid (show Below w.heap.size w w2 ∧ w2.cell? ⟨w.heap.size + 1, 0, none⟩ = some (.pointer pa) ∧ w2.cell? ⟨w.heap.size, 0, none⟩ = some (.slice A3 N c3) ∧ w.heap.size ≤ w.heap.size + 1 ∧ w.heap.size + 1 < w2.heap.size ∧ w.heap.size < w2.heap.size from
    ⟨below_trans B1.out B2.out (by omega), X2.out.cell (i := 0) rfl, n0, by omega, by omega, by omega⟩)
  have HNO := Lib.hid (show keyedK v n = none → Post (.returned .nilFunc) w2 from fun h => HP.out _ _ (by unfold FunRes; rw [h]; exact ⟨rfl, HC.out.1⟩))
  have HYES := Lib.hid (show ∀ F f, keyedK v n = some f → (∀ (x y : Value) (W : World), (callFunc F #[x, y]).run Tryz.prog W = .ok (.enter F #[x, y]) W) → ClosOf F f n → Post (.returned (.func (.func F) #[] #[.pointer (some ⟨w.heap.size + 1, 0, none⟩), .pointer (some ⟨w.heap.size, 0, none⟩)])) w2 from fun F f h hcf hcl => HP.out _ _ (by
    unfold FunRes; rw [h]
    exact ⟨⟨F, _, _, rfl, hcf, hcl, HC.out.2.2.2.1, Nat.le_refl _, HC.out.2.2.2.2.1, HC.out.2.2.2.2.2, HC.out.2.1, HC.out.2.2.1⟩, HC.out.1⟩))
  have HSV := Lib.hid hsv
  have hmf : ∀ (fn : Fn) (first cap : Array Value) (w : World), (Instr.makeFunc fn first cap).run Tryz.prog w = .ok (.func fn first cap) w := fun _ _ _ _ => rfl
  have HW1 := Lib.hid hw1
  have HW2 := Lib.hid hw2
  clear hpo hd hN hkp hkp1 hw1 hw2 hs1 hz2 n0
  by_cases n_Gen : v = wGen
  · have t_Gen : (sv.toList == [103, 101, 110]) = true := by rw [hsv, bs_toList, n_Gen]; rfl
    have t_Refresh : (sv.toList == [114, 101, 102, 114, 101, 115, 104]) = false := by rw [hsv, bs_toList, n_Gen]; decide
    have t_Tweak : (sv.toList == [116, 119, 101, 97, 107]) = false := by rw [hsv, bs_toList, n_Gen]; decide
    have t_Combine : (sv.toList == [99, 111, 109, 98, 105, 110, 101]) = false := by rw [hsv, bs_toList, n_Gen]; decide
    have t_Multiply : (sv.toList == [109, 117, 108, 116, 105, 112, 108, 121]) = false := by rw [hsv, bs_toList, n_Gen]; decide
    have t_Key : (sv.toList == [107, 101, 121]) = false := by rw [hsv, bs_toList, n_Gen]; decide
    have t_Drop : (sv.toList == [100, 114, 111, 112]) = false := by rw [hsv, bs_toList, n_Gen]; decide
    have HK := Lib.hid (HYES.out 63 _ (by unfold keyedK; rw [if_pos n_Gen]) (fun x y W => by kernel_rfl) (clos1 n))
    clear hsv n_Gen
    go_enter Tryz.func32, Tryz.ntmps32
    go_wp2_with fail
    have hk := HK.out
    rw [HW2.out, HW1.out] at hk
    exact hk
  by_cases n_Refresh : v = wRefresh
  · have t_Gen : (sv.toList == [103, 101, 110]) = false := by rw [hsv, bs_toList, n_Refresh]; decide
    have t_Refresh : (sv.toList == [114, 101, 102, 114, 101, 115, 104]) = true := by rw [hsv, bs_toList, n_Refresh]; rfl
    have t_Tweak : (sv.toList == [116, 119, 101, 97, 107]) = false := by rw [hsv, bs_toList, n_Refresh]; decide
    have t_Combine : (sv.toList == [99, 111, 109, 98, 105, 110, 101]) = false := by rw [hsv, bs_toList, n_Refresh]; decide
    have t_Multiply : (sv.toList == [109, 117, 108, 116, 105, 112, 108, 121]) = false := by rw [hsv, bs_toList, n_Refresh]; decide
    have t_Key : (sv.toList == [107, 101, 121]) = false := by rw [hsv, bs_toList, n_Refresh]; decide
    have t_Drop : (sv.toList == [100, 114, 111, 112]) = false := by rw [hsv, bs_toList, n_Refresh]; decide
    by_cases hc : 1 ≤ n.length
    · have hNL := HNL.out
      have d1 : (N : Int) ≥ 1 := by omega
      have d2 : decide ((N : Int) ≥ 1) = true := decide_eq_true d1
      have HK := Lib.hid (HYES.out 66 _ (by unfold keyedK; rw [if_neg (by rw [n_Refresh]; decide), if_pos n_Refresh, if_pos hc]) (fun x y W => by kernel_rfl) (clos2 n hc))
      clear hsv n_Refresh hc hNL
      go_enter Tryz.func32, Tryz.ntmps32
      go_wp2_with fail
      have hk := HK.out
      rw [HW2.out, HW1.out] at hk
      exact hk
    · have hNL := HNL.out
      have d1 : ¬ (N : Int) ≥ 1 := by omega
      have d2 : decide ((N : Int) ≥ 1) = false := decide_eq_false d1
      have HK := Lib.hid (HNO.out (by unfold keyedK; rw [if_neg (by rw [n_Refresh]; decide), if_pos n_Refresh, if_neg hc]))
      clear hsv n_Refresh hc hNL
      go_enter Tryz.func32, Tryz.ntmps32
      go_wp2_with fail
      have hk := HK.out
      rw [HW2.out, HW1.out] at hk
      exact hk
  by_cases n_Tweak : v = wTweak
  · have t_Gen : (sv.toList == [103, 101, 110]) = false := by rw [hsv, bs_toList, n_Tweak]; decide
    have t_Refresh : (sv.toList == [114, 101, 102, 114, 101, 115, 104]) = false := by rw [hsv, bs_toList, n_Tweak]; decide
    have t_Tweak : (sv.toList == [116, 119, 101, 97, 107]) = true := by rw [hsv, bs_toList, n_Tweak]; rfl
    have t_Combine : (sv.toList == [99, 111, 109, 98, 105, 110, 101]) = false := by rw [hsv, bs_toList, n_Tweak]; decide
    have t_Multiply : (sv.toList == [109, 117, 108, 116, 105, 112, 108, 121]) = false := by rw [hsv, bs_toList, n_Tweak]; decide
    have t_Key : (sv.toList == [107, 101, 121]) = false := by rw [hsv, bs_toList, n_Tweak]; decide
    have t_Drop : (sv.toList == [100, 114, 111, 112]) = false := by rw [hsv, bs_toList, n_Tweak]; decide
    by_cases hc : n.length = 2
    · have hNL := HNL.out
      have d2 : ((N : Int) == 2) = true := by rw [beq_iff_eq]; omega
      have HK := Lib.hid (HYES.out 68 _ (by unfold keyedK; rw [if_neg (by rw [n_Tweak]; decide), if_neg (by rw [n_Tweak]; decide), if_pos n_Tweak, if_pos hc]) (fun x y W => by kernel_rfl) (clos3 n hc))
      clear hsv n_Tweak hc hNL
      go_enter Tryz.func32, Tryz.ntmps32
      go_wp2_with fail
      have hk := HK.out
      rw [HW2.out, HW1.out] at hk
      exact hk
    · have hNL := HNL.out
      have d2 : ((N : Int) == 2) = false := by rw [beq_eq_false_iff_ne]; omega
      have HK := Lib.hid (HNO.out (by unfold keyedK; rw [if_neg (by rw [n_Tweak]; decide), if_neg (by rw [n_Tweak]; decide), if_pos n_Tweak, if_neg hc]))
      clear hsv n_Tweak hc hNL
      go_enter Tryz.func32, Tryz.ntmps32
      go_wp2_with fail
      have hk := HK.out
      rw [HW2.out, HW1.out] at hk
      exact hk
  by_cases n_Combine : v = wCombine
  · have t_Gen : (sv.toList == [103, 101, 110]) = false := by rw [hsv, bs_toList, n_Combine]; decide
    have t_Refresh : (sv.toList == [114, 101, 102, 114, 101, 115, 104]) = false := by rw [hsv, bs_toList, n_Combine]; decide
    have t_Tweak : (sv.toList == [116, 119, 101, 97, 107]) = false := by rw [hsv, bs_toList, n_Combine]; decide
    have t_Combine : (sv.toList == [99, 111, 109, 98, 105, 110, 101]) = true := by rw [hsv, bs_toList, n_Combine]; rfl
    have t_Multiply : (sv.toList == [109, 117, 108, 116, 105, 112, 108, 121]) = false := by rw [hsv, bs_toList, n_Combine]; decide
    have t_Key : (sv.toList == [107, 101, 121]) = false := by rw [hsv, bs_toList, n_Combine]; decide
    have t_Drop : (sv.toList == [100, 114, 111, 112]) = false := by rw [hsv, bs_toList, n_Combine]; decide
    by_cases hc : n.length = 4
    · have hNL := HNL.out
      have d2 : ((N : Int) == 4) = true := by rw [beq_iff_eq]; omega
      have HK := Lib.hid (HYES.out 70 _ (by unfold keyedK; rw [if_neg (by rw [n_Combine]; decide), if_neg (by rw [n_Combine]; decide), if_neg (by rw [n_Combine]; decide), if_pos n_Combine, if_pos hc]) (fun x y W => by kernel_rfl) (clos4 n hc))
      clear hsv n_Combine hc hNL
      go_enter Tryz.func32, Tryz.ntmps32
      go_wp2_with fail
      have hk := HK.out
      rw [HW2.out, HW1.out] at hk
      exact hk
    · have hNL := HNL.out
      have d2 : ((N : Int) == 4) = false := by rw [beq_eq_false_iff_ne]; omega
      have HK := Lib.hid (HNO.out (by unfold keyedK; rw [if_neg (by rw [n_Combine]; decide), if_neg (by rw [n_Combine]; decide), if_neg (by rw [n_Combine]; decide), if_pos n_Combine, if_neg hc]))
      clear hsv n_Combine hc hNL
      go_enter Tryz.func32, Tryz.ntmps32
      go_wp2_with fail
      have hk := HK.out
      rw [HW2.out, HW1.out] at hk
      exact hk
  by_cases n_Multiply : v = wMultiply
  · have t_Gen : (sv.toList == [103, 101, 110]) = false := by rw [hsv, bs_toList, n_Multiply]; decide
    have t_Refresh : (sv.toList == [114, 101, 102, 114, 101, 115, 104]) = false := by rw [hsv, bs_toList, n_Multiply]; decide
    have t_Tweak : (sv.toList == [116, 119, 101, 97, 107]) = false := by rw [hsv, bs_toList, n_Multiply]; decide
    have t_Combine : (sv.toList == [99, 111, 109, 98, 105, 110, 101]) = false := by rw [hsv, bs_toList, n_Multiply]; decide
    have t_Multiply : (sv.toList == [109, 117, 108, 116, 105, 112, 108, 121]) = true := by rw [hsv, bs_toList, n_Multiply]; rfl
    have t_Key : (sv.toList == [107, 101, 121]) = false := by rw [hsv, bs_toList, n_Multiply]; decide
    have t_Drop : (sv.toList == [100, 114, 111, 112]) = false := by rw [hsv, bs_toList, n_Multiply]; decide
    by_cases hc : 2 ≤ n.length
    · have hNL := HNL.out
      have d1 : (N : Int) ≥ 2 := by omega
      have d2 : decide ((N : Int) ≥ 2) = true := decide_eq_true d1
      have HK := Lib.hid (HYES.out 72 _ (by unfold keyedK; rw [if_neg (by rw [n_Multiply]; decide), if_neg (by rw [n_Multiply]; decide), if_neg (by rw [n_Multiply]; decide), if_neg (by rw [n_Multiply]; decide), if_pos n_Multiply, if_pos hc]) (fun x y W => by kernel_rfl) (clos5 n hc))
      clear hsv n_Multiply hc hNL
      go_enter Tryz.func32, Tryz.ntmps32
      go_wp2_with fail
      have hk := HK.out
      rw [HW2.out, HW1.out] at hk
      exact hk
    · have hNL := HNL.out
      have d1 : ¬ (N : Int) ≥ 2 := by omega
      have d2 : decide ((N : Int) ≥ 2) = false := decide_eq_false d1
      have HK := Lib.hid (HNO.out (by unfold keyedK; rw [if_neg (by rw [n_Multiply]; decide), if_neg (by rw [n_Multiply]; decide), if_neg (by rw [n_Multiply]; decide), if_neg (by rw [n_Multiply]; decide), if_pos n_Multiply, if_neg hc]))
      clear hsv n_Multiply hc hNL
      go_enter Tryz.func32, Tryz.ntmps32
      go_wp2_with fail
      have hk := HK.out
      rw [HW2.out, HW1.out] at hk
      exact hk
  by_cases n_Key : v = wKey
  · have t_Gen : (sv.toList == [103, 101, 110]) = false := by rw [hsv, bs_toList, n_Key]; decide
    have t_Refresh : (sv.toList == [114, 101, 102, 114, 101, 115, 104]) = false := by rw [hsv, bs_toList, n_Key]; decide
    have t_Tweak : (sv.toList == [116, 119, 101, 97, 107]) = false := by rw [hsv, bs_toList, n_Key]; decide
    have t_Combine : (sv.toList == [99, 111, 109, 98, 105, 110, 101]) = false := by rw [hsv, bs_toList, n_Key]; decide
    have t_Multiply : (sv.toList == [109, 117, 108, 116, 105, 112, 108, 121]) = false := by rw [hsv, bs_toList, n_Key]; decide
    have t_Key : (sv.toList == [107, 101, 121]) = true := by rw [hsv, bs_toList, n_Key]; rfl
    have t_Drop : (sv.toList == [100, 114, 111, 112]) = false := by rw [hsv, bs_toList, n_Key]; decide
    by_cases hc : n.length = 1
    · have hNL := HNL.out
      have d2 : ((N : Int) == 1) = true := by rw [beq_iff_eq]; omega
      have HK := Lib.hid (HYES.out 74 _ (by unfold keyedK; rw [if_neg (by rw [n_Key]; decide), if_neg (by rw [n_Key]; decide), if_neg (by rw [n_Key]; decide), if_neg (by rw [n_Key]; decide), if_neg (by rw [n_Key]; decide), if_pos n_Key, if_pos hc]) (fun x y W => by kernel_rfl) (clos6 n hc))
      clear hsv n_Key hc hNL
      go_enter Tryz.func32, Tryz.ntmps32
      go_wp2_with fail
      have hk := HK.out
      rw [HW2.out, HW1.out] at hk
      exact hk
    · have hNL := HNL.out
      have d2 : ((N : Int) == 1) = false := by rw [beq_eq_false_iff_ne]; omega
      have HK := Lib.hid (HNO.out (by unfold keyedK; rw [if_neg (by rw [n_Key]; decide), if_neg (by rw [n_Key]; decide), if_neg (by rw [n_Key]; decide), if_neg (by rw [n_Key]; decide), if_neg (by rw [n_Key]; decide), if_pos n_Key, if_neg hc]))
      clear hsv n_Key hc hNL
      go_enter Tryz.func32, Tryz.ntmps32
      go_wp2_with fail
      have hk := HK.out
      rw [HW2.out, HW1.out] at hk
      exact hk
  by_cases n_Drop : v = wDrop
  · have t_Gen : (sv.toList == [103, 101, 110]) = false := by rw [hsv, bs_toList, n_Drop]; decide
    have t_Refresh : (sv.toList == [114, 101, 102, 114, 101, 115, 104]) = false := by rw [hsv, bs_toList, n_Drop]; decide
    have t_Tweak : (sv.toList == [116, 119, 101, 97, 107]) = false := by rw [hsv, bs_toList, n_Drop]; decide
    have t_Combine : (sv.toList == [99, 111, 109, 98, 105, 110, 101]) = false := by rw [hsv, bs_toList, n_Drop]; decide
    have t_Multiply : (sv.toList == [109, 117, 108, 116, 105, 112, 108, 121]) = false := by rw [hsv, bs_toList, n_Drop]; decide
    have t_Key : (sv.toList == [107, 101, 121]) = false := by rw [hsv, bs_toList, n_Drop]; decide
    have t_Drop : (sv.toList == [100, 114, 111, 112]) = true := by rw [hsv, bs_toList, n_Drop]; rfl
    by_cases hc : n.length = 1
    · have hNL := HNL.out
      have d2 : ((N : Int) == 1) = true := by rw [beq_iff_eq]; omega
      have HK := Lib.hid (HYES.out 76 _ (by unfold keyedK; rw [if_neg (by rw [n_Drop]; decide), if_neg (by rw [n_Drop]; decide), if_neg (by rw [n_Drop]; decide), if_neg (by rw [n_Drop]; decide), if_neg (by rw [n_Drop]; decide), if_neg (by rw [n_Drop]; decide), if_pos n_Drop, if_pos hc]) (fun x y W => by kernel_rfl) (clos7 n hc))
      clear hsv n_Drop hc hNL
      go_enter Tryz.func32, Tryz.ntmps32
      go_wp2_with fail
      have hk := HK.out
      rw [HW2.out, HW1.out] at hk
      exact hk
    · have hNL := HNL.out
      have d2 : ((N : Int) == 1) = false := by rw [beq_eq_false_iff_ne]; omega
      have HK := Lib.hid (HNO.out (by unfold keyedK; rw [if_neg (by rw [n_Drop]; decide), if_neg (by rw [n_Drop]; decide), if_neg (by rw [n_Drop]; decide), if_neg (by rw [n_Drop]; decide), if_neg (by rw [n_Drop]; decide), if_neg (by rw [n_Drop]; decide), if_pos n_Drop, if_neg hc]))
      clear hsv n_Drop hc hNL
      go_enter Tryz.func32, Tryz.ntmps32
      go_wp2_with fail
      have hk := HK.out
      rw [HW2.out, HW1.out] at hk
      exact hk
  have t_Gen : (sv.toList == [103, 101, 110]) = false := by rw [hsv, bs_toList, beq_eq_false_iff_ne]; exact n_Gen
  have t_Refresh : (sv.toList == [114, 101, 102, 114, 101, 115, 104]) = false := by rw [hsv, bs_toList, beq_eq_false_iff_ne]; exact n_Refresh
  have t_Tweak : (sv.toList == [116, 119, 101, 97, 107]) = false := by rw [hsv, bs_toList, beq_eq_false_iff_ne]; exact n_Tweak
  have t_Combine : (sv.toList == [99, 111, 109, 98, 105, 110, 101]) = false := by rw [hsv, bs_toList, beq_eq_false_iff_ne]; exact n_Combine
  have t_Multiply : (sv.toList == [109, 117, 108, 116, 105, 112, 108, 121]) = false := by rw [hsv, bs_toList, beq_eq_false_iff_ne]; exact n_Multiply
  have t_Key : (sv.toList == [107, 101, 121]) = false := by rw [hsv, bs_toList, beq_eq_false_iff_ne]; exact n_Key
  have t_Drop : (sv.toList == [100, 114, 111, 112]) = false := by rw [hsv, bs_toList, beq_eq_false_iff_ne]; exact n_Drop
  have HK := Lib.hid (HNO.out (by unfold keyedK; rw [if_neg n_Gen, if_neg n_Refresh, if_neg n_Tweak, if_neg n_Combine, if_neg n_Multiply, if_neg n_Key, if_neg n_Drop]))
  clear hsv n_Gen n_Refresh n_Tweak n_Combine n_Multiply n_Key n_Drop
  go_enter Tryz.func32, Tryz.ntmps32
  go_wp2_with fail
  have hk := HK.out
  rw [HW2.out, HW1.out] at hk
  exact hk
theorem stepA_plain {b : Bench} {v : List UInt8} {ws : List (List UInt8)} (h1 : ¬ v = wCircuit) (h2 : ¬ v = wWork) (h3 : numsOk ws = true) : stepA b v ws = (plainA b v (ws.map numR)).getD (keyedA b v (ws.map numR)) := by
  unfold stepA; rw [if_neg h1, if_neg h2, if_pos h3]
theorem nil_eq (W : World) : (binOp BinOp.eql 43 Value.nilFunc Value.nilFunc).run Tryz.prog W = .ok (.bool true) W := by kernel_rfl
theorem fun_eq (F : Nat) (cap : Array Value) (W : World) : (binOp BinOp.eql 43 (Value.func (.func F) #[] cap) Value.nilFunc).run Tryz.prog W = .ok (.bool false) W := by kernel_rfl
set_option maxRecDepth 100000 in
set_option maxHeartbeats 4000000 in
theorem do_any (base db m : Nat) (b : Bench) (v : List UInt8) (va : Value) (ws : List (List UInt8)) (w : World) (hd : DeskIs w base db b) (hok : b.Ok m) (hm : m ≤ 999) (hdb : db < base) (hbw : base ≤ w.heap.size) (h1 : IsStrs w va ws)
    (hsz : ∀ x ∈ ws, x.length ≤ 1000000) (hwl : ws.length ≤ 100000) (hjl : (joinT ws).length ≤ 1000000) (hL : LayB db w) :
    Calls Tryz.prog 16 #[.pointer (some ⟨db, 0, none⟩), .string (bs v), va] w fun e w' => e = .returned (.string (bs (stepA b v ws).1)) ∧ DeskIs w' base db (stepA b v ws).2 ∧ Left base db w w' := by
  have HD := Lib.hid hd
  have HL := Lib.hid hL
  have KS := Lib.hid h1
  have HOK := Lib.hid hok
  have HSZ := Lib.hid hsz
  have hdl := hd.lt
  obtain ⟨A, c, rfl, hc, _, _, _⟩ := h1
  suffices hgoal : ∀ Post : Ending → World → Prop, (∀ w', DeskIs w' base db (stepA b v ws).2 → Left base db w w' → Post (.returned (.string (bs (stepA b v ws).1))) w') → Calls Tryz.prog 16 #[.pointer (some ⟨db, 0, none⟩), .string (bs v), .slice A ws.length c] w Post from hgoal _ fun w' h1 h2 => ⟨rfl, h1, h2⟩
  intro Post hpo
  have hne := nil_eq
  have hfe := fun_eq
  have HP := Lib.hid hpo
  have CF3 := Lib.hid (fun W (hW : Lay W) => failed_any 3 W (by omega) (by omega) hW.2.1)
  have CF4 := Lib.hid (fun W (hW : Lay W) => failed_any 4 W (by omega) (by omega) hW.2.1)
  have HSAME := Lib.hid (show ∀ s, stepA b v ws = (s, b) → ∀ w', Below w.heap.size w w' → Post (.returned (.string (bs s))) w' from fun s h w' hb => by
    have hp := HP.out w' (by rw [h]; exact HD.out.below hb) (.of_below hb)
    rw [h] at hp
    exact hp)
  have HNEW := Lib.hid (show ∀ s b', stepA b v ws = (s, b') → ∀ w', DeskIs w' base db b' → Left base db w w' → Post (.returned (.string (bs s))) w' from fun s b' h w' h2 h3 => by
    have hp := HP.out w' (by rw [h]; exact h2) h3
    rw [h] at hp
    exact hp)
  obtain ⟨sv, hsv⟩ : ∃ sv, sv = bs v := ⟨_, rfl⟩
  obtain ⟨N, hN⟩ : ∃ N, N = ws.length := ⟨_, rfl⟩
  have HNL := Lib.hid hN
  clear hpo hd hok hsz hL
  by_cases n_C : v = wCircuit
  · have t_C : (sv.toList == [99, 105, 114, 99, 117, 105, 116]) = true := by rw [hsv, bs_toList, n_C]; rfl
    have HK := Lib.hid (HNEW.out (moreA b.tx ws).1 ⟨(moreA b.tx ws).2, b.ks⟩ (by unfold stepA; rw [if_pos n_C]))
    have CM := Lib.hid (show Calls Tryz.prog 27 #[.pointer (some ⟨db, 0, none⟩), .slice A N c] w fun e w' => e = .returned (.string (bs (moreA b.tx ws).1)) ∧ DeskIs w' base db ⟨(moreA b.tx ws).2, b.ks⟩ ∧ Left base db w w' by
      obtain ⟨kp, h1, h2⟩ := HD.out
      rw [hN]
      exact (more_any db b.tx kp _ ws w h1 KS.out HOK.out.1 hjl HL.out.lay.2.1).mono fun e w' hh => ⟨hh.1, ⟨kp, hh.2.1, h2.grown hh.2.2 hdb⟩, .of_grown hh.2.2⟩)
    rw [← hsv, ← hN]
    clear hsv n_C hN
    go_enter Tryz.func16, Tryz.ntmps16
    go_wp2_with fail
    refine CM.out.mono ?_
    rintro e w' ⟨rfl, h2, h3⟩
    have HKK := Lib.hid (HK.out _ h2 h3)
    clear h2 h3
    try dsimp only
    go_wp2_with fail
    exact HKK.out
  have t_C : (sv.toList == [99, 105, 114, 99, 117, 105, 116]) = false := by rw [hsv, bs_toList, beq_eq_false_iff_ne]; exact n_C
  by_cases n_W : v = wWork
  · have t_W : (sv.toList == [119, 111, 114, 107]) = true := by rw [hsv, bs_toList, n_W]; rfl
    have HK := Lib.hid (HSAME.out _ (by unfold stepA; rw [if_neg n_C, if_pos n_W]))
    have CM := Lib.hid (work_any base db b _ ws w HD.out KS.out HSZ.out hwl HL.out)
    rw [← hN] at CM
    rw [← hsv, ← hN]
    clear hsv n_C n_W hN
    go_enter Tryz.func16, Tryz.ntmps16
    go_wp2_with fail
    refine CM.out.mono ?_
    rintro e w' ⟨rfl, hb⟩
    have HKK := Lib.hid (HK.out _ hb)
    clear hb
    try dsimp only
    go_wp2_with fail
    exact HKK.out
  have t_W : (sv.toList == [119, 111, 114, 107]) = false := by rw [hsv, bs_toList, beq_eq_false_iff_ne]; exact n_W
  have CN := Lib.hid (dNumbers_any _ ws w KS.out (fun x hx => by have := HSZ.out x hx; omega))
  rw [← hN] at CN
  rw [← hsv, ← hN]
  by_cases h3 : numsOk ws = true
  · have HST := Lib.hid (stepA_plain (b := b) n_C n_W h3)
    obtain ⟨n, hn⟩ : ∃ n, n = ws.map numR := ⟨_, rfl⟩
    have HN0 := Lib.hid (show ∀ z ∈ n, 0 ≤ z by rw [hn]; exact numsOk_nonneg h3)
    have HNLN := Lib.hid (show n.length ≤ 100000 by rw [hn, List.length_map]; exact hwl)
    rw [numbersL_ok h3, h3, ← hn] at CN
    rw [← hn] at HST
    have HSV := Lib.hid hsv
    clear n_C n_W h3 hn hsv hN
    go_enter Tryz.func16, Tryz.ntmps16
    go_wp2_with fail
    refine CN.out.mono ?_
    rintro e W1 ⟨v1, rfl, ho1, hb1⟩
    obtain ⟨A1, c1, rfl, hcc1, _⟩ := own_form ho1.1
    have K1 := Lib.hid ho1
    have B1 := Lib.hid hb1
    have hs1 := hb1.size
    have CP := Lib.hid (plain_any base db w.heap.size b v _ n W1 (HD.out.below B1.out) hdb (Nat.le_trans hbw hs1) K1.out HN0.out HNLN.out (HL.out.low (B1.out.mono (Nat.le_of_lt hdl))))
    rw [← HSV.out] at CP
    clear ho1 hb1
    try dsimp only
    go_wp2_with fail
    refine CP.out.mono ?_
    intro e W2 hres
    cases hp : plainA b v n with
    | some r =>
      have HK := Lib.hid (HNEW.out r.1 r.2 (by rw [HST.out, hp]; rfl))
      rw [hp] at hres
      obtain ⟨rfl, h2, h3⟩ := hres
      have HKK := Lib.hid (HK.out _ h2 ((Left.of_below B1.out).trans h3))
      clear h2 h3 hp
      try dsimp only
      go_wp2_with fail
      exact HKK.out
    | none =>
      have HST2 := Lib.hid (show stepA b v ws = keyedA b v n by rw [HST.out, hp]; rfl)
      rw [hp] at hres
      obtain ⟨rfl, hb2⟩ := hres
      have B2 := Lib.hid (below_trans B1.out hb2 hs1)
      have K2 := Lib.hid (K1.out.below hb2)
      have D2 := Lib.hid (HD.out.below B2.out)
      obtain ⟨kp, hbx, hkp⟩ := D2.out
      obtain ⟨pa, rfl⟩ := hkp.ptr
      have CK := Lib.hid (keyed_any db v _ pa n W2 _ hbx K2.out.is)
      rw [← HSV.out] at CK
      have BX2 := Lib.hid hbx
      have HKP2 := Lib.hid hkp
      have hs2 := B2.out.size
      clear hb2 hbx hkp hp HST
      try dsimp only
      go_wp2_with fail
      refine CK.out.mono ?_
      intro e W3 hres
      unfold FunRes at hres
      cases hk : keyedK v n with
      | none =>
        have HK := Lib.hid (HSAME.out (errT 3) (by rw [HST2.out]; unfold keyedA; rw [hk]))
        rw [hk] at hres
        obtain ⟨rfl, hb3⟩ := hres
        have B3 := Lib.hid (below_trans B2.out hb3 hs2)
        clear hb3 hk
        try dsimp only
        go_wp2_with fail
        refine (CF3.out _ (HL.out.low (B3.out.mono (Nat.le_of_lt hdl))).lay).mono ?_
        rintro e W4 ⟨rfl, hb⟩
        have HKK := Lib.hid (HK.out _ (below_trans B3.out hb B3.out.size))
        clear hb
        try dsimp only
        go_wp2_with fail
        exact HKK.out
      | some f =>
        have HKY := Lib.hid (show keyedA b v n = onKeep b f by unfold keyedA; rw [hk])
        rw [hk] at hres
        obtain ⟨⟨F, bk, bn, rfl, hcf, hcl, g1, g2, g3, g4, g5, g6⟩, hb3⟩ := hres
        have B3 := Lib.hid (below_trans B2.out hb3 hs2)
        have BX3 := Lib.hid (BX2.out.below hb3)
        have HKP3 := Lib.hid (HKP2.out.below hb3)
        have K3 := Lib.hid (K2.out.below hb3)
        have hq1 := BX3.out.cell (i := 1) rfl
        have LW := Lib.hid (HL.out.low (B3.out.mono (Nat.le_of_lt hdl)))
        have HCL := Lib.hid hcl
        have HG := Lib.hid (And.intro g1 (And.intro g2 (And.intro g3 (And.intro g4 (And.intro g5 g6)))))
        clear hb3 hk hcl g1 g2 g3 g4 g5 g6
        cases hks : b.ks with
        | none =>
          have hpa : pa = none := by have := HKP3.out; rw [hks] at this; injection this
          subst hpa
          have HK := Lib.hid (HSAME.out (errT 4) (by rw [HST2.out, HKY.out]; unfold onKeep; rw [hks]))
          clear hks
          try dsimp only
          go_wp2_with fail
          refine (CF4.out _ LW.out.lay).mono ?_
          rintro e W4 ⟨rfl, hb⟩
          have HKK := Lib.hid (HK.out _ (below_trans B3.out hb B3.out.size))
          clear hb
          try dsimp only
          go_wp2_with fail
          exact HKK.out
        | some k =>
          have h0 := HKP3.out
          rw [hks] at h0
          obtain ⟨kb, mb, V, hpa, hkeys⟩ := h0
          injection hpa with hpa
          subst hpa
          have hk0 : kb < w.heap.size ∧ mb < w.heap.size := by
            obtain ⟨kp0, h5, h6⟩ := HD.out
            have e1 := (h5.below B3.out).cell (i := 1) rfl
            rw [hq1] at e1
            injection e1 with e1
            rw [hks] at h6
            obtain ⟨kb', mb', V', h7, h8⟩ := h6
            rw [h7] at e1
            injection e1 with e1
            injection e1 with e1
            injection e1 with e1
            subst e1
            have e2 := (h8.below B3.out).cell
            rw [hkeys.cell] at e2
            injection e2 with e2
            injection e2 with e2
            have e3 := congrArg (fun a : Array Value => a[3]?) e2
            simp at e3
            subst e3
            exact ⟨h8.lt, h8.store.lt⟩
          have HK := Lib.hid (HNEW.out (f k).1 ⟨b.tx, some (f k).2⟩ (by rw [HST2.out, HKY.out]; unfold onKeep; rw [hks]))
          have HE := Lib.hid (show Held W3 base kb mb w.heap.size bk bn k (.slice A1 n.length c1) n from
            ⟨⟨V, hkeys⟩, by have := HOK.out.2 k hks; exact ⟨this.1, this.2.1, this.2.2.1, by have := this.2.2.2.1; omega, this.2.2.2.2⟩, HG.out.2.2.2.2.1, HG.out.2.2.2.2.2, K3.out, HN0.out, LW.out.mono (Nat.le_of_lt hdb), hk0.1, hk0.2, Nat.le_trans hs2 HG.out.1, Nat.le_trans hs2 HG.out.2.1, HG.out.2.2.1, HG.out.2.2.2.1⟩)
          have HKEY := Lib.hid hkeys
          clear hks hkeys hk0
          try dsimp only
          go_wp2_with fail
          refine (HCL.out base kb mb w.heap.size bk bn k _ W3 HE.out).mono ?_
          rintro e W4 ⟨rfl, hki, hnr⟩
          have HKK := Lib.hid (HK.out W4 (by
            obtain ⟨V', hki⟩ := hki
            have := HKEY.out.le
            have := HKEY.out.store.le
            exact ⟨_, (hnr.block db BX3.out.lt (by omega) (by omega)).trans BX3.out, kb, mb, V', rfl, hki⟩) ((Left.of_below B3.out).trans (.of_keys HKEY.out hnr)))
          clear hki hnr
          try dsimp only
          go_wp2_with fail
          exact HKK.out
  · have HK := Lib.hid (HSAME.out (errT 3) (by unfold stepA; rw [if_neg n_C, if_neg n_W, if_neg h3]))
    have h3f : numsOk ws = false := by simpa using h3
    rw [h3f] at CN
    clear n_C n_W h3 h3f hsv hN
    go_enter Tryz.func16, Tryz.ntmps16
    go_wp2_with fail
    refine CN.out.mono ?_
    rintro e W1 ⟨v1, rfl, ho1, hb1⟩
    obtain ⟨A1, c1, rfl, hcc1, _⟩ := own_form ho1.1
    have B1 := Lib.hid hb1
    clear ho1 hb1
    try dsimp only
    go_wp2_with fail
    refine (CF3.out _ (HL.out.low (B1.out.mono (Nat.le_of_lt hdl))).lay).mono ?_
    rintro e W2 ⟨rfl, hb⟩
    have HKK := Lib.hid (HK.out _ (below_trans B1.out hb B1.out.size))
    clear hb
    try dsimp only
    go_wp2_with fail
    exact HKK.out
set_option maxRecDepth 100000 in
set_option maxHeartbeats 1000000 in
theorem rLineWords_any (l : List UInt8) (w : World) (hl : l.length ≤ 4294967280) :
    Calls Tryz.prog 9 #[.string (bs l)] w fun e w' => ∃ v, e = .returned v ∧ OwnStrs w' w.heap.size v (wordsL l) ∧ Below w.heap.size w w' := by
  suffices hgoal : ∀ Post : Ending → World → Prop, (∀ v w', OwnStrs w' w.heap.size v (wordsL l) → Below w.heap.size w w' → Post (.returned v) w') → Calls Tryz.prog 9 #[.string (bs l)] w Post from hgoal _ fun v w' h1 h2 => ⟨v, rfl, h1, h2⟩
  intro Post hpo
  have HP := Lib.hid hpo
  have CP := Lib.hid (rPieces_any l 32 w hl)
  obtain ⟨P, hP⟩ : ∃ P, P = pieces 32 l := ⟨_, rfl⟩
  rw [← hP] at CP
  have HW := Lib.hid (show wordsL l = P.filter fun x => decide (x ≠ []) by rw [hP]; rfl)
  obtain ⟨s, hs⟩ : ∃ s, s = bs l := ⟨_, rfl⟩
  rw [← hs] at CP ⊢
  have HPN := Lib.hid (show P.length ≤ l.length + 1 by rw [hP]; exact pieces_le _ _)
  clear hpo hs hP
  go_enter Tryz.func9, Tryz.ntmps9
  go_wp2_with fail
  refine CP.out.mono ?_
  rintro e W1 ⟨v, rfl, ho, hb⟩
  have KP := Lib.hid ho.is
  have B1 := Lib.hid hb
  obtain ⟨A1, c1, rfl, hc1, _⟩ := own_form ho.1
  have hlen := ho.2
  clear ho hb
  try dsimp only
  go_wp2_with fail
  go_loopw [3, 5] (fun v i wr => ∃ k : Nat, k ≤ P.length ∧ i = .int .i64 k ∧ OwnStrs wr W1.heap.size v ((P.take k).filter fun x => decide (x ≠ [])) ∧ Below W1.heap.size W1 wr) (fun _ i _ => P.length - (intOf i).toNat)
  case atStart => exact ⟨0, Nat.zero_le _, rfl, OwnStrs.nil _ _, Below.refl _ _⟩
  case round =>
    obtain ⟨k, hk, rfl, hown, hbel⟩ := hrel
    have KW := Lib.hid hown
    have BEL := Lib.hid hbel
    have hs1 := hbel.size
    clear hown hbel
    by_cases hlt : k < P.length
    · obtain ⟨A, c, hA, hcm, _, hl8, hr⟩ := KP.out.below BEL.out
      injection hA with hA1 hA2 hA3
      subst hA1 hA3
      obtain ⟨b1, o1, x, rfl, hb1, hx, hcx⟩ := strs_at hr hlt
      have HL8 := Lib.hid (show P.length ≤ 8796093022207 by have := HPN.out; omega)
      have hfl : (List.filter (fun x => decide (x ≠ [])) (List.take k P)).length ≤ k := by
        have h1 := List.length_filter_le (fun x => decide (x ≠ [])) (List.take k P)
        rw [List.length_take] at h1
        omega
      have HFL := Lib.hid hfl
      have HTK := Lib.hid (show P.take (k + 1) = P.take k ++ [x] by rw [List.take_add_one, hx]; rfl)
      obtain ⟨Q, hQ⟩ : ∃ Q, Q = (P.take k).filter fun x => decide (x ≠ []) := ⟨_, rfl⟩
      have HQ := Lib.hid hQ
      rw [← hQ] at KW HFL
      clear hr hb1 hx hA2 hfl hcm hl8 hQ
      obtain ⟨sx, hsx⟩ : ∃ sx, sx = bs x := ⟨_, rfl⟩
      have HSX := Lib.hid hsx
      rw [← hsx] at hcx
      by_cases hxe : x = []
      · have hq : (sx.toList == []) = true := by rw [hsx, bs_toList, hxe]; rfl
        have HNX := Lib.hid (show (P.take (k + 1)).filter (fun x => decide (x ≠ [])) = Q by rw [HQ.out, HTK.out, List.filter_append, hxe]; simp)
        clear hxe hsx
        go_wp2_with fail
        exact ⟨⟨k + 1, by omega, by go_num, by rw [HNX.out]; exact KW.out, BEL.out⟩, by simp [intOf] <;> omega⟩
      · have hq : (sx.toList == []) = false := by rw [hsx, bs_toList, beq_eq_false_iff_ne]; exact hxe
        have HNX := Lib.hid (show (P.take (k + 1)).filter (fun x => decide (x ≠ [])) = Q ++ [x] by rw [HQ.out, HTK.out, List.filter_append]; simp [hxe])
        clear hxe hsx
        go_wp2_with (at_builtin; go_loud (refine wpList_push_str rfl _ _ rfl W1.heap.size _ _ x wr.heap.size 1 rfl (KW.out.alloc _) rfl (by rw [← HSX.out]; exact new_cell _ _ _) (by have := HFL.out; have := HL8.out; omega) (by rw [size_alloc]; omega) ?_))
        intro v' w5 hown' hbel'
        have K5 := Lib.hid hown'
        have B5 := Lib.hid ((BEL.out.alloc hs1 (.cells #[.string sx] 9)).trans hbel')
        clear hown' hbel'
        go_wp2_with fail
        exact ⟨⟨k + 1, by omega, by go_num, by rw [HNX.out]; exact K5.out, B5.out⟩, by simp [intOf] <;> omega⟩
    · obtain rfl : k = P.length := by omega
      rw [show P.take P.length = P from List.take_length] at KW
      go_wp2_with fail
      exact HP.out _ _ (by rw [HW.out]; exact KW.out.less B1.out.size) (below_trans B1.out BEL.out B1.out.size)
set_option maxRecDepth 100000 in
set_option maxHeartbeats 1000000 in
theorem rTextLines_any (l : List UInt8) (w : World) (hl : l.length ≤ 4294967280) :
    Calls Tryz.prog 8 #[.string (bs l)] w fun e w' => ∃ v, e = .returned v ∧ IsStrs w' v (textL l) ∧ Below w.heap.size w w' := by
  suffices hgoal : ∀ Post : Ending → World → Prop, (∀ v w', IsStrs w' v (textL l) → Below w.heap.size w w' → Post (.returned v) w') → Calls Tryz.prog 8 #[.string (bs l)] w Post from hgoal _ fun v w' h1 h2 => ⟨v, rfl, h1, h2⟩
  intro Post hpo
  have HP := Lib.hid hpo
  have CP := Lib.hid (rPieces_any l 10 w hl)
  have HT := Lib.hid (show textL l = if (pieces 10 l).getLast (pieces_ne 10 l) = [] then (pieces 10 l).dropLast else pieces 10 l from rfl)
  obtain ⟨Q, x, hQ⟩ : ∃ Q x, pieces 10 l = Q ++ [x] := ⟨_, _, (List.dropLast_concat_getLast (pieces_ne 10 l)).symm⟩
  have HL := Lib.hid (show textL l = if x = [] then Q else Q ++ [x] by
    have h1 : (pieces 10 l).getLast (pieces_ne 10 l) = x := by simp [hQ]
    rw [HT.out, h1, hQ, List.dropLast_concat])
  rw [hQ] at CP
  obtain ⟨s, hs⟩ : ∃ s, s = bs l := ⟨_, rfl⟩
  rw [← hs] at CP ⊢
  clear hpo hs hQ HT
  go_enter Tryz.func8, Tryz.ntmps8
  go_wp2_with fail
  refine CP.out.mono ?_
  rintro e W1 ⟨v, rfl, ho, hb⟩
  have B1 := Lib.hid hb
  have hi := ho.is
  have KI := Lib.hid hi
  obtain ⟨A1, c1, rfl, hc1, hm1, hl1, hr⟩ := hi
  obtain ⟨b1, o1, x', rfl, hb1, hx, hcx⟩ := strs_at hr (k := Q.length) (by simp)
  have hxx : x' = x := by simpa using hx.symm
  subst hxx
  rw [List.length_append, List.length_singleton] at hc1 hl1
  have HR := Lib.hid hr
  clear ho hb hr hx
  obtain ⟨n, hn⟩ : ∃ n, n = Q.length := ⟨_, rfl⟩
  have HN := Lib.hid hn
  rw [show (Q ++ [x']).length = n + 1 by rw [hn]; simp] at *
  rw [← hn] at hcx hc1 hl1
  clear hn
  obtain ⟨sx, hsx⟩ : ∃ sx, sx = bs x' := ⟨_, rfl⟩
  rw [← hsx] at hcx
  by_cases hxe : x' = []
  · have hq : (sx.toList == []) = true := by rw [hsx, bs_toList, hxe]; rfl
    have HXE := Lib.hid hxe
    clear hxe hsx
    try dsimp only
    go_wp2_with fail
    refine HP.out _ _ ?_ B1.out
    rw [HL.out, if_pos HXE.out]
    have hn := HN.out
    have hr := HR.out
    refine ⟨some ⟨b1, o1, none⟩, c1, by rw [← hn]; rfl, by omega, hm1, by omega, .inr ⟨b1, o1, rfl, hb1, fun j hj => ?_⟩⟩
    rw [sts_length] at hj
    obtain ⟨b, o, hA, _, hc⟩ := hr.at_ (j := j) (by rw [sts_length, List.length_append]; omega)
    injection hA with hA
    injection hA with h1 h2 h3
    subst h1 h2
    rw [hc j (by rw [sts_length, List.length_append]; omega), sts_get, sts_get, List.getElem?_append_left hj]
  · have hq : (sx.toList == []) = false := by rw [hsx, bs_toList, beq_eq_false_iff_ne]; exact hxe
    have HXE := Lib.hid hxe
    clear hxe hsx
    try dsimp only
    go_wp2_with fail
    exact HP.out _ _ (by rw [HL.out, if_neg HXE.out]; exact KI.out) B1.out
end Go.Proofs.YtploomncapiloaaGreatDoor
