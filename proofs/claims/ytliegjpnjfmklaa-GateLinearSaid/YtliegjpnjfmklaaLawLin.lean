/- The law GateLinear, walked. -/
import Derived.Test.YtliegjpnjfmklaaLinW
namespace Go.Proofs.Ytliegjpnjfmklaa
open Go.RowKit Croft

theorem first_lin : eachL (· + ·) [1, 2] [3, 2147483645] = [4, 0] ∧ wire2E [1, 2] [3, 2147483645] = 0 := by decide +kernel
theorem each_lin {N : Nat} {A B : List F} (op : F → F → F) (c d : F) (hop : ∀ u v, op u v = c * u + d * v) (ha : (ofFs A).length = N) (hb : (ofFs B).length = N) (h1 : 1 ≤ N) (h9 : N ≤ 9) :
    eachL op (ofFs A) (ofFs B) = ofFs (List.zipWith (fun u v => c * u + d * v) A B) ∧ wire2E (ofFs A) (ofFs B) = 0 := by
  have hw : wire2E (ofFs A) (ofFs B) = 0 := wire2E_ok (by omega) (by omega) (by omega)
  refine ⟨?_, hw⟩
  have ho : op = fun u v => c * u + d * v := by funext u v; exact hop u v
  unfold eachL
  rw [if_pos hw, ho]
  show ((List.zipWith _ (toFs (ofFs A)) (toFs (ofFs B))).map ofF) = _
  rw [toFs_ofFs, toFs_ofFs]; rfl
theorem one_lin {N : Nat} {A : List F} (op : F → F → F) (c d : F) (k : Int) (hop : ∀ u, op u (toF k) = c * u + d) (ha : (ofFs A).length = N) (h1 : 1 ≤ N) (h9 : N ≤ 9) :
    oneL op (ofFs A) k = ofFs (A.map fun u => c * u + d) ∧ wireE [(ofFs A).length] = 0 := by
  have hw : wireE [(ofFs A).length] = 0 := by unfold wireE wireB; simp; omega
  refine ⟨?_, hw⟩
  unfold oneL
  rw [if_pos hw]
  simp only [ofFs, List.map_map]
  apply List.map_congr_left
  intro u _
  show ofF (op (toF (ofF u)) (toF k)) = _
  rw [toF_ofF, hop]; rfl
theorem Shared.map1 {n t : Nat} {a : List F} {x : F} (ha : Shared n t a x) (c d : F) : Shared n t (a.map fun u => c * u + d) (c * x + d) := by
  obtain ⟨p, hp, rfl, rfl⟩ := ha
  refine ⟨padd (pscale c p) [d], by rw [padd_length, pscale_length]; simp; omega, ?_, by rw [peval_add, peval_scale]; simp only [peval, F_mz, F_az]⟩
  apply list_ext_deal (by simp [deal_length])
  intro i hi
  rw [peval_add, peval_scale, ← deal_co p hi]
  simp only [peval, F_mz, F_az]
  exact co_get (by rw [List.getElem?_map, get_co (by rw [deal_length]; exact hi)]; rfl)
theorem Shared.mapc {n t : Nat} {a : List F} {x : F} (ha : Shared n t a x) (c : F) : Shared n t (a.map fun u => c * u) (c * x) := by
  have h := Shared.map1 ha c 0
  rw [show (fun u : F => c * u + 0) = fun u => c * u from by funext u; grind, show c * x + 0 = c * x by grind] at h
  exact h
theorem one_mul {N : Nat} {A : List F} (k : Int) (ha : (ofFs A).length = N) (h1 : 1 ≤ N) (h9 : N ≤ 9) :
    oneL (· * ·) (ofFs A) k = ofFs (A.map fun u => toF k * u) ∧ wireE [(ofFs A).length] = 0 := by
  have h := one_lin (N := N) (A := A) (· * ·) (toF k) 0 k (fun u => by grind) ha h1 h9
  rw [show (fun u : F => toF k * u + 0) = fun u => toF k * u from by funext u; grind] at h
  exact h
set_option maxRecDepth 100000 in
set_option maxHeartbeats 4000000 in
theorem gateLinear_any (x y k : Int) (vd vf : Value) (ds fs : List Int) (t n : Int) (w : World) (hx : U64 x) (hy : U64 y) (hk : U64 k) (h1 : IsNums w vd ds) (h2 : IsNums w vf fs) :
    Calls Try.prog 9 #[.int .u64 x, .int .u64 y, vd, vf, .int .i64 t, .int .i64 n, .int .u64 k] w fun e w' => e = .returned (.bool true) ∧ Below w.heap.size w w' := by
  have KD := Lib.hid h1
  have KF := Lib.hid h2
  have BEL := Lib.hid (Below.refl w.heap.size w)
  go_enter Try.func9, Try.ntmps9
  go_wp2_with fail
  have BT := Lib.hid (Box.new w 3 [.int .i64 t])
  have hs1 : (w.alloc (.cells [Value.int .i64 t].toArray 3)).heap.size = w.heap.size + 1 := size_alloc _ _
  have hb := (Below.refl w.heap.size w).alloc (Nat.le_refl _) (.cells [Value.int .i64 t].toArray 3)
  replace BEL := Lib.hid (below_trans BEL.out hb BEL.out.size)
  clear hb
  generalize hW : w.alloc (.cells [Value.int .i64 t].toArray 3) = W1 at *
  clear hW
  have L10 := lit_nums (W1) [1, 2] (by intro z hz; simp only [List.mem_cons, List.not_mem_nil, or_false] at hz; rcases hz with rfl | rfl <;> first | exact ⟨by omega, by omega⟩ | exact U64.of_ofF _) (by simp)
  simp only [u64s, List.map_cons, List.map_nil, List.length_cons, List.length_nil] at L10
  have hb := (Below.refl (W1).heap.size (W1)).alloc (Nat.le_refl _) (.cells #[Value.int .u64 1, Value.int .u64 2] 40)
  replace BT := Lib.hid (BT.out.below hb)
  replace BEL := Lib.hid (below_trans BEL.out hb BEL.out.size)
  clear hb
  have L1 := Lib.hid L10
  clear L10
  have L20 := lit_nums ((W1).alloc (.cells #[Value.int .u64 1, Value.int .u64 2] 40)) [3, 2147483645] (by intro z hz; simp only [List.mem_cons, List.not_mem_nil, or_false] at hz; rcases hz with rfl | rfl <;> first | exact ⟨by omega, by omega⟩ | exact U64.of_ofF _) (by simp)
  simp only [u64s, List.map_cons, List.map_nil, List.length_cons, List.length_nil] at L20
  rw [show ((W1).alloc (.cells #[Value.int .u64 1, Value.int .u64 2] 40)).heap.size = W1.heap.size + 1 from by simp] at L20
  have hb := (Below.refl ((W1).alloc (.cells #[Value.int .u64 1, Value.int .u64 2] 40)).heap.size ((W1).alloc (.cells #[Value.int .u64 1, Value.int .u64 2] 40))).alloc (Nat.le_refl _) (.cells #[Value.int .u64 3, Value.int .u64 2147483645] 40)
  replace BT := Lib.hid (BT.out.below hb)
  replace L1 := Lib.hid (L1.out.below hb)
  replace BEL := Lib.hid (below_trans BEL.out hb BEL.out.size)
  clear hb
  have L2 := Lib.hid L20
  clear L20
  generalize hW : ((W1).alloc (.cells #[Value.int .u64 1, Value.int .u64 2] 40)).alloc (.cells #[Value.int .u64 3, Value.int .u64 2147483645] 40) = W2 at *
  clear hW
  rw [hs1] at L1 L2
  refine (gAdd_any _ _ _ _ _ L1.out L2.out).mono ?_
  rintro e W3 ⟨vm, rfl, ho, hb⟩
  rw [first_lin.1] at ho
  rw [first_lin.2]
  replace BT := Lib.hid (BT.out.below hb)
  replace BEL := Lib.hid (below_trans BEL.out hb BEL.out.size)
  have KM := Lib.hid ho.is
  clear ho hb L1 L2
  try dsimp only
  go_wp2_with fail
  have L40 := lit_nums (W3) [4, 0] (by intro z hz; simp only [List.mem_cons, List.not_mem_nil, or_false] at hz; rcases hz with rfl | rfl <;> first | exact ⟨by omega, by omega⟩ | exact U64.of_ofF _) (by simp)
  simp only [u64s, List.map_cons, List.map_nil, List.length_cons, List.length_nil] at L40
  have hb := (Below.refl (W3).heap.size (W3)).alloc (Nat.le_refl _) (.cells #[Value.int .u64 4, Value.int .u64 0] 40)
  replace BT := Lib.hid (BT.out.below hb)
  replace KM := Lib.hid (KM.out.below hb)
  replace BEL := Lib.hid (below_trans BEL.out hb BEL.out.size)
  clear hb
  have L4 := Lib.hid L40
  clear L40
  generalize hW : (W3).alloc (.cells #[Value.int .u64 4, Value.int .u64 0] 40) = W4 at *
  clear hW
  refine (equal_any _ _ _ _ _ KM.out L4.out).mono ?_
  rintro e w' ⟨rfl, nd, rfl⟩
  rw [decide_eq_true rfl]
  try dsimp only
  clear KM L4
  have hb := below_drewN (Below.refl W4.heap.size W4) nd
  replace BT := Lib.hid (BT.out.below hb)
  replace BEL := Lib.hid (below_trans BEL.out hb BEL.out.size)
  clear hb
  generalize hW : W4.drewN nd = W5 at *
  clear hW
  have hct := BT.out.cell (i := 0) rfl
  have hfr := BT.out.frozen 0
  go_wp2_with fail
  refine (kCrew_any t n _).mono ?_
  rintro e w' ⟨⟨T, N, hT, hN1, hN2, rfl⟩, rfl⟩
  try dsimp only
  have BT2 := Lib.hid (show Box (W5.setCell ⟨w.heap.size, 0, none⟩ (.int .i64 T)) w.heap.size 3 [.int .i64 T] from BT.out.set 0 _)
  have BEL2 := Lib.hid (BEL.out.setCell (p := ⟨w.heap.size, 0, none⟩) (Nat.le_refl _) (.int .i64 T))
  go_wp2_with fail
  clear hct hfr BT BEL
  obtain ⟨WS, hWS⟩ : ∃ WS, WS = W5.setCell ⟨w.heap.size, 0, none⟩ (.int .i64 T) := ⟨_, rfl⟩
  rw [← hWS] at BT2 BEL2 ⊢
  have BT := BT2
  have BEL := BEL2
  clear BT2 BEL2 hWS
  have KDc := Lib.hid (KD.out.below BEL.out)
  have KFc := Lib.hid (KF.out.below BEL.out)
  clear KD KF
  have hct := BT.out.cell (i := 0) rfl
  go_wp2_with fail
  clear hct
  refine (kFilled_any _ _ (T) _ KDc.out (by omega)).mono ?_
  rintro e W6 ⟨vFD, rfl, ho, hb⟩
  try dsimp only
  replace BT := Lib.hid (BT.out.below hb)
  replace KDc := Lib.hid (KDc.out.below hb)
  replace KFc := Lib.hid (KFc.out.below hb)
  replace BEL := Lib.hid (below_trans BEL.out hb BEL.out.size)
  have hdl := fillL_length ds (T)
  obtain ⟨D, hD⟩ : ∃ D, D = fillL ds (T) := ⟨_, rfl⟩
  rw [← hD] at hdl ho
  have FD := Lib.hid ho.is
  have HDL := Lib.hid hdl
  clear ho hb hdl hD
  have hct := BT.out.cell (i := 0) rfl
  go_wp2_with fail
  clear hct
  refine (sDeal_ok x _ D N _ hx FD.out (by rw [HDL.out]; exact hT) (by rw [HDL.out]; omega) hN2).mono ?_
  rintro e W7 ⟨vKA, rfl, ho, hb⟩
  try dsimp only
  replace BT := Lib.hid (BT.out.below hb)
  replace KDc := Lib.hid (KDc.out.below hb)
  replace KFc := Lib.hid (KFc.out.below hb)
  replace FD := Lib.hid (FD.out.below hb)
  replace BEL := Lib.hid (below_trans BEL.out hb BEL.out.size)
  obtain ⟨A, hA⟩ : ∃ A, A = deal N (toFs (x :: D)) := ⟨_, rfl⟩
  rw [← hA] at ho
  have KA := Lib.hid ho.is
  have SA := Lib.hid (show Shared N T A (toF x) by rw [hA]; exact Shared.dealt (toF x) (by rw [List.length_map, HDL.out]; exact Nat.le_refl _))
  have HAL := Lib.hid (show (ofFs A).length = N by rw [hA, ofFs_length, deal_length])
  clear ho hb hA
  have hct := BT.out.cell (i := 0) rfl
  go_wp2_with fail
  clear hct
  refine (kFilled_any _ _ (T) _ KFc.out (by omega)).mono ?_
  rintro e W8 ⟨vFE, rfl, ho, hb⟩
  try dsimp only
  replace BT := Lib.hid (BT.out.below hb)
  replace KDc := Lib.hid (KDc.out.below hb)
  replace KFc := Lib.hid (KFc.out.below hb)
  replace FD := Lib.hid (FD.out.below hb)
  replace KA := Lib.hid (KA.out.below hb)
  replace BEL := Lib.hid (below_trans BEL.out hb BEL.out.size)
  have hdl := fillL_length fs (T)
  obtain ⟨E, hD⟩ : ∃ D, D = fillL fs (T) := ⟨_, rfl⟩
  rw [← hD] at hdl ho
  have FE := Lib.hid ho.is
  have HEL := Lib.hid hdl
  clear ho hb hdl hD
  have hct := BT.out.cell (i := 0) rfl
  go_wp2_with fail
  clear hct
  refine (sDeal_ok y _ E N _ hy FE.out (by rw [HEL.out]; exact hT) (by rw [HEL.out]; omega) hN2).mono ?_
  rintro e W9 ⟨vKB, rfl, ho, hb⟩
  try dsimp only
  replace BT := Lib.hid (BT.out.below hb)
  replace KDc := Lib.hid (KDc.out.below hb)
  replace KFc := Lib.hid (KFc.out.below hb)
  replace FD := Lib.hid (FD.out.below hb)
  replace KA := Lib.hid (KA.out.below hb)
  replace FE := Lib.hid (FE.out.below hb)
  replace BEL := Lib.hid (below_trans BEL.out hb BEL.out.size)
  obtain ⟨B, hA⟩ : ∃ A, A = deal N (toFs (y :: E)) := ⟨_, rfl⟩
  rw [← hA] at ho
  have KB := Lib.hid ho.is
  have SB := Lib.hid (show Shared N T B (toF y) by rw [hA]; exact Shared.dealt (toF y) (by rw [List.length_map, HEL.out]; exact Nat.le_refl _))
  have HBL := Lib.hid (show (ofFs B).length = N by rw [hA, ofFs_length, deal_length])
  clear ho hb hA
  clear KDc KFc FD FE
  obtain ⟨Wd, hWd⟩ : ∃ Wd, Wd = W9 := ⟨_, rfl⟩
  rw [← hWd] at BT BEL KA KB ⊢
  clear hWd
  have BO := Lib.hid (Box.new Wd 4 [.bool true])
  have B8 := Lib.hid ((Below.refl Wd.heap.size Wd).alloc (Nat.le_refl _) (.cells [Value.bool true].toArray 4))
  go_wp2_with fail
  generalize hW : Wd.alloc (.cells [Value.bool true].toArray 4) = V0 at *
  clear hW
  obtain ⟨q1, q2⟩ := each_lin (· + ·) 1 1 (fun u v => by grind) HAL.out HBL.out (by omega) hN2
  have KAc := Lib.hid (KA.out.below B8.out)
  have KBc := Lib.hid (KB.out.below B8.out)
  refine (gAdd_any _ _ _ _ _ KAc.out KBc.out).mono ?_
  rintro e X1 ⟨v1, rfl, ho, hb⟩
  rw [q1] at ho
  rw [q2]
  have S1 := Lib.hid (SA.out.map2 SB.out 1 1)
  obtain ⟨M, hM⟩ : ∃ M, M = List.zipWith (fun u v => (1 : F) * u + 1 * v) A B := ⟨_, rfl⟩
  rw [← hM] at ho S1
  have H1L := Lib.hid (show (ofFs M).length = N by rw [hM, ofFs_length]; have h1 := HAL.out; have h2 := HBL.out; rw [ofFs_length] at h1 h2; first | (rw [List.length_zipWith]; omega) | (rw [List.length_map]; omega))
  replace BO := Lib.hid (BO.out.below hb)
  replace B8 := Lib.hid (below_trans B8.out hb B8.out.size)
  have KM1 := Lib.hid ho.is
  clear ho hb hM q1 q2 KAc KBc
  try dsimp only
  go_wp2_with fail
  refine (fAdd_any x y _ hx.1 hy.1).mono ?_
  rintro e w' ⟨rfl, rfl⟩
  rw [show toF x + toF y = 1 * toF x + 1 * toF y by grind]
  try dsimp only
  go_wp2_with fail
  refine (linIs_any _ M _ T N w.heap.size Wd.heap.size _ KM1.out S1.out hT hN1 hN2 H1L.out (BT.out.below B8.out) BO.out).mono ?_
  rintro e w' ⟨rfl, V1, hb, rfl⟩
  replace BO := Lib.hid (show Box (V1.setCell ⟨Wd.heap.size, 0, none⟩ (.bool true)) Wd.heap.size 4 [.bool true] from (BO.out.below hb).set 0 _)
  replace B8 := Lib.hid ((below_trans B8.out hb B8.out.size).setCell (p := ⟨Wd.heap.size, 0, none⟩) (Nat.le_refl _) (.bool true))
  clear hb KM1 S1 H1L
  generalize hW : V1.setCell ⟨Wd.heap.size, 0, none⟩ (.bool true) = Y1 at *
  clear hW
  try dsimp only
  go_wp2_with fail
  obtain ⟨q1, q2⟩ := each_lin (· - ·) 1 (-1) (fun u v => by grind) HAL.out HBL.out (by omega) hN2
  have KAc := Lib.hid (KA.out.below B8.out)
  have KBc := Lib.hid (KB.out.below B8.out)
  refine (gSub_any _ _ _ _ _ KAc.out KBc.out).mono ?_
  rintro e X2 ⟨v2, rfl, ho, hb⟩
  rw [q1] at ho
  rw [q2]
  have S2 := Lib.hid (SA.out.map2 SB.out 1 (-1))
  obtain ⟨M, hM⟩ : ∃ M, M = List.zipWith (fun u v => (1 : F) * u + (-1) * v) A B := ⟨_, rfl⟩
  rw [← hM] at ho S2
  have H2L := Lib.hid (show (ofFs M).length = N by rw [hM, ofFs_length]; have h1 := HAL.out; have h2 := HBL.out; rw [ofFs_length] at h1 h2; first | (rw [List.length_zipWith]; omega) | (rw [List.length_map]; omega))
  replace BO := Lib.hid (BO.out.below hb)
  replace B8 := Lib.hid (below_trans B8.out hb B8.out.size)
  have KM2 := Lib.hid ho.is
  clear ho hb hM q1 q2 KAc KBc
  try dsimp only
  go_wp2_with fail
  refine (fSub_any x y _ hx.1 hy.1).mono ?_
  rintro e w' ⟨rfl, rfl⟩
  rw [show toF x - toF y = 1 * toF x + (-1) * toF y by grind]
  try dsimp only
  go_wp2_with fail
  refine (linIs_any _ M _ T N w.heap.size Wd.heap.size _ KM2.out S2.out hT hN1 hN2 H2L.out (BT.out.below B8.out) BO.out).mono ?_
  rintro e w' ⟨rfl, V2, hb, rfl⟩
  replace BO := Lib.hid (show Box (V2.setCell ⟨Wd.heap.size, 0, none⟩ (.bool true)) Wd.heap.size 4 [.bool true] from (BO.out.below hb).set 0 _)
  replace B8 := Lib.hid ((below_trans B8.out hb B8.out.size).setCell (p := ⟨Wd.heap.size, 0, none⟩) (Nat.le_refl _) (.bool true))
  clear hb KM2 S2 H2L
  generalize hW : V2.setCell ⟨Wd.heap.size, 0, none⟩ (.bool true) = Y2 at *
  clear hW
  try dsimp only
  go_wp2_with fail
  obtain ⟨q1, q2⟩ := one_mul k HAL.out (by omega) hN2
  have KAc := Lib.hid (KA.out.below B8.out)
  have KBc := Lib.hid (KB.out.below B8.out)
  refine (gScale_any _ _ k _ KAc.out hk).mono ?_
  rintro e X3 ⟨v3, rfl, ho, hb⟩
  rw [q1] at ho
  rw [q2]
  have S3 := Lib.hid (Shared.mapc SA.out (toF k))
  obtain ⟨M, hM⟩ : ∃ M, M = A.map (fun u => toF k * u) := ⟨_, rfl⟩
  rw [← hM] at ho S3
  have H3L := Lib.hid (show (ofFs M).length = N by rw [hM, ofFs_length]; have h1 := HAL.out; have h2 := HBL.out; rw [ofFs_length] at h1 h2; first | (rw [List.length_zipWith]; omega) | (rw [List.length_map]; omega))
  replace BO := Lib.hid (BO.out.below hb)
  replace B8 := Lib.hid (below_trans B8.out hb B8.out.size)
  have KM3 := Lib.hid ho.is
  clear ho hb hM q1 q2 KAc KBc
  try dsimp only
  go_wp2_with fail
  refine (fMul_any x k _ hx.1 hk.1).mono ?_
  rintro e w' ⟨rfl, rfl⟩
  rw [show toF x * toF k = toF k * toF x by grind]
  try dsimp only
  go_wp2_with fail
  refine (linIs_any _ M _ T N w.heap.size Wd.heap.size _ KM3.out S3.out hT hN1 hN2 H3L.out (BT.out.below B8.out) BO.out).mono ?_
  rintro e w' ⟨rfl, V3, hb, rfl⟩
  replace BO := Lib.hid (show Box (V3.setCell ⟨Wd.heap.size, 0, none⟩ (.bool true)) Wd.heap.size 4 [.bool true] from (BO.out.below hb).set 0 _)
  replace B8 := Lib.hid ((below_trans B8.out hb B8.out.size).setCell (p := ⟨Wd.heap.size, 0, none⟩) (Nat.le_refl _) (.bool true))
  clear hb KM3 S3 H3L
  generalize hW : V3.setCell ⟨Wd.heap.size, 0, none⟩ (.bool true) = Y3 at *
  clear hW
  try dsimp only
  go_wp2_with fail
  obtain ⟨q1, q2⟩ := one_lin (· + ·) 1 (toF k) k (fun u => by grind) HAL.out (by omega) hN2
  have KAc := Lib.hid (KA.out.below B8.out)
  have KBc := Lib.hid (KB.out.below B8.out)
  refine (gPlus_any _ _ k _ KAc.out hk).mono ?_
  rintro e X4 ⟨v4, rfl, ho, hb⟩
  rw [q1] at ho
  rw [q2]
  have S4 := Lib.hid (Shared.map1 SA.out 1 (toF k))
  obtain ⟨M, hM⟩ : ∃ M, M = A.map (fun u => (1 : F) * u + toF k) := ⟨_, rfl⟩
  rw [← hM] at ho S4
  have H4L := Lib.hid (show (ofFs M).length = N by rw [hM, ofFs_length]; have h1 := HAL.out; have h2 := HBL.out; rw [ofFs_length] at h1 h2; first | (rw [List.length_zipWith]; omega) | (rw [List.length_map]; omega))
  replace BO := Lib.hid (BO.out.below hb)
  replace B8 := Lib.hid (below_trans B8.out hb B8.out.size)
  have KM4 := Lib.hid ho.is
  clear ho hb hM q1 q2 KAc KBc
  try dsimp only
  go_wp2_with fail
  refine (fAdd_any x k _ hx.1 hk.1).mono ?_
  rintro e w' ⟨rfl, rfl⟩
  rw [show toF x + toF k = 1 * toF x + toF k by grind]
  try dsimp only
  go_wp2_with fail
  refine (linIs_any _ M _ T N w.heap.size Wd.heap.size _ KM4.out S4.out hT hN1 hN2 H4L.out (BT.out.below B8.out) BO.out).mono ?_
  rintro e w' ⟨rfl, V4, hb, rfl⟩
  replace BO := Lib.hid (show Box (V4.setCell ⟨Wd.heap.size, 0, none⟩ (.bool true)) Wd.heap.size 4 [.bool true] from (BO.out.below hb).set 0 _)
  replace B8 := Lib.hid ((below_trans B8.out hb B8.out.size).setCell (p := ⟨Wd.heap.size, 0, none⟩) (Nat.le_refl _) (.bool true))
  clear hb KM4 S4 H4L
  generalize hW : V4.setCell ⟨Wd.heap.size, 0, none⟩ (.bool true) = Y4 at *
  clear hW
  try dsimp only
  have hco := BO.out.cell (i := 0) rfl
  go_wp2_with fail
  go_ret
  exact ⟨rfl, below_trans BEL.out B8.out BEL.out.size⟩
end Go.Proofs.Ytliegjpnjfmklaa
