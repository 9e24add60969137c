/- The law CircuitSums, walked. -/
import Derived.Test.YtnojmphggdndmaaCircT
import Derived.Test.YtnojmphggdndmaaKeepW
import Derived.Deep.RegionHeld3
namespace Go.Proofs.Ytnojmphggdndmaa
open Go.RowKit Croft

theorem tiny_run : runL tinyG [4] [3, 4] = [19] ∧ runE tinyG [4] [3, 4] = 0 := by decide +kernel
theorem part_set (T : List Int) (x : Int) {k m : Nat} (hT : T.length = m) (hk : k < m) {z : Int} (hz : T[k]? = some z) : (T.take k ++ List.replicate (m - k) x).set k z = T.take (k + 1) ++ List.replicate (m - (k + 1)) x := by
  obtain ⟨d, hd⟩ : ∃ d, m - k = d + 1 := ⟨m - k - 1, by omega⟩
  rw [List.set_append_right _ _ (by simp; omega), hd, show m - (k + 1) = d by omega, List.replicate_succ, List.take_add_one, hz]
  simp [List.length_take, Nat.min_eq_left (show k ≤ T.length by omega)]
theorem part_get (T : List Int) (x : Int) {k m : Nat} (hT : T.length = m) (hk : k < m) : (T.take k ++ List.replicate (m - k) x)[k]? = some x := by
  rw [List.getElem?_append_right (by simp; omega), List.length_take, Nat.min_eq_left (by omega), Nat.sub_self, List.getElem?_replicate, if_pos (by omega)]
theorem zipS_get {X Y : List Int} {k : Nat} {x y : Int} (hx : X[k]? = some x) (hy : Y[k]? = some y) (op : F → F → F) : (zipS op X Y)[k]? = some (ofF (op (toF x) (toF y))) := by
  unfold zipS
  simp [List.getElem?_zipWith, hx, hy]
theorem co_zipS (X Y : List Int) (h : X.length = Y.length) (i : Nat) : co (toFs (zipS (· + ·) X Y)) i = co (toFs X) i + co (toFs Y) i := by
  rcases Nat.lt_or_ge i X.length with hi | hi
  · have hx : X[i]? = some X[i] := List.getElem?_eq_getElem hi
    have hy : Y[i]? = some (Y[i]'(by omega)) := List.getElem?_eq_getElem (by omega)
    rw [co_toFs (zipS_get hx hy (· + ·)), co_toFs hx, co_toFs hy, toF_ofF]
  · rw [co_of_le (by rw [toFs_length, zipS_length]; omega), co_of_le (by rw [toFs_length]; exact hi), co_of_le (by rw [toFs_length]; omega), F_az]
theorem co_zeros (m i : Nat) : co (toFs (List.replicate m 0)) i = 0 := by
  rcases Nat.lt_or_ge i m with hi | hi
  · rw [co_toFs (z := 0) (by simp [hi]), toF_zero]
  · rw [co_of_le (by rw [toFs_length]; simpa using hi)]
theorem couts_length (gs : List Gt) (os : List Int) (I : List F) : (couts gs os I).length = os.length := by simp [couts]
theorem co_couts {gs : List Gt} {os : List Int} (I : List F) {i : Nat} {o : Int} (h : os[i]? = some o) : co (couts gs os I) i = co (cw gs I gs.length) o.toNat := co_get (by simp [couts, h])
theorem mulB_none {gs : List Gt} (h : mulB gs = false) : ∀ g ∈ gs, g.kind ≠ 5 := fun g hg he => by
  have : mulB gs = true := by unfold mulB; rw [List.any_eq_true]; exact ⟨g, hg, by simp [he]⟩
  rw [h] at this; cases this
theorem outs_sum {gs : List Gt} {os : List Int} {X Y : List Int} (hl : X.length = Y.length) (m : Nat) (hm : mulB gs = false) {i : Nat} (hi : i < os.length) :
    co (couts gs os (toFs (zipS (· + ·) X Y))) i + co (couts gs os (toFs (List.replicate m 0))) i = co (couts gs os (toFs X)) i + co (couts gs os (toFs Y)) i := by
  have ho : os[i]? = some os[i] := List.getElem?_eq_getElem hi
  rw [co_couts _ ho, co_couts _ ho, co_couts _ ho, co_couts _ ho]
  exact sums_tell gs _ _ _ _ (co_zipS X Y hl) (co_zeros m) (mulB_none hm) gs.length (Nat.le_refl _) _

set_option maxRecDepth 100000 in
set_option maxHeartbeats 2000000 in
theorem circuitSums_a (v va vb : Value) (gs : List Gt) (os xs ys : List Int) (w : World) (h : IsCirc w v gs os) (h1 : IsNums w va xs) (h2 : IsNums w vb ys) (h0 : circE gs os ≠ 0) :
    Calls Try.prog 13 #[v, va, vb] w fun e w' => e = .returned (.bool true) ∧ Below w.heap.size w w' := by
  have KC := Lib.hid h
  have KA := Lib.hid h1
  have KB := Lib.hid h2
  obtain ⟨vg, vo, rfl, hg, ho⟩ := h
  have KG := Lib.hid hg
  obtain ⟨A1, c1, rfl, hc1, hm1, hl1, hu1, hr1⟩ := hg
  obtain ⟨A2, c2, rfl, hc2, hm2, hl2, hu2, hr2⟩ := ho
  obtain ⟨Aa, ca, rfl, hca, hma, hla, hua, hra⟩ := h1
  obtain ⟨Ab, cb, rfl, hcb, hmb, hlb, hub, hrb⟩ := h2
  have BEL := Lib.hid (Below.refl w.heap.size w)
  clear hu1 hr1 hm1 hu2 hr2 hm2 hua hra hma hub hrb hmb
  have hb0 : (circE gs os != 0) = true := by rw [bne_iff_ne]; exact h0
  clear h0
  go_enter Try.func13, Try.ntmps13
  go_wp2_with fail
  have BX := Lib.hid (Box.new w 68 [.slice A1 gs.length c1, .slice A2 os.length c2])
  have hb := (Below.refl w.heap.size w).alloc (Nat.le_refl _) (.cells [Value.slice A1 gs.length c1, Value.slice A2 os.length c2].toArray 68)
  replace KC := Lib.hid (KC.out.below hb)
  replace KA := Lib.hid (KA.out.below hb)
  replace KB := Lib.hid (KB.out.below hb)
  replace KG := Lib.hid (KG.out.below hb)
  replace BEL := Lib.hid (below_trans BEL.out hb BEL.out.size)
  clear hb
  generalize hW : w.alloc (.cells [Value.slice A1 gs.length c1, Value.slice A2 os.length c2].toArray 68) = W1 at *
  clear hW
  refine (kTiny_any _).mono ?_
  rintro e WT ⟨vt, rfl, ht, hb⟩
  replace KC := Lib.hid (KC.out.below hb)
  replace KA := Lib.hid (KA.out.below hb)
  replace KB := Lib.hid (KB.out.below hb)
  replace KG := Lib.hid (KG.out.below hb)
  replace BX := Lib.hid (BX.out.below hb)
  replace BEL := Lib.hid (below_trans BEL.out hb BEL.out.size)
  have KT := Lib.hid ht
  clear ht hb
  go_wp2_with fail
  have L340 := lit_nums (WT) [3, 4] (by intro z hz; simp only [List.mem_cons, List.not_mem_nil, or_false] at hz; rcases hz with rfl | rfl <;> first | exact ⟨by omega, by omega⟩ | exact U64.of_ofF _) (by simp)
  simp only [u64s, List.map_cons, List.map_nil, List.length_cons, List.length_nil] at L340
  have hb := (Below.refl (WT).heap.size (WT)).alloc (Nat.le_refl _) (.cells #[Value.int .u64 3, Value.int .u64 4] 25)
  replace KC := Lib.hid (KC.out.below hb)
  replace KA := Lib.hid (KA.out.below hb)
  replace KB := Lib.hid (KB.out.below hb)
  replace KG := Lib.hid (KG.out.below hb)
  replace BX := Lib.hid (BX.out.below hb)
  replace KT := Lib.hid (KT.out.below hb)
  replace BEL := Lib.hid (below_trans BEL.out hb BEL.out.size)
  clear hb
  have L34 := Lib.hid L340
  clear L340
  generalize hW : (WT).alloc (.cells #[Value.int .u64 3, Value.int .u64 4] 25) = W2 at *
  clear hW
  refine (cRun_any _ _ _ _ [3, 4] _ KT.out L34.out).mono ?_
  rintro e WR ⟨vr, rfl, ho, hb⟩
  rw [tiny_run.1] at ho
  rw [tiny_run.2]
  try dsimp only
  replace KC := Lib.hid (KC.out.below hb)
  replace KA := Lib.hid (KA.out.below hb)
  replace KB := Lib.hid (KB.out.below hb)
  replace KG := Lib.hid (KG.out.below hb)
  replace BX := Lib.hid (BX.out.below hb)
  replace KT := Lib.hid (KT.out.below hb)
  replace L34 := Lib.hid (L34.out.below hb)
  replace BEL := Lib.hid (below_trans BEL.out hb BEL.out.size)
  have KR := Lib.hid ho.is
  clear ho hb
  go_wp2_with fail
  have L190 := lit_nums (WR) [19] (by intro z hz; simp only [List.mem_cons, List.not_mem_nil, or_false] at hz; subst hz; first | exact ⟨by omega, by omega⟩ | exact U64.of_ofF _) (by simp)
  simp only [u64s, List.map_cons, List.map_nil, List.length_cons, List.length_nil] at L190
  have hb := (Below.refl (WR).heap.size (WR)).alloc (Nat.le_refl _) (.cells #[Value.int .u64 19] 25)
  replace KC := Lib.hid (KC.out.below hb)
  replace KA := Lib.hid (KA.out.below hb)
  replace KB := Lib.hid (KB.out.below hb)
  replace KG := Lib.hid (KG.out.below hb)
  replace BX := Lib.hid (BX.out.below hb)
  replace KR := Lib.hid (KR.out.below hb)
  replace BEL := Lib.hid (below_trans BEL.out hb BEL.out.size)
  clear hb
  have L19 := Lib.hid L190
  clear L190
  generalize hW : (WR).alloc (.cells #[Value.int .u64 19] 25) = W3 at *
  clear hW
  refine (equal_any _ _ _ _ _ KR.out L19.out).mono ?_
  rintro e w' ⟨rfl, nd, rfl⟩
  rw [decide_eq_true rfl]
  try dsimp only
  clear KR L19
  have hb := below_drewN (Below.refl W3.heap.size W3) nd
  replace KC := Lib.hid (KC.out.below hb)
  replace KA := Lib.hid (KA.out.below hb)
  replace KB := Lib.hid (KB.out.below hb)
  replace KG := Lib.hid (KG.out.below hb)
  replace BX := Lib.hid (BX.out.below hb)
  replace BEL := Lib.hid (below_trans BEL.out hb BEL.out.size)
  clear hb
  generalize hW : W3.drewN nd = W4 at *
  clear hW
  have hc0 := BX.out.cell (i := 0) rfl
  have hc1' := BX.out.cell (i := 1) rfl
  go_wp2_with fail
  refine (cInputs_any _ gs os _ KC.out).mono ?_
  rintro e WI ⟨vw, rfl, ho, hb⟩
  clear hc0 hc1'
  try dsimp only
  replace KC := Lib.hid (KC.out.below hb)
  replace KA := Lib.hid (KA.out.below hb)
  replace KB := Lib.hid (KB.out.below hb)
  replace KG := Lib.hid (KG.out.below hb)
  replace BX := Lib.hid (BX.out.below hb)
  replace BEL := Lib.hid (below_trans BEL.out hb BEL.out.size)
  clear ho hb
  go_wp2_with fail
  go_ret
  exact ⟨rfl, BEL.out⟩
set_option maxRecDepth 100000 in
set_option maxHeartbeats 2000000 in
theorem circuitSums_b (v va vb : Value) (gs : List Gt) (os xs ys : List Int) (w : World) (h : IsCirc w v gs os) (h1 : IsNums w va xs) (h2 : IsNums w vb ys) (h0 : circE gs os = 0) (hm : mulB gs = true) :
    Calls Try.prog 13 #[v, va, vb] w fun e w' => e = .returned (.bool true) ∧ Below w.heap.size w w' := by
  have KC := Lib.hid h
  have KA := Lib.hid h1
  have KB := Lib.hid h2
  obtain ⟨vg, vo, rfl, hg, ho⟩ := h
  have KG := Lib.hid hg
  obtain ⟨A1, c1, rfl, hc1, hm1, hl1, hu1, hr1⟩ := hg
  obtain ⟨A2, c2, rfl, hc2, hm2, hl2, hu2, hr2⟩ := ho
  obtain ⟨Aa, ca, rfl, hca, hma, hla, hua, hra⟩ := h1
  obtain ⟨Ab, cb, rfl, hcb, hmb, hlb, hub, hrb⟩ := h2
  have BEL := Lib.hid (Below.refl w.heap.size w)
  clear hu1 hr1 hm1 hu2 hr2 hm2 hua hra hma hub hrb hmb
  have HE := Lib.hid h0
  have HE0 := Lib.hid h0
  have OK := Lib.hid (circE_zero.1 h0)
  have HM := Lib.hid hm
  have HI := Lib.hid (show inputsL gs os = whoseL gs from if_pos h0)
  have hcf : ∀ (x : Value) (W : World), (callFunc 56 #[x]).run Try.prog W = .ok (.enter 56 #[x]) W := fun x W => by kernel_rfl
  clear h0 hm
  go_enter Try.func13, Try.ntmps13
  go_wp2_with fail
  have BX := Lib.hid (Box.new w 68 [.slice A1 gs.length c1, .slice A2 os.length c2])
  have hb := (Below.refl w.heap.size w).alloc (Nat.le_refl _) (.cells [Value.slice A1 gs.length c1, Value.slice A2 os.length c2].toArray 68)
  replace KC := Lib.hid (KC.out.below hb)
  replace KA := Lib.hid (KA.out.below hb)
  replace KB := Lib.hid (KB.out.below hb)
  replace KG := Lib.hid (KG.out.below hb)
  replace BEL := Lib.hid (below_trans BEL.out hb BEL.out.size)
  clear hb
  generalize hW : w.alloc (.cells [Value.slice A1 gs.length c1, Value.slice A2 os.length c2].toArray 68) = W1 at *
  clear hW
  refine (kTiny_any _).mono ?_
  rintro e WT ⟨vt, rfl, ht, hb⟩
  replace KC := Lib.hid (KC.out.below hb)
  replace KA := Lib.hid (KA.out.below hb)
  replace KB := Lib.hid (KB.out.below hb)
  replace KG := Lib.hid (KG.out.below hb)
  replace BX := Lib.hid (BX.out.below hb)
  replace BEL := Lib.hid (below_trans BEL.out hb BEL.out.size)
  have KT := Lib.hid ht
  clear ht hb
  go_wp2_with fail
  have L340 := lit_nums (WT) [3, 4] (by intro z hz; simp only [List.mem_cons, List.not_mem_nil, or_false] at hz; rcases hz with rfl | rfl <;> first | exact ⟨by omega, by omega⟩ | exact U64.of_ofF _) (by simp)
  simp only [u64s, List.map_cons, List.map_nil, List.length_cons, List.length_nil] at L340
  have hb := (Below.refl (WT).heap.size (WT)).alloc (Nat.le_refl _) (.cells #[Value.int .u64 3, Value.int .u64 4] 25)
  replace KC := Lib.hid (KC.out.below hb)
  replace KA := Lib.hid (KA.out.below hb)
  replace KB := Lib.hid (KB.out.below hb)
  replace KG := Lib.hid (KG.out.below hb)
  replace BX := Lib.hid (BX.out.below hb)
  replace KT := Lib.hid (KT.out.below hb)
  replace BEL := Lib.hid (below_trans BEL.out hb BEL.out.size)
  clear hb
  have L34 := Lib.hid L340
  clear L340
  generalize hW : (WT).alloc (.cells #[Value.int .u64 3, Value.int .u64 4] 25) = W2 at *
  clear hW
  refine (cRun_any _ _ _ _ [3, 4] _ KT.out L34.out).mono ?_
  rintro e WR ⟨vr, rfl, ho, hb⟩
  rw [tiny_run.1] at ho
  rw [tiny_run.2]
  try dsimp only
  replace KC := Lib.hid (KC.out.below hb)
  replace KA := Lib.hid (KA.out.below hb)
  replace KB := Lib.hid (KB.out.below hb)
  replace KG := Lib.hid (KG.out.below hb)
  replace BX := Lib.hid (BX.out.below hb)
  replace KT := Lib.hid (KT.out.below hb)
  replace L34 := Lib.hid (L34.out.below hb)
  replace BEL := Lib.hid (below_trans BEL.out hb BEL.out.size)
  have KR := Lib.hid ho.is
  clear ho hb
  go_wp2_with fail
  have L190 := lit_nums (WR) [19] (by intro z hz; simp only [List.mem_cons, List.not_mem_nil, or_false] at hz; subst hz; first | exact ⟨by omega, by omega⟩ | exact U64.of_ofF _) (by simp)
  simp only [u64s, List.map_cons, List.map_nil, List.length_cons, List.length_nil] at L190
  have hb := (Below.refl (WR).heap.size (WR)).alloc (Nat.le_refl _) (.cells #[Value.int .u64 19] 25)
  replace KC := Lib.hid (KC.out.below hb)
  replace KA := Lib.hid (KA.out.below hb)
  replace KB := Lib.hid (KB.out.below hb)
  replace KG := Lib.hid (KG.out.below hb)
  replace BX := Lib.hid (BX.out.below hb)
  replace KR := Lib.hid (KR.out.below hb)
  replace BEL := Lib.hid (below_trans BEL.out hb BEL.out.size)
  clear hb
  have L19 := Lib.hid L190
  clear L190
  generalize hW : (WR).alloc (.cells #[Value.int .u64 19] 25) = W3 at *
  clear hW
  refine (equal_any _ _ _ _ _ KR.out L19.out).mono ?_
  rintro e w' ⟨rfl, nd, rfl⟩
  rw [decide_eq_true rfl]
  try dsimp only
  clear KR L19
  have hb := below_drewN (Below.refl W3.heap.size W3) nd
  replace KC := Lib.hid (KC.out.below hb)
  replace KA := Lib.hid (KA.out.below hb)
  replace KB := Lib.hid (KB.out.below hb)
  replace KG := Lib.hid (KG.out.below hb)
  replace BX := Lib.hid (BX.out.below hb)
  replace BEL := Lib.hid (below_trans BEL.out hb BEL.out.size)
  clear hb
  generalize hW : W3.drewN nd = W4 at *
  clear hW
  have hc0 := BX.out.cell (i := 0) rfl
  have hc1' := BX.out.cell (i := 1) rfl
  go_wp2_with fail
  refine (cInputs_any _ gs os _ KC.out).mono ?_
  rintro e WI ⟨vw, rfl, ho, hb⟩
  clear hc0 hc1'
  try dsimp only
  replace KC := Lib.hid (KC.out.below hb)
  replace KA := Lib.hid (KA.out.below hb)
  replace KB := Lib.hid (KB.out.below hb)
  replace KG := Lib.hid (KG.out.below hb)
  replace BX := Lib.hid (BX.out.below hb)
  replace BEL := Lib.hid (below_trans BEL.out hb BEL.out.size)
  rw [HE.out]
  rw [HI.out] at ho
  obtain ⟨Aw, cw', hv, _, _⟩ := own_form ho.1
  subst hv
  have KW := Lib.hid ho.is
  clear ho hb
  have hc0 := BX.out.cell (i := 0) rfl
  have hc1' := BX.out.cell (i := 1) rfl
  go_wp2_with fail
  refine (hasGates_any 56 _ gs _ KG.out (fun x W => isMul_any _ x W rfl) hcf).mono ?_
  rintro e WH ⟨rfl, hb⟩
  rw [HM.out]
  try dsimp only
  clear hc0 hc1'
  replace KC := Lib.hid (KC.out.below hb)
  replace KA := Lib.hid (KA.out.below hb)
  replace KB := Lib.hid (KB.out.below hb)
  replace KG := Lib.hid (KG.out.below hb)
  replace BX := Lib.hid (BX.out.below hb)
  replace KW := Lib.hid (KW.out.below hb)
  replace BEL := Lib.hid (below_trans BEL.out hb BEL.out.size)
  clear hb
  go_wp2_with fail
  go_ret
  exact ⟨rfl, BEL.out⟩
set_option maxRecDepth 100000 in
set_option maxHeartbeats 2000000 in
theorem circuitSums_c (v va vb : Value) (gs : List Gt) (os xs ys : List Int) (w : World) (h : IsCirc w v gs os) (h1 : IsNums w va xs) (h2 : IsNums w vb ys) (h0 : circE gs os = 0) (hm : mulB gs = false) :
    Calls Try.prog 13 #[v, va, vb] w fun e w' => e = .returned (.bool true) ∧ Below w.heap.size w w' := by
  have KC := Lib.hid h
  have KA := Lib.hid h1
  have KB := Lib.hid h2
  obtain ⟨vg, vo, rfl, hg, ho⟩ := h
  have KG := Lib.hid hg
  obtain ⟨A1, c1, rfl, hc1, hm1, hl1, hu1, hr1⟩ := hg
  obtain ⟨A2, c2, rfl, hc2, hm2, hl2, hu2, hr2⟩ := ho
  obtain ⟨Aa, ca, rfl, hca, hma, hla, hua, hra⟩ := h1
  obtain ⟨Ab, cb, rfl, hcb, hmb, hlb, hub, hrb⟩ := h2
  have BEL := Lib.hid (Below.refl w.heap.size w)
  clear hu1 hr1 hm1 hu2 hr2 hm2 hua hra hma hub hrb hmb
  obtain ⟨m, hm0⟩ : ∃ m, m = (whoseL gs).length := ⟨_, rfl⟩
  have hm30 : m ≤ 30 := by have := whoseL_le gs; have := (circE_zero.1 h0).g2; omega
  have ho30 := (circE_zero.1 h0).o2
  have HM0 := Lib.hid hm0
  clear hm0
  have HE := Lib.hid h0
  have HE0 := Lib.hid h0
  have OK := Lib.hid (circE_zero.1 h0)
  have HM := Lib.hid hm
  have HI := Lib.hid (show inputsL gs os = whoseL gs from if_pos h0)
  have hcf : ∀ (x : Value) (W : World), (callFunc 56 #[x]).run Try.prog W = .ok (.enter 56 #[x]) W := fun x W => by kernel_rfl
  clear h0 hm
  go_enter Try.func13, Try.ntmps13
  go_wp2_with fail
  have BX := Lib.hid (Box.new w 68 [.slice A1 gs.length c1, .slice A2 os.length c2])
  have hb := (Below.refl w.heap.size w).alloc (Nat.le_refl _) (.cells [Value.slice A1 gs.length c1, Value.slice A2 os.length c2].toArray 68)
  replace KC := Lib.hid (KC.out.below hb)
  replace KA := Lib.hid (KA.out.below hb)
  replace KB := Lib.hid (KB.out.below hb)
  replace KG := Lib.hid (KG.out.below hb)
  replace BEL := Lib.hid (below_trans BEL.out hb BEL.out.size)
  clear hb
  generalize hW : w.alloc (.cells [Value.slice A1 gs.length c1, Value.slice A2 os.length c2].toArray 68) = W1 at *
  clear hW
  refine (kTiny_any _).mono ?_
  rintro e WT ⟨vt, rfl, ht, hb⟩
  replace KC := Lib.hid (KC.out.below hb)
  replace KA := Lib.hid (KA.out.below hb)
  replace KB := Lib.hid (KB.out.below hb)
  replace KG := Lib.hid (KG.out.below hb)
  replace BX := Lib.hid (BX.out.below hb)
  replace BEL := Lib.hid (below_trans BEL.out hb BEL.out.size)
  have KT := Lib.hid ht
  clear ht hb
  go_wp2_with fail
  have L340 := lit_nums (WT) [3, 4] (by intro z hz; simp only [List.mem_cons, List.not_mem_nil, or_false] at hz; rcases hz with rfl | rfl <;> first | exact ⟨by omega, by omega⟩ | exact U64.of_ofF _) (by simp)
  simp only [u64s, List.map_cons, List.map_nil, List.length_cons, List.length_nil] at L340
  have hb := (Below.refl (WT).heap.size (WT)).alloc (Nat.le_refl _) (.cells #[Value.int .u64 3, Value.int .u64 4] 25)
  replace KC := Lib.hid (KC.out.below hb)
  replace KA := Lib.hid (KA.out.below hb)
  replace KB := Lib.hid (KB.out.below hb)
  replace KG := Lib.hid (KG.out.below hb)
  replace BX := Lib.hid (BX.out.below hb)
  replace KT := Lib.hid (KT.out.below hb)
  replace BEL := Lib.hid (below_trans BEL.out hb BEL.out.size)
  clear hb
  have L34 := Lib.hid L340
  clear L340
  generalize hW : (WT).alloc (.cells #[Value.int .u64 3, Value.int .u64 4] 25) = W2 at *
  clear hW
  refine (cRun_any _ _ _ _ [3, 4] _ KT.out L34.out).mono ?_
  rintro e WR ⟨vr, rfl, ho, hb⟩
  rw [tiny_run.1] at ho
  rw [tiny_run.2]
  try dsimp only
  replace KC := Lib.hid (KC.out.below hb)
  replace KA := Lib.hid (KA.out.below hb)
  replace KB := Lib.hid (KB.out.below hb)
  replace KG := Lib.hid (KG.out.below hb)
  replace BX := Lib.hid (BX.out.below hb)
  replace KT := Lib.hid (KT.out.below hb)
  replace L34 := Lib.hid (L34.out.below hb)
  replace BEL := Lib.hid (below_trans BEL.out hb BEL.out.size)
  have KR := Lib.hid ho.is
  clear ho hb
  go_wp2_with fail
  have L190 := lit_nums (WR) [19] (by intro z hz; simp only [List.mem_cons, List.not_mem_nil, or_false] at hz; subst hz; first | exact ⟨by omega, by omega⟩ | exact U64.of_ofF _) (by simp)
  simp only [u64s, List.map_cons, List.map_nil, List.length_cons, List.length_nil] at L190
  have hb := (Below.refl (WR).heap.size (WR)).alloc (Nat.le_refl _) (.cells #[Value.int .u64 19] 25)
  replace KC := Lib.hid (KC.out.below hb)
  replace KA := Lib.hid (KA.out.below hb)
  replace KB := Lib.hid (KB.out.below hb)
  replace KG := Lib.hid (KG.out.below hb)
  replace BX := Lib.hid (BX.out.below hb)
  replace KR := Lib.hid (KR.out.below hb)
  replace BEL := Lib.hid (below_trans BEL.out hb BEL.out.size)
  clear hb
  have L19 := Lib.hid L190
  clear L190
  generalize hW : (WR).alloc (.cells #[Value.int .u64 19] 25) = W3 at *
  clear hW
  refine (equal_any _ _ _ _ _ KR.out L19.out).mono ?_
  rintro e w' ⟨rfl, nd, rfl⟩
  rw [decide_eq_true rfl]
  try dsimp only
  clear KR L19
  have hb := below_drewN (Below.refl W3.heap.size W3) nd
  replace KC := Lib.hid (KC.out.below hb)
  replace KA := Lib.hid (KA.out.below hb)
  replace KB := Lib.hid (KB.out.below hb)
  replace KG := Lib.hid (KG.out.below hb)
  replace BX := Lib.hid (BX.out.below hb)
  replace BEL := Lib.hid (below_trans BEL.out hb BEL.out.size)
  clear hb
  generalize hW : W3.drewN nd = W4 at *
  clear hW
  have hc0 := BX.out.cell (i := 0) rfl
  have hc1' := BX.out.cell (i := 1) rfl
  go_wp2_with fail
  refine (cInputs_any _ gs os _ KC.out).mono ?_
  rintro e WI ⟨vw, rfl, ho, hb⟩
  clear hc0 hc1'
  try dsimp only
  replace KC := Lib.hid (KC.out.below hb)
  replace KA := Lib.hid (KA.out.below hb)
  replace KB := Lib.hid (KB.out.below hb)
  replace KG := Lib.hid (KG.out.below hb)
  replace BX := Lib.hid (BX.out.below hb)
  replace BEL := Lib.hid (below_trans BEL.out hb BEL.out.size)
  rw [HE.out]
  rw [HI.out] at ho
  obtain ⟨Aw, cw', hv, _, _⟩ := own_form ho.1
  subst hv
  have KW := Lib.hid ho.is
  clear ho hb
  have hc0 := BX.out.cell (i := 0) rfl
  have hc1' := BX.out.cell (i := 1) rfl
  go_wp2_with fail
  refine (hasGates_any 56 _ gs _ KG.out (fun x W => isMul_any _ x W rfl) hcf).mono ?_
  rintro e WH ⟨rfl, hb⟩
  rw [HM.out]
  try dsimp only
  clear hc0 hc1'
  replace KC := Lib.hid (KC.out.below hb)
  replace KA := Lib.hid (KA.out.below hb)
  replace KB := Lib.hid (KB.out.below hb)
  replace KG := Lib.hid (KG.out.below hb)
  replace BX := Lib.hid (BX.out.below hb)
  replace KW := Lib.hid (KW.out.below hb)
  replace BEL := Lib.hid (below_trans BEL.out hb BEL.out.size)
  clear hb
  go_wp2_with fail
  rw [← HM0.out]
  refine (kFilled_any _ _ m _ KA.out (by omega)).mono ?_
  rintro e WX ⟨vx, rfl, ho, hb⟩
  try dsimp only
  replace KC := Lib.hid (KC.out.below hb)
  replace KA := Lib.hid (KA.out.below hb)
  replace KB := Lib.hid (KB.out.below hb)
  replace KG := Lib.hid (KG.out.below hb)
  replace BX := Lib.hid (BX.out.below hb)
  replace KW := Lib.hid (KW.out.below hb)
  replace BEL := Lib.hid (below_trans BEL.out hb BEL.out.size)
  have KX := Lib.hid ho.is
  clear ho hb
  go_wp2_with fail
  try rw [← HM0.out]
  refine (kFilled_any _ _ m _ KB.out (by omega)).mono ?_
  rintro e WY ⟨vy, rfl, ho, hb⟩
  try dsimp only
  replace KC := Lib.hid (KC.out.below hb)
  replace KA := Lib.hid (KA.out.below hb)
  replace KB := Lib.hid (KB.out.below hb)
  replace KG := Lib.hid (KG.out.below hb)
  replace BX := Lib.hid (BX.out.below hb)
  replace KW := Lib.hid (KW.out.below hb)
  replace KX := Lib.hid (KX.out.below hb)
  replace BEL := Lib.hid (below_trans BEL.out hb BEL.out.size)
  have KY := Lib.hid ho.is
  clear ho hb
  try rw [← HM0.out]
  obtain ⟨Ax, cx, hvx, hcx, _, _, _, _⟩ := KX.out
  obtain ⟨Ay, cy, hvy, hcy, _, _, _, _⟩ := KY.out
  rw [fillL_length] at hvx hvy hcx hcy
  subst hvx hvy
  obtain ⟨X, hX⟩ : ∃ X, X = fillL xs m := ⟨_, rfl⟩
  obtain ⟨Y, hY⟩ : ∃ Y, Y = fillL ys m := ⟨_, rfl⟩
  rw [← hX] at KX
  rw [← hY] at KY
  have HXL := Lib.hid (show X.length = m by rw [hX, fillL_length])
  have HYL := Lib.hid (show Y.length = m by rw [hY, fillL_length])
  obtain ⟨T, hT⟩ : ∃ T, T = zipS (· + ·) X Y := ⟨_, rfl⟩
  have HTL := Lib.hid (show T.length = m by rw [hT, zipS_length, HXL.out, HYL.out]; exact Nat.min_self _)
  have HT := Lib.hid hT
  clear hX hY hT
  
  have KC0 := KC
  have KA0 := KA
  have KB0 := KB
  have KG0 := KG
  have BX0 := BX
  have KW0 := KW
  have KX0 := KX
  have KY0 := KY
  have BEL0 := BEL
  go_wp2_with (refine wpList_make_nums rfl _ _ rfl WY.heap.size _ m rfl rfl (by first | rfl | rw [HM0.out]) (by omega) (Nat.le_refl _) ?_)
  intro WS ho hb
  have KS0 := Lib.hid ho
  have BS0 := Lib.hid hb
  clear ho
  clear hcx hcy
  replace KC := Lib.hid (KC.out.below hb)
  replace KA := Lib.hid (KA.out.below hb)
  replace KB := Lib.hid (KB.out.below hb)
  replace KG := Lib.hid (KG.out.below hb)
  replace BX := Lib.hid (BX.out.below hb)
  replace KW := Lib.hid (KW.out.below hb)
  replace KX := Lib.hid (KX.out.below hb)
  replace KY := Lib.hid (KY.out.below hb)
  replace BEL := Lib.hid (below_trans BEL.out hb BEL.out.size)
  clear hb
  go_wp2_with fail
  go_loopw [62] (fun i wr => ∃ k : Nat, k ≤ m ∧ i = .int .i64 k ∧ OwnNums wr WY.heap.size (.slice (some ⟨WY.heap.size, 0, none⟩) m m) (T.take k ++ List.replicate (m - k) 0) ∧ Below WY.heap.size WY wr) (fun i _ => m - (intOf i).toNat)
  case atStart => exact ⟨0, Nat.zero_le _, rfl, by simpa using KS0.out, BS0.out⟩
  case round =>
    obtain ⟨k, hk, rfl, hown, hbel⟩ := hrel
    have KS := Lib.hid hown
    have BS := Lib.hid hbel
    have hsz := hbel.size
    clear hown hbel KS0 BS0
    by_cases hlt : k < m
    · obtain ⟨A, c, hA, _, _, _, hux, hrx⟩ := KX0.out.below BS.out
      injection hA with hA1 hA2 hA3
      subst hA1 hA3
      clear hA2
      obtain ⟨bx, ox, x, rfl, hbx, hgx, hx64, hcx⟩ := nums_at hrx hux (k := k) (by rw [HXL.out]; exact hlt)
      obtain ⟨A, c, hA, _, _, _, huy, hry⟩ := KY0.out.below BS.out
      injection hA with hA1 hA2 hA3
      subst hA1 hA3
      clear hA2
      obtain ⟨by_, oy, y, rfl, hby, hgy, hy64, hcy⟩ := nums_at hry huy (k := k) (by rw [HYL.out]; exact hlt)
      have hx0 := hx64.1
      have hy0 := hy64.1
      have HTk := Lib.hid (show T[k]? = some (ofF (toF x + toF y)) by rw [HT.out]; exact zipS_get hgx hgy _)
      have hcs := KS.out.cell (part_get T 0 HTL.out hlt)
      have hfs := KS.out.frozen k
      have hset := KS.out.set_ k (U64.of_ofF (toF x + toF y))
      rw [part_set T 0 HTL.out hlt HTk.out] at hset
      have KS2 := Lib.hid hset
      have BS2 := Lib.hid (BS.out.setCell (p := ⟨WY.heap.size, k, none⟩) (Nat.le_refl _) (.int .u64 (ofF (toF x + toF y))))
      clear hux hrx huy hry hgx hgy hset hbx hby
      go_wp2_with fail
      refine wp_region_quiet_tail 11 (by kernel_rfl) (by kernel_rfl) ?_
      simp only [List.take_succ_cons, List.take_zero, List.drop_succ_cons, List.drop_zero]
      repeat (go_big_quiet_step ((exact quietL (fAdd_any _ _ _ hx0 hy0))))
      refine wpQuiet_nil ?_
      intro nq
      go_wp2_with fail
      refine ⟨⟨k + 1, by omega, by go_num, KS2.out.drewN nq, below_drewN BS2.out nq⟩, by simp [intOf] <;> omega⟩
    · obtain rfl : m = k := by omega
      have hsl := KS.out.is
      rw [Nat.sub_self, List.replicate_zero, List.append_nil, ← HTL.out, List.take_length, HTL.out] at hsl
      have KT2 := Lib.hid hsl
      clear hsl KS
      have hb := BS.out
      have KC := Lib.hid (KC0.out.below hb)
      have KA := Lib.hid (KA0.out.below hb)
      have KB := Lib.hid (KB0.out.below hb)
      have KG := Lib.hid (KG0.out.below hb)
      have BX := Lib.hid (BX0.out.below hb)
      have KW := Lib.hid (KW0.out.below hb)
      have KX := Lib.hid (KX0.out.below hb)
      have KY := Lib.hid (KY0.out.below hb)
      have BEL := Lib.hid (below_trans BEL0.out hb BEL0.out.size)
      clear hb BS
      clear KC0
      clear KA0
      clear KB0
      clear KG0
      clear BX0
      clear KW0
      clear KX0
      clear KY0
      clear BEL0
      obtain ⟨wl, hwl⟩ : ∃ wl, wl = wr := ⟨_, rfl⟩
      subst hwl
      have hc0 := BX.out.cell (i := 0) rfl
      have hc1' := BX.out.cell (i := 1) rfl
      go_wp2_with fail
      refine (cRun_ok _ _ gs os X _ KC.out KX.out HE0.out (by rw [HXL.out, HM0.out])).mono ?_
      rintro e WRP ⟨vP, rfl, ho, hb⟩
      try dsimp only
      clear hc0 hc1'
      replace KC := Lib.hid (KC.out.below hb)
      replace KA := Lib.hid (KA.out.below hb)
      replace KB := Lib.hid (KB.out.below hb)
      replace KG := Lib.hid (KG.out.below hb)
      replace BX := Lib.hid (BX.out.below hb)
      replace KW := Lib.hid (KW.out.below hb)
      replace KX := Lib.hid (KX.out.below hb)
      replace KY := Lib.hid (KY.out.below hb)
      replace KT2 := Lib.hid (KT2.out.below hb)
      replace BEL := Lib.hid (below_trans BEL.out hb BEL.out.size)
      have KP := Lib.hid ho.is
      clear ho hb
      have hc0 := BX.out.cell (i := 0) rfl
      have hc1' := BX.out.cell (i := 1) rfl
      go_wp2_with fail
      refine (cRun_ok _ _ gs os Y _ KC.out KY.out HE0.out (by rw [HYL.out, HM0.out])).mono ?_
      rintro e WRQ ⟨vQ, rfl, ho, hb⟩
      try dsimp only
      clear hc0 hc1'
      replace KC := Lib.hid (KC.out.below hb)
      replace KA := Lib.hid (KA.out.below hb)
      replace KB := Lib.hid (KB.out.below hb)
      replace KG := Lib.hid (KG.out.below hb)
      replace BX := Lib.hid (BX.out.below hb)
      replace KW := Lib.hid (KW.out.below hb)
      replace KX := Lib.hid (KX.out.below hb)
      replace KY := Lib.hid (KY.out.below hb)
      replace KT2 := Lib.hid (KT2.out.below hb)
      replace KP := Lib.hid (KP.out.below hb)
      replace BEL := Lib.hid (below_trans BEL.out hb BEL.out.size)
      have KQ := Lib.hid ho.is
      clear ho hb
      have hc0 := BX.out.cell (i := 0) rfl
      have hc1' := BX.out.cell (i := 1) rfl
      go_wp2_with fail
      refine (cRun_ok _ _ gs os T _ KC.out KT2.out HE0.out (by rw [HTL.out, HM0.out])).mono ?_
      rintro e WRR ⟨vR, rfl, ho, hb⟩
      try dsimp only
      clear hc0 hc1'
      replace KC := Lib.hid (KC.out.below hb)
      replace KA := Lib.hid (KA.out.below hb)
      replace KB := Lib.hid (KB.out.below hb)
      replace KG := Lib.hid (KG.out.below hb)
      replace BX := Lib.hid (BX.out.below hb)
      replace KW := Lib.hid (KW.out.below hb)
      replace KX := Lib.hid (KX.out.below hb)
      replace KY := Lib.hid (KY.out.below hb)
      replace KT2 := Lib.hid (KT2.out.below hb)
      replace KP := Lib.hid (KP.out.below hb)
      replace KQ := Lib.hid (KQ.out.below hb)
      replace BEL := Lib.hid (below_trans BEL.out hb BEL.out.size)
      have KR := Lib.hid ho.is
      clear ho hb
      have hc0 := BX.out.cell (i := 0) rfl
      have hc1' := BX.out.cell (i := 1) rfl
      go_wp2_with fail
      obtain ⟨Z, hmk, hmo⟩ := mk_nums m (by omega)
      have HMO := Lib.hid hmo
      clear hmo
      have hz := ((Below.refl WRR.heap.size WRR).alloc (Nat.le_refl _) (.cells Z 25)).drew
      have KCz := Lib.hid (KC.out.below hz)
      have KZz := Lib.hid (show IsNums ((WRR.alloc (.cells Z 25)).drew) (.slice (some ⟨WRR.heap.size, 0, none⟩) m m) (List.replicate m 0) from (HMO.out WRR WRR.heap.size (Nat.le_refl _)).is)
      have HZ := Lib.hid hz
      clear hz
      go_region_held3 (fun w' => w'.cell? ⟨w.heap.size, 0, none⟩ = some (.slice A1 gs.length c1) ∧ w'.cell? ⟨w.heap.size, 1, none⟩ = some (.slice A2 os.length c2)) (go_keep) ((go_at_call 52; refine (cRun_ok _ _ gs os (List.replicate m 0) _ KCz.out KZz.out HE0.out (by rw [List.length_replicate]; exact HM0.out)).mono ?_; rintro e WO ⟨vO, rfl, ho, hb⟩; have BXO := (BX.out.below HZ.out).below hb; have q0 := BXO.cell (i := 0) rfl; have q1 := BXO.cell (i := 1) rfl; have KO := Lib.hid ho.is; have HBO := Lib.hid hb; clear ho hb))
      have hb := below_trans HZ.out HBO.out HZ.out.size
      clear q0 q1 BXO hc0 hc1' HZ HBO hmk HMO KCz KZz
      replace KC := Lib.hid (KC.out.below hb)
      replace KA := Lib.hid (KA.out.below hb)
      replace KB := Lib.hid (KB.out.below hb)
      replace KG := Lib.hid (KG.out.below hb)
      replace BX := Lib.hid (BX.out.below hb)
      replace KW := Lib.hid (KW.out.below hb)
      replace KX := Lib.hid (KX.out.below hb)
      replace KY := Lib.hid (KY.out.below hb)
      replace KT2 := Lib.hid (KT2.out.below hb)
      replace KP := Lib.hid (KP.out.below hb)
      replace KQ := Lib.hid (KQ.out.below hb)
      replace KR := Lib.hid (KR.out.below hb)
      replace BEL := Lib.hid (below_trans BEL.out hb BEL.out.size)
      clear hb
      have HPL := Lib.hid (show (couts gs os (toFs X)).length = os.length from couts_length _ _ _)
      have HQL := Lib.hid (show (couts gs os (toFs Y)).length = os.length from couts_length _ _ _)
      have HRL := Lib.hid (show (couts gs os (toFs T)).length = os.length from couts_length _ _ _)
      have HOL := Lib.hid (show (couts gs os (toFs (List.replicate m 0))).length = os.length from couts_length _ _ _)
      have HSUM := Lib.hid (show ∀ i, i < os.length → co (couts gs os (toFs T)) i + co (couts gs os (toFs (List.replicate m 0))) i = co (couts gs os (toFs X)) i + co (couts gs os (toFs Y)) i from fun i hi => by rw [HT.out]; exact outs_sum (by rw [HXL.out, HYL.out]) m HM.out hi)
      clear KC KA KB KG BX KW KX KY KT2
      generalize couts gs os (toFs X) = P' at *
      generalize couts gs os (toFs Y) = Q' at *
      generalize couts gs os (toFs T) = R' at *
      generalize couts gs os (toFs (List.replicate m 0)) = O' at *
      obtain ⟨Ap, cp, hvp, _, _, _, _, _⟩ := KP.out
      obtain ⟨Aq, cq, hvq, _, _, _, _, _⟩ := KQ.out
      obtain ⟨Ar, cr, hvr, _, _, _, _, _⟩ := KR.out
      obtain ⟨Ao, co', hvo, _, _, _, _, _⟩ := KO.out
      rw [ofFs_length, HPL.out] at hvp
      rw [ofFs_length, HQL.out] at hvq
      rw [ofFs_length, HRL.out] at hvr
      rw [ofFs_length, HOL.out] at hvo
      subst hvp hvq hvr hvo
      go_wp2_with fail
      go_loopw [120] (fun i wr => ∃ k n : Nat, k ≤ os.length ∧ i = .int .i64 k ∧ wr = WO.drewN n) (fun i _ => os.length - (intOf i).toNat)
      case atStart => exact ⟨0, 0, Nat.zero_le _, rfl, rfl⟩
      case round =>
        obtain ⟨k, n, hk, rfl, hw⟩ := hrel
        have HW := Lib.hid hw
        clear hw
        by_cases hlt : k < os.length
        · obtain ⟨A, c, hA, _, _, _, hup, hrp⟩ := KP.out.drewn HW.out
          injection hA with hA1 hA2 hA3
          subst hA1 hA3
          clear hA2
          obtain ⟨bp, op, x1, rfl, hbp, hgp, h64p, hcp⟩ := nums_at hrp hup (k := k) (by rw [ofFs_length, HPL.out]; exact hlt)
          have Hx1 := Lib.hid (co_ofFs hgp)
          have h0p := h64p.1
          clear hup hrp hgp hbp
          obtain ⟨A, c, hA, _, _, _, huq, hrq⟩ := KQ.out.drewn HW.out
          injection hA with hA1 hA2 hA3
          subst hA1 hA3
          clear hA2
          obtain ⟨bq, oq, x2, rfl, hbq, hgq, h64q, hcq⟩ := nums_at hrq huq (k := k) (by rw [ofFs_length, HQL.out]; exact hlt)
          have Hx2 := Lib.hid (co_ofFs hgq)
          have h0q := h64q.1
          clear huq hrq hgq hbq
          obtain ⟨A, c, hA, _, _, _, hur, hrr⟩ := KR.out.drewn HW.out
          injection hA with hA1 hA2 hA3
          subst hA1 hA3
          clear hA2
          obtain ⟨br, or, x3, rfl, hbr, hgr, h64r, hcr⟩ := nums_at hrr hur (k := k) (by rw [ofFs_length, HRL.out]; exact hlt)
          have Hx3 := Lib.hid (co_ofFs hgr)
          have h0r := h64r.1
          clear hur hrr hgr hbr
          obtain ⟨A, c, hA, _, _, _, huo, hro⟩ := KO.out.drewn HW.out
          injection hA with hA1 hA2 hA3
          subst hA1 hA3
          clear hA2
          obtain ⟨bo, oo, x4, rfl, hbo, hgo, h64o, hco⟩ := nums_at hro huo (k := k) (by rw [ofFs_length, HOL.out]; exact hlt)
          have Hx4 := Lib.hid (co_ofFs hgo)
          have h0o := h64o.1
          clear huo hro hgo hbo
          have hne : (ofF (toF x3 + toF x4) != ofF (toF x1 + toF x2)) = false := by
            have h := HSUM.out k hlt
            rw [Hx1.out, Hx2.out, Hx3.out, Hx4.out, toF_ofF, toF_ofF, toF_ofF, toF_ofF, h, bne_self_eq_false]
          go_wp2_with fail
          go_quiet ((first | exact quietL (fAdd_any _ _ _ h0r h0o) | exact quietL (fAdd_any _ _ _ h0p h0q)))
          go_wp2_with fail
          exact ⟨⟨k + 1, _, by omega, by go_num, drewn_more HW.out _⟩, by simp [intOf] <;> omega⟩
        · go_wp2_with fail
          go_ret
          exact ⟨rfl, by rw [HW.out]; exact below_drewN BEL.out _⟩
theorem circuitSums_any (v va vb : Value) (gs : List Gt) (os xs ys : List Int) (w : World) (h : IsCirc w v gs os) (h1 : IsNums w va xs) (h2 : IsNums w vb ys) :
    Calls Try.prog 13 #[v, va, vb] w fun e w' => e = .returned (.bool true) ∧ Below w.heap.size w w' := by
  by_cases h0 : circE gs os = 0
  · cases hm : mulB gs with
    | true => exact circuitSums_b v va vb gs os xs ys w h h1 h2 h0 hm
    | false => exact circuitSums_c v va vb gs os xs ys w h h1 h2 h0 hm
  · exact circuitSums_a v va vb gs os xs ys w h h1 h2 h0
end Go.Proofs.Ytnojmphggdndmaa
