/- The law HideSays, walked: part B. -/
import Derived.Test.YtliegjpnjfmklaaHideL
namespace Go.Proofs.Ytliegjpnjfmklaa
open Go.RowKit Croft

set_option maxRecDepth 100000 in
set_option maxHeartbeats 4000000 in
theorem hideSays_few_out (t : Int) (frm to : Int) (va vd : Value) (zs ds : List Int) (w : World) (hf : U64 frm) (hto : U64 to) (h1 : IsInts w va zs) (h2 : IsNums w vd ds) (hp : partyB zs = true) (hd : (ds.length : Int) ≤ 4) (hz : (ds.length : Int) < zs.length) (ht : ¬ (0 ≤ t ∧ t ≤ 4)) :
    Calls Try.prog 8 #[va, .int .i64 t, .int .u64 frm, .int .u64 to, vd] w fun e w' => e = .returned (.bool true) ∧ Below w.heap.size w w' := by
  have hf0 := hf.1
  have ht0 := hto.1
  have KA := Lib.hid h1
  have KD := Lib.hid h2
  have HP := Lib.hid hp
  have BEL := Lib.hid (Below.refl w.heap.size w)
  obtain ⟨A1, c1, rfl, hc1, hm1_, hl1, hu1, hr1⟩ := h1
  obtain ⟨A2, c2, rfl, hc2, hm2_, hl2, hu2, hr2⟩ := h2
  clear hu1 hr1 hm1_ hu2 hr2 hm2_ hp
  have hd1 : decide ((ds.length : Int) > 4) = false := by simp; omega
  have hd2 : decide (ds.length < zs.length) = true := by simp; omega
  have HARG := Lib.hid (show ¬ (ds.length ≤ 4 ∧ zs.length ≤ ds.length) by omega)
  clear hd hz
  have HIN := Lib.hid (show decide (0 ≤ t ∧ t ≤ 4) = false from decide_eq_false ht)
  have HTA := Lib.hid (show ¬ ((0 ≤ t ∧ t ≤ 4) ∧ (zs.length : Int) ≤ t ∧ (ds.length : Int) = needN t) from fun h => ht h.1)
  clear ht
  go_enter Try.func8, Try.ntmps8
  go_wp2_with fail
  refine (rNeg_any _ _ hf).mono ?_
  rintro e w' ⟨rfl, rfl⟩
  try dsimp only
  go_wp2_with fail
  refine (rAdd_any _ _ _ hto (U64.of_ofF _)).mono ?_
  rintro e w' ⟨rfl, rfl⟩
  rw [toF_ofF, F_addneg]
  obtain ⟨d, hdd⟩ : ∃ d, d = toF to - toF frm := ⟨_, rfl⟩
  rw [← hdd]
  have HD := Lib.hid hdd
  clear hdd
  try dsimp only
  go_wp2_with fail
  refine (rWho_any _ _ _ KA.out).mono ?_
  rintro e w' ⟨rfl, nd, rfl⟩
  rw [HP.out]
  try dsimp only
  have hb := below_drewN (Below.refl w.heap.size w) nd
  replace KA := Lib.hid (KA.out.below hb)
  replace KD := Lib.hid (KD.out.below hb)
  replace BEL := Lib.hid (below_trans BEL.out hb BEL.out.size)
  clear hb
  generalize hW : w.drewN nd = W1 at *
  clear hW
  go_wp2_with fail
  refine (hShift_arg _ _ zs ds frm to _ KA.out KD.out HP.out HARG.out).mono ?_
  rintro e W2 ⟨v1, rfl, ho, hb⟩
  try dsimp only
  replace KA := Lib.hid (KA.out.below hb)
  replace KD := Lib.hid (KD.out.below hb)
  replace BEL := Lib.hid (below_trans BEL.out hb BEL.out.size)
  have K1 := Lib.hid ho.is
  clear ho hb
  have KW := Lib.hid (IsNums.nil W2)
  go_wp2_with fail
  refine (equal_any _ _ _ _ _ K1.out KW.out).mono ?_
  rintro e w' ⟨rfl, nd, rfl⟩
  rw [decide_eq_true rfl]
  try dsimp only
  clear K1 KW
  have hb := below_drewN (Below.refl W2.heap.size W2) nd
  replace KA := Lib.hid (KA.out.below hb)
  replace KD := Lib.hid (KD.out.below hb)
  replace BEL := Lib.hid (below_trans BEL.out hb BEL.out.size)
  clear hb
  generalize hW : W2.drewN nd = W3 at *
  clear hW
  go_wp2_with fail
  refine (rWho_any _ _ _ KA.out).mono ?_
  rintro e w' ⟨rfl, nd, rfl⟩
  rw [HP.out]
  try dsimp only
  have hb := below_drewN (Below.refl W3.heap.size W3) nd
  replace KA := Lib.hid (KA.out.below hb)
  replace KD := Lib.hid (KD.out.below hb)
  replace BEL := Lib.hid (below_trans BEL.out hb BEL.out.size)
  clear hb
  generalize hW : W3.drewN nd = W4 at *
  clear hW
  go_wp2_with fail
  refine (rIn_any _ _ _ _).mono ?_
  rintro e w' ⟨rfl, rfl⟩
  rw [HIN.out]
  try dsimp only
  go_wp2_with fail
  refine (hTwine_arg _ _ zs ds t frm to _ KA.out KD.out HP.out HTA.out).mono ?_
  rintro e W5 ⟨v1, rfl, ho, hb⟩
  try dsimp only
  replace KA := Lib.hid (KA.out.below hb)
  replace KD := Lib.hid (KD.out.below hb)
  replace BEL := Lib.hid (below_trans BEL.out hb BEL.out.size)
  have K1 := Lib.hid ho.is
  clear ho hb
  have KW := Lib.hid (IsNums.nil W5)
  go_wp2_with fail
  refine (equal_any _ _ _ _ _ K1.out KW.out).mono ?_
  rintro e w' ⟨rfl, nd, rfl⟩
  rw [decide_eq_true rfl]
  try dsimp only
  clear K1 KW
  have hb := below_drewN (Below.refl W5.heap.size W5) nd
  replace KA := Lib.hid (KA.out.below hb)
  replace KD := Lib.hid (KD.out.below hb)
  replace BEL := Lib.hid (below_trans BEL.out hb BEL.out.size)
  clear hb
  generalize hW : W5.drewN nd = W6 at *
  clear hW
  go_wp2_with fail
  go_ret
  exact ⟨rfl, BEL.out⟩
set_option maxRecDepth 100000 in
set_option maxHeartbeats 4000000 in
theorem hideSays_few_many (t : Int) (frm to : Int) (va vd : Value) (zs ds : List Int) (w : World) (hf : U64 frm) (hto : U64 to) (h1 : IsInts w va zs) (h2 : IsNums w vd ds) (hp : partyB zs = true) (hd : (ds.length : Int) ≤ 4) (hz : (ds.length : Int) < zs.length) (ht : 0 ≤ t ∧ t ≤ 4) (hm : (zs.length : Int) > t) :
    Calls Try.prog 8 #[va, .int .i64 t, .int .u64 frm, .int .u64 to, vd] w fun e w' => e = .returned (.bool true) ∧ Below w.heap.size w w' := by
  have hf0 := hf.1
  have ht0 := hto.1
  have KA := Lib.hid h1
  have KD := Lib.hid h2
  have HP := Lib.hid hp
  have BEL := Lib.hid (Below.refl w.heap.size w)
  obtain ⟨A1, c1, rfl, hc1, hm1_, hl1, hu1, hr1⟩ := h1
  obtain ⟨A2, c2, rfl, hc2, hm2_, hl2, hu2, hr2⟩ := h2
  clear hu1 hr1 hm1_ hu2 hr2 hm2_ hp
  have hd1 : decide ((ds.length : Int) > 4) = false := by simp; omega
  have hd2 : decide (ds.length < zs.length) = true := by simp; omega
  have HARG := Lib.hid (show ¬ (ds.length ≤ 4 ∧ zs.length ≤ ds.length) by omega)
  clear hd hz
  have HIN := Lib.hid (show decide (0 ≤ t ∧ t ≤ 4) = true from decide_eq_true ht)
  have hm1 : decide ((zs.length : Int) > t) = true := by simpa using hm
  have HTA := Lib.hid (show ¬ ((0 ≤ t ∧ t ≤ 4) ∧ (zs.length : Int) ≤ t ∧ (ds.length : Int) = needN t) from fun h => by omega)
  clear ht hm
  go_enter Try.func8, Try.ntmps8
  go_wp2_with fail
  refine (rNeg_any _ _ hf).mono ?_
  rintro e w' ⟨rfl, rfl⟩
  try dsimp only
  go_wp2_with fail
  refine (rAdd_any _ _ _ hto (U64.of_ofF _)).mono ?_
  rintro e w' ⟨rfl, rfl⟩
  rw [toF_ofF, F_addneg]
  obtain ⟨d, hdd⟩ : ∃ d, d = toF to - toF frm := ⟨_, rfl⟩
  rw [← hdd]
  have HD := Lib.hid hdd
  clear hdd
  try dsimp only
  go_wp2_with fail
  refine (rWho_any _ _ _ KA.out).mono ?_
  rintro e w' ⟨rfl, nd, rfl⟩
  rw [HP.out]
  try dsimp only
  have hb := below_drewN (Below.refl w.heap.size w) nd
  replace KA := Lib.hid (KA.out.below hb)
  replace KD := Lib.hid (KD.out.below hb)
  replace BEL := Lib.hid (below_trans BEL.out hb BEL.out.size)
  clear hb
  generalize hW : w.drewN nd = W1 at *
  clear hW
  go_wp2_with fail
  refine (hShift_arg _ _ zs ds frm to _ KA.out KD.out HP.out HARG.out).mono ?_
  rintro e W2 ⟨v1, rfl, ho, hb⟩
  try dsimp only
  replace KA := Lib.hid (KA.out.below hb)
  replace KD := Lib.hid (KD.out.below hb)
  replace BEL := Lib.hid (below_trans BEL.out hb BEL.out.size)
  have K1 := Lib.hid ho.is
  clear ho hb
  have KW := Lib.hid (IsNums.nil W2)
  go_wp2_with fail
  refine (equal_any _ _ _ _ _ K1.out KW.out).mono ?_
  rintro e w' ⟨rfl, nd, rfl⟩
  rw [decide_eq_true rfl]
  try dsimp only
  clear K1 KW
  have hb := below_drewN (Below.refl W2.heap.size W2) nd
  replace KA := Lib.hid (KA.out.below hb)
  replace KD := Lib.hid (KD.out.below hb)
  replace BEL := Lib.hid (below_trans BEL.out hb BEL.out.size)
  clear hb
  generalize hW : W2.drewN nd = W3 at *
  clear hW
  go_wp2_with fail
  refine (rWho_any _ _ _ KA.out).mono ?_
  rintro e w' ⟨rfl, nd, rfl⟩
  rw [HP.out]
  try dsimp only
  have hb := below_drewN (Below.refl W3.heap.size W3) nd
  replace KA := Lib.hid (KA.out.below hb)
  replace KD := Lib.hid (KD.out.below hb)
  replace BEL := Lib.hid (below_trans BEL.out hb BEL.out.size)
  clear hb
  generalize hW : W3.drewN nd = W4 at *
  clear hW
  go_wp2_with fail
  refine (rIn_any _ _ _ _).mono ?_
  rintro e w' ⟨rfl, rfl⟩
  rw [HIN.out]
  try dsimp only
  go_wp2_with fail
  refine (hTwine_arg _ _ zs ds t frm to _ KA.out KD.out HP.out HTA.out).mono ?_
  rintro e W5 ⟨v1, rfl, ho, hb⟩
  try dsimp only
  replace KA := Lib.hid (KA.out.below hb)
  replace KD := Lib.hid (KD.out.below hb)
  replace BEL := Lib.hid (below_trans BEL.out hb BEL.out.size)
  have K1 := Lib.hid ho.is
  clear ho hb
  have KW := Lib.hid (IsNums.nil W5)
  go_wp2_with fail
  refine (equal_any _ _ _ _ _ K1.out KW.out).mono ?_
  rintro e w' ⟨rfl, nd, rfl⟩
  rw [decide_eq_true rfl]
  try dsimp only
  clear K1 KW
  have hb := below_drewN (Below.refl W5.heap.size W5) nd
  replace KA := Lib.hid (KA.out.below hb)
  replace KD := Lib.hid (KD.out.below hb)
  replace BEL := Lib.hid (below_trans BEL.out hb BEL.out.size)
  clear hb
  generalize hW : W5.drewN nd = W6 at *
  clear hW
  go_wp2_with fail
  go_ret
  exact ⟨rfl, BEL.out⟩
set_option maxRecDepth 100000 in
set_option maxHeartbeats 4000000 in
theorem hideSays_few_draws (t : Int) (frm to : Int) (va vd : Value) (zs ds : List Int) (w : World) (hf : U64 frm) (hto : U64 to) (h1 : IsInts w va zs) (h2 : IsNums w vd ds) (hp : partyB zs = true) (hd : (ds.length : Int) ≤ 4) (hz : (ds.length : Int) < zs.length) (ht : 0 ≤ t ∧ t ≤ 4) (hm : (zs.length : Int) ≤ t) (hn : (ds.length : Int) ≠ needN t) :
    Calls Try.prog 8 #[va, .int .i64 t, .int .u64 frm, .int .u64 to, vd] w fun e w' => e = .returned (.bool true) ∧ Below w.heap.size w w' := by
  have hf0 := hf.1
  have ht0 := hto.1
  have KA := Lib.hid h1
  have KD := Lib.hid h2
  have HP := Lib.hid hp
  have BEL := Lib.hid (Below.refl w.heap.size w)
  obtain ⟨A1, c1, rfl, hc1, hm1_, hl1, hu1, hr1⟩ := h1
  obtain ⟨A2, c2, rfl, hc2, hm2_, hl2, hu2, hr2⟩ := h2
  clear hu1 hr1 hm1_ hu2 hr2 hm2_ hp
  have hd1 : decide ((ds.length : Int) > 4) = false := by simp; omega
  have hd2 : decide (ds.length < zs.length) = true := by simp; omega
  have HARG := Lib.hid (show ¬ (ds.length ≤ 4 ∧ zs.length ≤ ds.length) by omega)
  clear hd hz
  have HIN := Lib.hid (show decide (0 ≤ t ∧ t ≤ 4) = true from decide_eq_true ht)
  have hm1 : decide ((zs.length : Int) > t) = false := by simp; omega
  have hn1 : ((ds.length : Int) != needN t) = true := by rw [bne_iff_ne]; exact hn
  have hmn : min t 4 = t := by omega
  have hmx : max 0 t = t := by omega
  have HT := Lib.hid ht
  have HTA := Lib.hid (show ¬ ((0 ≤ t ∧ t ≤ 4) ∧ (zs.length : Int) ≤ t ∧ (ds.length : Int) = needN t) from fun h => hn h.2.2)
  clear ht hm hn
  go_enter Try.func8, Try.ntmps8
  go_wp2_with fail
  refine (rNeg_any _ _ hf).mono ?_
  rintro e w' ⟨rfl, rfl⟩
  try dsimp only
  go_wp2_with fail
  refine (rAdd_any _ _ _ hto (U64.of_ofF _)).mono ?_
  rintro e w' ⟨rfl, rfl⟩
  rw [toF_ofF, F_addneg]
  obtain ⟨d, hdd⟩ : ∃ d, d = toF to - toF frm := ⟨_, rfl⟩
  rw [← hdd]
  have HD := Lib.hid hdd
  clear hdd
  try dsimp only
  go_wp2_with fail
  refine (rWho_any _ _ _ KA.out).mono ?_
  rintro e w' ⟨rfl, nd, rfl⟩
  rw [HP.out]
  try dsimp only
  have hb := below_drewN (Below.refl w.heap.size w) nd
  replace KA := Lib.hid (KA.out.below hb)
  replace KD := Lib.hid (KD.out.below hb)
  replace BEL := Lib.hid (below_trans BEL.out hb BEL.out.size)
  clear hb
  generalize hW : w.drewN nd = W1 at *
  clear hW
  go_wp2_with fail
  refine (hShift_arg _ _ zs ds frm to _ KA.out KD.out HP.out HARG.out).mono ?_
  rintro e W2 ⟨v1, rfl, ho, hb⟩
  try dsimp only
  replace KA := Lib.hid (KA.out.below hb)
  replace KD := Lib.hid (KD.out.below hb)
  replace BEL := Lib.hid (below_trans BEL.out hb BEL.out.size)
  have K1 := Lib.hid ho.is
  clear ho hb
  have KW := Lib.hid (IsNums.nil W2)
  go_wp2_with fail
  refine (equal_any _ _ _ _ _ K1.out KW.out).mono ?_
  rintro e w' ⟨rfl, nd, rfl⟩
  rw [decide_eq_true rfl]
  try dsimp only
  clear K1 KW
  have hb := below_drewN (Below.refl W2.heap.size W2) nd
  replace KA := Lib.hid (KA.out.below hb)
  replace KD := Lib.hid (KD.out.below hb)
  replace BEL := Lib.hid (below_trans BEL.out hb BEL.out.size)
  clear hb
  generalize hW : W2.drewN nd = W3 at *
  clear hW
  go_wp2_with fail
  refine (rWho_any _ _ _ KA.out).mono ?_
  rintro e w' ⟨rfl, nd, rfl⟩
  rw [HP.out]
  try dsimp only
  have hb := below_drewN (Below.refl W3.heap.size W3) nd
  replace KA := Lib.hid (KA.out.below hb)
  replace KD := Lib.hid (KD.out.below hb)
  replace BEL := Lib.hid (below_trans BEL.out hb BEL.out.size)
  clear hb
  generalize hW : W3.drewN nd = W4 at *
  clear hW
  go_wp2_with fail
  refine (rIn_any _ _ _ _).mono ?_
  rintro e w' ⟨rfl, rfl⟩
  rw [HIN.out]
  try dsimp only
  go_wp2_with fail
  all_goals
    have hTT := HT.out
    refine (rTwoNeed_ok _ _ (by omega)).mono ?_
    rintro e w' ⟨rfl, rfl⟩
    try rw [show needN 0 = needN t from by congr 1; omega]
    clear hTT
    try dsimp only
    go_wp2_with fail
    refine (hTwine_arg _ _ zs ds t frm to _ KA.out KD.out HP.out HTA.out).mono ?_
    rintro e W5 ⟨v1, rfl, ho, hb⟩
    try dsimp only
    replace KA := Lib.hid (KA.out.below hb)
    replace KD := Lib.hid (KD.out.below hb)
    replace BEL := Lib.hid (below_trans BEL.out hb BEL.out.size)
    have K1 := Lib.hid ho.is
    clear ho hb
    have KW := Lib.hid (IsNums.nil W5)
    go_wp2_with fail
    refine (equal_any _ _ _ _ _ K1.out KW.out).mono ?_
    rintro e w' ⟨rfl, nd, rfl⟩
    rw [decide_eq_true rfl]
    try dsimp only
    clear K1 KW
    have hb := below_drewN (Below.refl W5.heap.size W5) nd
    replace KA := Lib.hid (KA.out.below hb)
    replace KD := Lib.hid (KD.out.below hb)
    replace BEL := Lib.hid (below_trans BEL.out hb BEL.out.size)
    clear hb
    generalize hW : W5.drewN nd = W6 at *
    clear hW
    go_wp2_with fail
    go_ret
    exact ⟨rfl, BEL.out⟩
end Go.Proofs.Ytliegjpnjfmklaa
