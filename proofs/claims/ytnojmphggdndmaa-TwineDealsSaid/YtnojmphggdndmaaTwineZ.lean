/- The reference's dealing in two variables. -/
import Derived.Test.YtnojmphggdndmaaTwineY
import Derived.Outline
namespace Go.Proofs.Ytnojmphggdndmaa
open Go.RowKit Croft

def dC (D : List Int) (t : Nat) (x : Int) (j m : Nat) : F := fsum m fun i => toF (D.getD (idx t i j) 0) * toF x ^ i
def dCs (D : List Int) (t : Nat) (x : Int) (m : Nat) : List Int := (List.range m).map fun j => ofF (dC D t x j (t + 1))
theorem dCs_next (D : List Int) (t : Nat) (x : Int) (m : Nat) : dCs D t x (m + 1) = dCs D t x m ++ [ofF (dC D t x m (t + 1))] := by simp [dCs, List.range_succ]
theorem dCs_length (D : List Int) (t : Nat) (x : Int) (m : Nat) : (dCs D t x m).length = m := by simp [dCs]
theorem dCs_full (D : List Int) (t : Nat) (x : Int) : dCs D t x (t + 1) = rowL (dMat D t) x := by
  unfold dCs rowL dMat mat
  rw [List.map_map]
  apply List.map_congr_left
  intro j hj
  rw [List.mem_range] at hj
  simp only [Function.comp]
  congr 1
  rw [peval_sum _ _ (t + 1) (by simp [toFs])]
  unfold dC
  apply fsum_congr
  intro i hi
  congr 1
  rw [co_get (a := toF (D.getD (idx t i j) 0))]
  simp only [toFs, List.getElem?_map, List.getElem?_range hi, Option.map_some, toF_ofF]
  rw [idx_comm]
set_option maxRecDepth 100000 in
set_option maxHeartbeats 1000000 in
theorem rTwoDeal_ok (secret : Int) (t n : Nat) (vd : Value) (ds : List Int) (w : World) (hs : U64 secret) (h1 : IsNums w vd ds) (ht : t ≤ 4) (hl : (ds.length : Int) = needN t) (hn2 : n ≤ 9) :
    Calls Try.prog 47 #[.int .u64 secret, .int .i64 t, vd, .int .i64 n] w fun e w' => ∃ v vs, e = .returned v ∧ OwnRows w' w.heap.size v vs (dRows (secret :: ds) t n) ∧ Below w.heap.size w w' := by
  have KD := Lib.hid h1
  have HL := Lib.hid hl
  suffices hgoal : ∀ Post : Ending → World → Prop, (∀ e w', (∃ v vs, e = .returned v ∧ OwnRows w' w.heap.size v vs (dRows (secret :: ds) t n) ∧ Below w.heap.size w w') → Post e w') → Calls Try.prog 47 #[.int .u64 secret, .int .i64 t, vd, .int .i64 n] w Post from hgoal _ fun e w' h => h
  intro Post hp
  have HP := Lib.hid hp
  obtain ⟨A1, c1, rfl, hc1, hm1, hl1, hu1, hr1⟩ := h1
  clear hp hl hu1 hr1 hm1
  go_enter Try.func47, Try.ntmps47
  go_wp2_with fail
  go_loopw [9, 10] (fun v i wr => ∃ (k : Nat) (vs : List Value), k ≤ n ∧ i = .int .i64 ((k : Int) + 1) ∧ OwnRows wr w.heap.size v vs (dRows (secret :: ds) t k) ∧ Below w.heap.size w wr) (fun _ i _ => n + 1 - (intOf i).toNat)
  case atStart => exact ⟨0, [], Nat.zero_le _, rfl, OwnRows.nil _ _, Below.refl _ _⟩
  case round =>
    obtain ⟨k, vs, hk, rfl, hown, hbel2⟩ := hrel
    have KO := Lib.hid hown
    have B2 := Lib.hid hbel2
    have hsz := hbel2.size
    clear hown hbel2
    by_cases hlt : k < n
    · have hdk : decide ((k : Int) + 1 ≤ (n : Int)) = true := by simp; omega
      go_wp2_with fail
      obtain ⟨wb, hwb⟩ : ∃ wb, wb = wr := ⟨_, rfl⟩
      subst hwb
      go_loopw [12] (fun j wq => ∃ (m : Nat) (v : Value), m ≤ t + 1 ∧ j = .int .i64 m ∧ Box wq wb.heap.size 89 [.int .i64 ((k : Int) + 1), v] ∧ OwnNums wq (wb.heap.size + 1) v (dCs (secret :: ds) t ((k : Int) + 1) m) ∧ Below wb.heap.size wb wq) (fun j _ => t + 1 - (intOf j).toNat)
      case atStart => exact ⟨0, .slice none 0 0, Nat.zero_le _, rfl, Box.new _ _ [.int .i64 ((k : Int) + 1), .slice none 0 0], OwnNums.nil _ _, (Below.refl _ _).alloc (Nat.le_refl _) _⟩
      case round =>
        obtain ⟨m, v, hm, rfl, hbox, hnum, hbw⟩ := hrel
        have KB := Lib.hid hbox
        have KN := Lib.hid hnum
        have BW := Lib.hid hbw
        have hszq := hbw.size
        have hblt := hbox.lt
        clear hbox hnum hbw
        by_cases hlt2 : m < t + 1
        · go_wp2_with fail
          obtain ⟨wq, hwq⟩ : ∃ wq, wq = wr := ⟨_, rfl⟩
          subst hwq
          have KDq := Lib.hid ((KD.out.below B2.out).below BW.out)
          go_loopw [13, 14] (fun c i wz => ∃ (p nd : Nat), p ≤ t + 1 ∧ i = .int .i64 p ∧ c = .int .u64 (ofF (dC (secret :: ds) t ((k : Int) + 1) m p)) ∧ wz = wq.drewN nd) (fun _ i _ => t + 1 - (intOf i).toNat)
          case atStart => exact ⟨0, 0, Nat.zero_le _, rfl, rfl, rfl⟩
          case round =>
            obtain ⟨p, nd, hp, rfl, rfl, hw⟩ := hrel
            have HW := Lib.hid hw
            clear hw
            by_cases hlt3 : p < t + 1
            · have KDz := Lib.hid (KDq.out.drewn HW.out)
              go_wp2_with fail
              refine (number_any _ t p m _ ds _ hs KDz.out ht HL.out (by omega) (by omega)).mono ?_
              rintro e w' ⟨rfl, nd2, rfl⟩
              try dsimp only
              go_wp2_with fail
              refine (rPow_any _ _ _ ⟨by omega, by omega⟩ ⟨by omega, by omega⟩).mono ?_
              rintro e w' ⟨rfl, rfl⟩
              try dsimp only
              go_wp2_with fail
              refine (rMul_any _ _ _ (U64.of_ofF _) (U64.of_ofF _)).mono ?_
              rintro e w' ⟨rfl, rfl⟩
              rw [toF_ofF, toF_ofF]
              try dsimp only
              go_wp2_with fail
              refine (rAdd_any _ _ _ (U64.of_ofF _) (U64.of_ofF _)).mono ?_
              rintro e w' ⟨rfl, rfl⟩
              rw [toF_ofF, toF_ofF]
              try dsimp only
              go_wp2_with fail
              refine ⟨⟨p + 1, _, by omega, by go_num, ?_, drewn_more HW.out _⟩, by simp [intOf] <;> omega⟩
              unfold dC
              rw [fsum]
              unfold fpow
              rw [Int.toNat_natCast]
              rfl
            · obtain rfl : p = t + 1 := by omega
              obtain ⟨Av, cv, hv, _, _⟩ := own_form KN.out.1
              subst hv
              have KBz := Lib.hid (show Box wr wb.heap.size 89 _ from by rw [HW.out]; exact KB.out.drewN nd)
              have KNz := Lib.hid (show OwnNums wr (wb.heap.size + 1) _ _ from by rw [HW.out]; exact KN.out.drewN nd)
              have BWz := Lib.hid (show Below wb.heap.size wb wr from by rw [HW.out]; exact below_drewN BW.out nd)
              clear KB KN BW KDq
              have hl2 := dCs_length (secret :: ds) t ((k : Int) + 1) m
              rw [hl2] at KBz KNz
              have HL2 := Lib.hid hl2
              clear hl2
              have hcell := KBz.out.cell (i := 1) rfl
              have hszz := KBz.out.lt
              go_wp2_with (at_builtin; go_loud (refine wpList_push rfl _ _ rfl (wb.heap.size + 1) _ _ (ofF (dC (secret :: ds) t ((k : Int) + 1) m (t + 1))) wr.heap.size 1 rfl (KNz.out.alloc _) rfl (new_cell _ _ _) (U64.of_ofF _) (by rw [HL2.out]; omega) (by simp; omega) ?_))
              intro v' w5 hown' hbel'
              rw [← dCs_next] at hown'
              have hbb := ((Below.refl wr.heap.size wr).alloc (Nat.le_refl _) (.cells #[.int .u64 (ofF (dC (secret :: ds) t ((k : Int) + 1) m (t + 1)))] 25))
              have KB5 := (KBz.out.below hbb).under hbel' (by omega)
              have hcell5 := KB5.cell (i := 1) rfl
              have hfr5 := KB5.frozen 1
              have hg5 : ∀ b, v'.ownBlock = some b → wb.heap.size + 1 ≤ b := fun b hb => (hown'.1.lt b hb).1
              obtain ⟨Av2, cv2, hv2, _, _⟩ := own_form hown'.1
              subst hv2
              have KB6 := Lib.hid (KB5.set 1 (.slice Av2 (dCs (secret :: ds) t ((k : Int) + 1) (m + 1)).length cv2))
              have KN6 := Lib.hid (hown'.kept (set_grown w5 wb.heap.size 1 (.slice Av2 (dCs (secret :: ds) t ((k : Int) + 1) (m + 1)).length cv2)) (.inr fun hh => by have := hg5 _ hh; omega))
              have BW6 := Lib.hid (((BWz.out.alloc (by omega) (.cells #[.int .u64 (ofF (dC (secret :: ds) t ((k : Int) + 1) m (t + 1)))] 25)).trans (hbel'.mono (by omega))).setCell (p := ⟨wb.heap.size, 1, none⟩) (Nat.le_refl _) (.slice Av2 (dCs (secret :: ds) t ((k : Int) + 1) (m + 1)).length cv2))
              clear hown' hbel' hbb KB5 hg5 hcell
              go_wp2_with fail
              exact ⟨⟨m + 1, _, by omega, by go_num, KB6.out, KN6.out, BW6.out⟩, by simp [intOf] <;> omega⟩
        · obtain rfl : m = t + 1 := by omega
          have hl4 := dCs_length (secret :: ds) t ((k : Int) + 1) (t + 1)
          obtain ⟨Av, cv, hv, _, _⟩ := own_form KN.out.1
          subst hv
          rw [hl4] at KB KN
          have hcell0 := KB.out.cell (i := 0) rfl
          have hcell1 := KB.out.cell (i := 1) rfl
          have KO2 := Lib.hid (KO.out.below BW.out)
          have B3 := Lib.hid (below_trans B2.out BW.out hsz)
          have FAR := Lib.hid (show ∀ (q : Nat) (z : Value) (b : Nat), vs[q]? = some z → z.ownBlock = some b → (Value.slice Av (t + 1) cv).ownBlock ≠ some b from fun q z b hz hzb hvb => by
            have hq : q < (dRows (secret :: ds) t k).length := by rw [← KO.out.vlen]; exact (List.getElem?_eq_some_iff.1 hz).1
            have h1 := ((KO.out.row q z _ hz (List.getElem?_eq_getElem hq)).1.lt b hzb).2
            have h2 := (KN.out.1.lt b hvb).1
            omega)
          clear hl4
          go_wp2_with (at_builtin; go_loud (refine wpList_push_arow rfl _ _ rfl w.heap.size _ vs (dRows (secret :: ds) t k) ((k : Int) + 1) (.slice Av (t + 1) cv) (dCs (secret :: ds) t ((k : Int) + 1) (t + 1)) wr.heap.size 1 rfl (KO2.out.alloc _) rfl (pair_cell0 _ _ _ _) (pair_cell1 _ _ _ _) (by unfold I64; omega) ((KN.out.alloc _).less (by omega)) FAR.out (by rw [dRows_length]; omega) (by rw [size_alloc]; omega) ?_))
          intro v' w' hown' hbel'
          rw [dCs_full, ← dRows_next] at hown'
          have K' := Lib.hid hown'
          have B4 := Lib.hid ((B3.out.alloc B3.out.size (.cells #[.int .i64 ((k : Int) + 1), .slice Av (t + 1) cv] 89)).trans hbel')
          clear hown' hbel'
          go_wp2_with fail
          exact ⟨⟨k + 1, _, by omega, by go_num, K'.out, B4.out⟩, by simp [intOf] <;> omega⟩
    · obtain rfl : k = n := by omega
      go_wp2_with fail
      exact HP.out _ _ ⟨_, _, rfl, KO.out, B2.out⟩
/-- the two that are one -/
theorem sameRow_any (a : Int) (v1 v2 : Value) (r : List Int) (w : World) (h1 : IsNums w v1 r) (h2 : IsNums w v2 r) :
    Calls Try.prog 70 #[.agg #[.int .i64 a, v1], .agg #[.int .i64 a, v2]] w fun e w' => e = .returned (.bool true) ∧ Below w.heap.size w w' := by
  have K1 := Lib.hid h1
  have K2 := Lib.hid h2
  obtain ⟨A1, c1, rfl, _, _, _, _, _⟩ := h1
  obtain ⟨A2, c2, rfl, _, _, _, _, _⟩ := h2
  have hbb := ((Below.refl w.heap.size w).alloc (Nat.le_refl _) (.cells #[.int .i64 a, .slice A1 r.length c1] 89)).alloc (by simp) (.cells #[.int .i64 a, .slice A2 r.length c2] 89)
  have BB := Lib.hid hbb
  clear hbb
  go_enter Try.func70, Try.ntmps70
  go_wp2_with fail
  refine (equal_any _ _ _ _ _ (K1.out.below BB.out) (K2.out.below BB.out)).mono ?_
  rintro e w' ⟨rfl, nd, rfl⟩
  rw [decide_eq_true rfl]
  try dsimp only
  go_wp2_with fail
  go_ret
  exact ⟨rfl, below_drewN BB.out _⟩
set_option maxRecDepth 100000 in
theorem eqFuncRows_any (va vb : Value) (l : List (Int × List Int)) (w : World) (h1 : IsRows w va l) (h2 : IsRows w vb l) :
    Calls Try.prog 69 #[va, vb, .func (.func 70) #[] #[]] w fun e w' => e = .returned (.bool true) ∧ Below w.heap.size w w' := by
  have hcf : ∀ (x y : Value) (W : World), (callFunc 70 #[x, y]).run Try.prog W = .ok (.enter 70 #[x, y]) W := fun x y W => by kernel_rfl
  have KA := Lib.hid h1
  have KB := Lib.hid h2
  obtain ⟨A1, c1, vs1, rfl, hc1, hm1, hl1, hu1, hr1, ha1⟩ := h1
  obtain ⟨A2, c2, vs2, rfl, hc2, hm2, hl2, hu2, hr2, ha2⟩ := h2
  clear hr1 ha1 hr2 ha2 hm1 hm2 hu1 hu2
  go_enter Try.func69, Try.ntmps69
  go_wp2_with fail
  go_loopw [17] (fun i wr => ∃ k : Nat, k ≤ l.length ∧ i = .int .i64 k ∧ Below w.heap.size w wr) (fun i _ => l.length - (intOf i).toNat)
  case atStart => exact ⟨0, Nat.zero_le _, rfl, Below.refl _ _⟩
  case round =>
    obtain ⟨k, hk, rfl, hbel⟩ := hrel
    have BEL := Lib.hid hbel
    have hsz := hbel.size
    clear hbel
    by_cases hlt : k < l.length
    · obtain ⟨A, c, vs, hA, _, _, _, hu, hr, ha⟩ := (KA.out.below BEL.out)
      injection hA with hA1 hA2 hA3
      subst hA1 hA3
      obtain ⟨b1, o1, a1, x1, r1, rfl, hb1, hx1, hg1, hi1, hn1, hca1, hcb1⟩ := row_at hr ha hu hlt
      clear hr ha hu
      obtain ⟨A, c, vs, hA, _, _, _, hu, hr, ha⟩ := (KB.out.below BEL.out)
      injection hA with hA1 hA2 hA3
      subst hA1 hA3
      obtain ⟨b2, o2, a2, x2, r2, rfl, hb2, hx2, hg2, hi2, hn2, hca2, hcb2⟩ := row_at hr ha hu hlt
      clear hr ha hu
      have he : (a1, r1) = (a2, r2) := Option.some.inj (hg1.symm.trans hg2)
      injection he with he1 he2
      subst he1 he2
      have K1 := Lib.hid hn1
      have K2 := Lib.hid hn2
      clear hn1 hn2 hg1 hg2 hx1 hx2
      obtain ⟨Aa, ca, hxa, _, _, _, _, _⟩ := K1.out
      obtain ⟨Ab, cb, hxb, _, _, _, _, _⟩ := K2.out
      subst hxa hxb
      have BB := Lib.hid (((Below.refl wr.heap.size wr).alloc (Nat.le_refl _) (.cells #[.int .i64 a1, .slice Aa r1.length ca] 89)).alloc (by simp) (.cells #[.int .i64 a1, .slice Ab r1.length cb] 89))
      go_wp2_with fail
      refine (sameRow_any _ _ _ _ _ (K1.out.below BB.out) (K2.out.below BB.out)).mono ?_
      rintro e w5 ⟨rfl, hb5⟩
      have B5 := Lib.hid (below_trans (below_trans BEL.out BB.out hsz) hb5 (by have := BB.out.size; omega))
      clear hb5
      try dsimp only
      go_wp2_with fail
      exact ⟨⟨k + 1, by omega, by go_num, B5.out⟩, by simp [intOf] <;> omega⟩
    · go_wp2_with fail
      go_ret
      exact ⟨rfl, BEL.out⟩
theorem sameRows_any (va vb : Value) (l : List (Int × List Int)) (w : World) (h1 : IsRows w va l) (h2 : IsRows w vb l) :
    Calls Try.prog 46 #[va, vb] w fun e w' => e = .returned (.bool true) ∧ Below w.heap.size w w' := by
  have C := Lib.hid (eqFuncRows_any va vb l w h1 h2)
  clear h1 h2
  go_enter Try.func46, Try.ntmps46
  go_wp2_with fail
  refine C.out.mono ?_
  rintro e w' ⟨rfl, hb⟩
  go_wp2_with fail
  go_ret
  exact ⟨rfl, hb⟩
end Go.Proofs.Ytnojmphggdndmaa
