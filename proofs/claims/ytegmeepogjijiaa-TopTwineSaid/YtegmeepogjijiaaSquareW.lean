/- The square of a dealing in two variables. -/
import Derived.Test.YtegmeepogjijiaaTwineW
import Derived.Test.YtegmeepogjijiaaJoin
import Derived.Test.YtegmeepogjijiaaMat
import Derived.Test.YtegmeepogjijiaaTailM
namespace Go.Proofs.Ytegmeepogjijiaa
open Go.RowKit Croft

theorem off_bound {t k : Nat} (ht : t ≤ 4) (hk : k ≤ t + 1) : (off t k : Int) ≤ needN t + 1 ∧ ((k : Int) ≤ t → (off t k : Int) + (t - k) ≤ needN t) := by
  rcases (show t = 0 ∨ t = 1 ∨ t = 2 ∨ t = 3 ∨ t = 4 by omega) with rfl | rfl | rfl | rfl | rfl <;>
  rcases (show k = 0 ∨ k = 1 ∨ k = 2 ∨ k = 3 ∨ k = 4 ∨ k = 5 by omega) with rfl | rfl | rfl | rfl | rfl | rfl <;> simp [off, needN] at * <;> omega
theorem off_end {t : Nat} (ht : t ≤ 4) : (off t (t + 1) : Int) = needN t + 1 := by
  rcases (show t = 0 ∨ t = 1 ∨ t = 2 ∨ t = 3 ∨ t = 4 by omega) with rfl | rfl | rfl | rfl | rfl <;> simp [off, needN]
theorem rep_step {α : Type} (x y : α) {k n : Nat} (h : k < n) : (List.replicate k x ++ List.replicate (n - k) y).set k x = List.replicate (k + 1) x ++ List.replicate (n - (k + 1)) y := by
  apply List.ext_getElem
  · simp; omega
  · intro j h1 h2
    simp only [List.getElem_set, List.getElem_append, List.getElem_replicate, List.length_replicate]
    by_cases hj : k = j
    · subst hj; simp
    · rw [if_neg hj]
      by_cases hl : j < k
      · rw [dif_pos hl, dif_pos (by omega)]
      · rw [dif_neg hl, dif_neg (by omega)]
set_option maxRecDepth 100000 in
set_option maxHeartbeats 2000000 in
theorem pSquare_any (secret : Int) (tn : Nat) (vd : Value) (ds : List Int) (w : World) (hs : U64 secret) (h : IsNums w vd ds) (ht : tn ≤ 4) (hl : (ds.length : Int) = needN tn) :
    Calls Try.prog 116 #[.int .u64 secret, .int .i64 tn, vd] w fun e w' => ∃ v vs, e = .returned v ∧ Grid w' w.heap.size v vs (mat (tn + 1) fun p q => ofF (toF ((secret :: ds).getD (idx tn p q) 0))) ∧ Below w.heap.size w w' := by
  have KD := Lib.hid h
  have HL := Lib.hid hl
  suffices hgoal : ∀ Post : Ending → World → Prop, (∀ e w', (∃ v vs, e = .returned v ∧ Grid w' w.heap.size v vs (mat (tn + 1) fun p q => ofF (toF ((secret :: ds).getD (idx tn p q) 0))) ∧ Below w.heap.size w w') → Post e w') → Calls Try.prog 116 #[.int .u64 secret, .int .i64 tn, vd] w Post from hgoal _ fun e w' h => h
  intro Post hp
  have HP := Lib.hid hp
  clear hp h hl
  go_enter Try.func116, Try.ntmps116
  go_wp2_with (refine wpList_make_grid rfl _ _ rfl w.heap.size _ (tn + 1) rfl rfl (by omega) (by omega) (Nat.le_refl _) ?_)
  intro W1 ho hb
  have K1 := Lib.hid ho
  have BEL := Lib.hid hb
  clear ho hb
  go_wp2_with fail
  go_loopw [17] (fun i wr => ∃ (k : Nat) (vs : List Value), k ≤ tn + 1 ∧ i = .int .i64 k ∧ Grid wr w.heap.size (.slice (some ⟨w.heap.size, 0, none⟩) (tn + 1) (tn + 1)) vs (List.replicate k (List.replicate (tn + 1) 0) ++ List.replicate (tn + 1 - k) []) ∧ Below w.heap.size w wr) (fun i _ => tn + 1 - (intOf i).toNat)
  case atStart => exact ⟨0, _, Nat.zero_le _, rfl, K1.out, BEL.out⟩
  case round =>
    obtain ⟨k, vs, hk, rfl, hgr, hbel⟩ := hrel
    clear K1 BEL
    have hsz := hbel.size
    have KG := Lib.hid hgr
    have BEL := Lib.hid hbel
    clear hgr hbel
    by_cases hlt : k < tn + 1
    · go_wp2_with (refine wpList_make_nums rfl _ _ rfl wr.heap.size _ (tn + 1) rfl rfl (by omega) (by omega) (Nat.le_refl _) ?_)
      intro W2 ho hb
      have KG2 := KG.out.below hb
      have hkl : k < vs.length := by rw [KG.out.vlen]; simp; omega
      have hvk : vs[k]? = some vs[k] := List.getElem?_eq_getElem hkl
      have hcv := KG2.cell hvk
      have hfv := KG2.frozen k
      have KN := KG2.setRow rfl k (x := .slice (some ⟨wr.heap.size, 0, none⟩) (tn + 1) (tn + 1)) (ho.less hsz) (fun q y b hq hy hb2 hb3 => by
        have h1 := (KG.out.row q y _ hy (List.getElem?_eq_getElem (by have := (List.getElem?_eq_some_iff.1 hy).1; rw [KG.out.vlen] at this; exact this))).1.lt b hb2
        have h2 : wr.heap.size = b := by injection hb3
        omega)
      have hB : w.heap.size ≤ w.heap.size := Nat.le_refl _
      have B2 := Lib.hid ((below_trans BEL.out hb hsz).setCell (p := ⟨w.heap.size, k, none⟩) hB (.slice (some ⟨wr.heap.size, 0, none⟩) (tn + 1) (tn + 1)))
      have K2 := Lib.hid KN
      clear ho hb KG2 hvk KN KG BEL
      go_wp2_with fail
      refine ⟨⟨k + 1, vs.set k (.slice (some ⟨wr.heap.size, 0, none⟩) (tn + 1) (tn + 1)), by omega, by go_num, ?_, B2.out⟩, by simp [intOf] <;> omega⟩
      have h := K2.out
      rw [rep_step _ _ hlt] at h
      exact h
    · obtain rfl : k = tn + 1 := by omega
      have K2 := Lib.hid (show Grid wr w.heap.size (.slice (some ⟨w.heap.size, 0, none⟩) (tn + 1) (tn + 1)) vs (mat (tn + 1) (partM tn (secret :: ds) 0 0)) from by
        rw [part_start]; have h := KG.out; rw [Nat.sub_self, List.replicate_zero, List.append_nil] at h; exact h)
      replace KD := Lib.hid (KD.out.below BEL.out)
      have KGo := Lib.hid KG.out
      clear KG
      have hdl : ds.length ≤ 14 := by have := HL.out; unfold needN at this; split at this <;> (try split at this) <;> (try split at this) <;> (try split at this) <;> omega
      have HLO := Lib.hid (lit_own wr wr.heap.size [secret] (by simpa using hs) (by simp) (Nat.le_refl _))
      go_wp2_with (at_builtin; go_loud (refine wpList_join rfl _ _ rfl wr.heap.size _ _ [secret] ds rfl HLO.out rfl (KD.out.alloc _) (by simp; omega) (by rw [size_alloc]; omega) ?_))
      intro v3 W3 ho3 hb3
      have KL := Lib.hid (show OwnNums W3 wr.heap.size v3 (secret :: ds) from ho3)
      have hbb := (((Below.refl wr.heap.size wr).alloc (Nat.le_refl _) (.cells #[.int .u64 secret] 23)).trans hb3)
      replace K2 := Lib.hid (K2.out.below hbb)
      replace BEL := Lib.hid (below_trans BEL.out hbb hsz)
      have VLT := Lib.hid (show ∀ (q : Nat) (y : Value) (b : Nat), vs[q]? = some y → y.ownBlock = some b → b < wr.heap.size from fun q y b hy hb2 =>
        (KGo.out.row q y _ hy (List.getElem?_eq_getElem (by have := (List.getElem?_eq_some_iff.1 hy).1; rw [KGo.out.vlen] at this; exact this))).1.lt b hb2 |>.2)
      clear ho3 hb3 HLO hbb KD KGo
      obtain ⟨gl, cl, hv3, hgl1, hgl2, hcl1, hcl2⟩ := KL.out.form (by simp)
      subst hv3
      obtain ⟨L, hL⟩ : ∃ L, L = (secret :: ds).length := ⟨_, rfl⟩
      have hLd : L = ds.length + 1 := by rw [hL]; rfl
      rw [← hL] at KL hcl1 ⊢
      have HLL := Lib.hid hL
      have HLd := Lib.hid hLd
      clear hL hLd
      obtain ⟨B, hB0⟩ : ∃ B, B = wr.heap.size := ⟨_, rfl⟩
      rw [← hB0] at KL VLT hgl1
      have hBw : w.heap.size ≤ B := by omega
      have HB0 := Lib.hid hB0
      clear hB0
      go_wp2_with fail
      go_loopw [9, 33] (fun lv i wq => ∃ (k : Nat) (A : Option Addr) (c : Nat), k ≤ tn + 1 ∧ i = .int .i64 k ∧ lv = .slice A (L - off tn k) c ∧ L - off tn k ≤ c ∧ c ≤ maxLen ∧ (off tn k < L → A = some ⟨gl, off tn k, none⟩) ∧ Grid wq w.heap.size (.slice (some ⟨w.heap.size, 0, none⟩) (tn + 1) (tn + 1)) vs (mat (tn + 1) (partM tn (secret :: ds) k k)) ∧ OwnNums wq B (.slice (some ⟨gl, 0, none⟩) L cl) (secret :: ds) ∧ Below w.heap.size w wq) (fun _ i _ => tn + 1 - (intOf i).toNat)
      case atStart => exact ⟨0, some ⟨gl, 0, none⟩, cl, Nat.zero_le _, rfl, rfl, hcl1, hcl2, fun _ => rfl, K2.out, KL.out, BEL.out⟩
      case round =>
        obtain ⟨k, A, c, hk, rfl, rfl, hc1, hc2, hA, hgr, hol, hbel⟩ := hrel
        clear K2 KL BEL
        have KG := Lib.hid hgr
        have KL := Lib.hid hol
        have BEL := Lib.hid hbel
        have hsz3 := hbel.size
        have HA := Lib.hid hA
        clear hgr hol hbel hA
        by_cases hlt2 : k < tn + 1
        · have hdk : decide ((k : Int) < (tn : Int) + 1) = true := by simp; omega
          go_wp2_with fail
          go_loopw [9, 11] (fun lv jv wq => ∃ (j : Nat) (A : Option Addr) (c : Nat), k ≤ j ∧ j ≤ tn + 1 ∧ jv = .int .i64 j ∧ lv = .slice A (L - (off tn k + (j - k))) c ∧ L - (off tn k + (j - k)) ≤ c ∧ c ≤ maxLen ∧ (off tn k + (j - k) < L → A = some ⟨gl, off tn k + (j - k), none⟩) ∧ Grid wq w.heap.size (.slice (some ⟨w.heap.size, 0, none⟩) (tn + 1) (tn + 1)) vs (mat (tn + 1) (partM tn (secret :: ds) k j)) ∧ OwnNums wq B (.slice (some ⟨gl, 0, none⟩) L cl) (secret :: ds) ∧ Below w.heap.size w wq) (fun _ j _ => tn + 1 - (intOf j).toNat)
          case atStart => exact ⟨k, A, c, Nat.le_refl _, hk, rfl, by rw [Nat.sub_self, Nat.add_zero], by omega, hc2, by rw [Nat.sub_self, Nat.add_zero]; exact HA.out, KG.out, KL.out, BEL.out⟩
          case round =>
            obtain ⟨j, A, c, hkj, hj, rfl, rfl, hc1, hc2, hA, hgr, hol, hbel⟩ := hrel
            clear KG KL BEL HA
            have hsz4 := hbel.size
            have BEL := Lib.hid hbel
            have KL := Lib.hid hol
            have KG := Lib.hid hgr
            have HA := Lib.hid hA
            clear hbel hol hgr hA
            by_cases hlt3 : j < tn + 1
            · have ho2 := (off_bound ht (show k ≤ tn + 1 by omega)).2 (by omega)
              have hLn : (L : Int) = needN tn + 1 := by have := HLd.out; have := HL.out; omega
              have hq : off tn k + (j - k) < L := by omega
              have hAe := HA.out hq
              subst hAe
              obtain ⟨z0, hz0⟩ : ∃ z0, (secret :: ds)[off tn k + (j - k)]? = some z0 := ⟨_, List.getElem?_eq_getElem (by rw [← HLL.out]; exact hq)⟩
              have hu0 : U64 z0 := KL.out.2.2 z0 (List.mem_of_getElem? hz0)
              have hcl0 := KL.out.cell hz0
              obtain ⟨z, hz⟩ : ∃ z, z = ofF (toF z0) := ⟨_, rfl⟩
              have huz : U64 z := by rw [hz]; exact U64.of_ofF _
              have HZ := Lib.hid hz
              have HZ0 := Lib.hid hz0
              have hz00 := hu0.1
              have hrk := mat_row (n := tn + 1) (f := partM tn (secret :: ds) k j) (p := k) (by omega)
              have hrj := mat_row (n := tn + 1) (f := partM tn (secret :: ds) k j) (p := j) (by omega)
              obtain ⟨bk, ck, hvk, hok, hck1, hck2, hbk1, hbk2⟩ := KG.out.at_ hrk (by simp)
              obtain ⟨bj, cj, hvj, hoj, hcj1, hcj2, hbj1, hbj2⟩ := KG.out.at_ hrj (by simp)
              simp only [List.length_map, List.length_range] at hvk hok hck1 hvj hoj hcj1
              have hck := KG.out.cell hvk
              have hcj := KG.out.cell hvj
              have hg1 := KG.out.setNum hvk hrk j huz
              rw [mat_set] at hg1
              have hrj2 := mat_row (n := tn + 1) (f := fun a b => if a = k ∧ b = j then z else partM tn (secret :: ds) k j a b) (p := j) (by omega)
              have hg2 := hg1.setNum hvj hrj2 k huz
              rw [mat_set] at hg2
              have hcA := hok.cell (j := j) (z := partM tn (secret :: ds) k j k j) (by rw [List.getElem?_map, List.getElem?_range (by omega)]; rfl)
              have hfA := hok.frozen j
              have hoj2 := hg1.row j _ _ hvj hrj2
              have hcB := hoj2.cell (j := k) (z := if j = k ∧ k = j then z else partM tn (secret :: ds) k j j k) (by rw [List.getElem?_map, List.getElem?_range (by omega)]; rfl)
              have hfB := hoj2.frozen k
              have hne1 : bk ≠ gl := fun he => by have := VLT.out k _ bk hvk rfl; omega
              have hne2 : bj ≠ gl := fun he => by have := VLT.out j _ bj hvj rfl; omega
              have KL2 := Lib.hid ((KL.out.far (Ne.symm hne1) j (.int .u64 z)).far (Ne.symm hne2) k (.int .u64 z))
              have KG2 := Lib.hid hg2
              have BEL2 := Lib.hid ((BEL.out.setCell (p := ⟨bk, j, none⟩) hbk1 (.int .u64 z)).setCell (p := ⟨bj, k, none⟩) hbj1 (.int .u64 z))
              clear hrk hrj hvk hok hvj hoj hg1 hrj2 hg2 hoj2 hne1 hne2
              generalize partM tn (secret :: ds) k j k j = q1 at *
              generalize (if j = k ∧ k = j then z else partM tn (secret :: ds) k j j k) = q2 at *
              have hL1 : 0 < L - (off tn k + (j - k)) := by omega
              clear hz
              have hnext : off tn k + (j + 1 - k) = off tn k + (j - k) + 1 := by omega
              have hsub : L - (off tn k + (j - k)) - 1 = L - (off tn k + (j - k) + 1) := by omega
              have HZF := Lib.hid (show z = ofF (toF ((secret :: ds).getD (idx tn k j) 0)) from by
                rw [HZ.out]
                unfold idx
                rw [Nat.min_eq_left hkj, Nat.max_eq_right hkj, List.getD, HZ0.out]; rfl)
              rw [HZF.out] at KG2
              rw [← part_step (secret :: ds) hkj, ← HZF.out] at KG2
              have HN := Lib.hid hnext
              have HS := Lib.hid hsub
              clear hnext hsub
              by_cases hc1' : c = 1
              · subst hc1'
                go_wp2_with fail
                refine wp_region_quiet_mask [false, false, false, false, false, false, false, false, false, true, false, false, false, false, false, false, false, false] (by kernel_rfl) (by kernel_rfl) (fun _ _ _ _ _ h => h) ?_
                simp only [List.length_cons, List.length_nil, Nat.zero_add, Nat.reduceAdd, List.take_succ_cons, List.take_zero, List.drop_succ_cons, List.drop_zero, pickT, pickF, putAll, moved]
                simp [Act.put, Act.eval]
                repeat (go_big_quiet_step ((exact quietL (fNorm_any _ _ hz00))))
                refine wpQuiet_nil ?_
                intro nq
                rw [← HZ.out]
                have hcB2 : ((wr.drewN nq).setCell ⟨bk, j, none⟩ (.int .u64 z)).cell? ⟨bj, k, none⟩ = some (.int .u64 q2) := hcB
                have hfB2 : ((wr.drewN nq).setCell ⟨bk, j, none⟩ (.int .u64 z)).frozen? ⟨bj, k, none⟩ = false := hfB
                go_wp2_with fail
                have hL0 : L - (off tn k + (j - k) + 1) = 0 := by omega
                refine ⟨⟨j + 1, some ⟨gl, off tn k + (j - k), none⟩, 0, by omega, by omega, by go_num, by rw [HN.out, hL0], by rw [HN.out, hL0]; exact Nat.le_refl _, by omega, fun h => by rw [HN.out] at h; omega, KG2.out.drewN nq, KL2.out.drewN nq, below_drewN BEL2.out nq⟩, by simp [intOf] <;> omega⟩
              · go_wp2_with fail
                refine wp_region_quiet_mask [false, false, false, false, false, false, false, false, false, true, false, false, false, false, false, false, false, false] (by kernel_rfl) (by kernel_rfl) (fun _ _ _ _ _ h => h) ?_
                simp only [List.length_cons, List.length_nil, Nat.zero_add, Nat.reduceAdd, List.take_succ_cons, List.take_zero, List.drop_succ_cons, List.drop_zero, pickT, pickF, putAll, moved]
                simp [Act.put, Act.eval]
                repeat (go_big_quiet_step ((exact quietL (fNorm_any _ _ hz00))))
                refine wpQuiet_nil ?_
                intro nq
                rw [← HZ.out]
                have hcB2 : ((wr.drewN nq).setCell ⟨bk, j, none⟩ (.int .u64 z)).cell? ⟨bj, k, none⟩ = some (.int .u64 q2) := hcB
                have hfB2 : ((wr.drewN nq).setCell ⟨bk, j, none⟩ (.int .u64 z)).frozen? ⟨bj, k, none⟩ = false := hfB
                go_wp2_with fail
                refine ⟨⟨j + 1, _, _, by omega, by omega, by go_num, by rw [HN.out, ← HS.out], by rw [HN.out]; omega, by omega, fun h => by rw [HN.out], KG2.out.drewN nq, KL2.out.drewN nq, below_drewN BEL2.out nq⟩, by simp [intOf] <;> omega⟩
            · have hje : j = tn + 1 := by omega
              subst hje
              have ho3 : off tn k + (tn + 1 - k) = off tn (k + 1) := rfl
              go_wp2_with fail
              refine ⟨⟨k + 1, A, c, by omega, by go_num, by rw [← ho3], by rw [← ho3]; exact hc1, hc2, fun h => by rw [← ho3]; exact HA.out h, by rw [← part_row]; exact KG.out, KL.out, BEL.out⟩, by simp [intOf] <;> omega⟩
        · have hke : k = tn + 1 := by omega
          subst hke
          go_wp2_with fail
          have hfin := KG.out
          rw [part_end] at hfin
          exact HP.out _ _ ⟨_, vs, rfl, hfin, BEL.out⟩
end Go.Proofs.Ytegmeepogjijiaa
