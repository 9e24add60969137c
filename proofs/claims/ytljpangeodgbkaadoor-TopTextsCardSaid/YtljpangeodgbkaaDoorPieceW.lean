/- Numbers in a text: what the calls return. -/
import Derived.Test.YtljpangeodgbkaaDoorStrs
import Derived.Test.YtljpangeodgbkaaDoorGateW
import Derived.PlainAid
import Derived.Deep.CutRange
import Derived.Deep.CutBlock
import Derived.Test.YtljpangeodgbkaaDoorThroughW
import Derived.Deep.RegionLaw
import Derived.Lib.SliceRun
namespace Go.Proofs.YtljpangeodgbkaaDoor
open Go.RowKit Go.Sort Go.PlainAid Croft

theorem bt_bs {l : List UInt8} {k : Nat} {b : UInt8} (h : l[k]? = some b) : bt (bs l) k = b.toNat := by
  obtain ⟨hk, rfl⟩ := List.getElem?_eq_some_iff.1 h
  unfold bt
  rw [dif_pos (by rw [bs_size]; exact hk)]
  rfl
theorem numR_bad {l : List UInt8} {k : Nat} {b : UInt8} (h : l[k]? = some b) (hb : digB b = false) : numR l = -1 := by
  unfold numR
  split
  · rfl
  · rw [if_neg]
    intro ha
    have := List.all_eq_true.1 ha b (List.mem_of_getElem? h)
    rw [hb] at this; cases this
theorem take_all_next {l : List UInt8} {k : Nat} {b : UInt8} (h : l[k]? = some b) (hb : digB b = true) (ha : (l.take k).all digB = true) : (l.take (k + 1)).all digB = true := by
  rw [List.take_add_one, h, List.all_append, ha]; simp [hb]
theorem numF_next {l : List UInt8} {k : Nat} {b : UInt8} (h : l[k]? = some b) : numF (l.take (k + 1)) = 10 * numF (l.take k) + ((b.toNat : Int) - 48) := by
  rw [List.take_add_one, h]; exact numF_snoc _ _
theorem pow10_le {k : Nat} (h : k ≤ 9) : (10 : Int) ^ k ≤ 1000000000 := by
  obtain rfl | rfl | rfl | rfl | rfl | rfl | rfl | rfl | rfl | rfl : k = 0 ∨ k = 1 ∨ k = 2 ∨ k = 3 ∨ k = 4 ∨ k = 5 ∨ k = 6 ∨ k = 7 ∨ k = 8 ∨ k = 9 := by omega
  all_goals decide
theorem pow10_le10 {k : Nat} (h : k ≤ 10) : (10 : Int) ^ k ≤ 10000000000 := by
  by_cases q : k = 10
  · subst q; decide
  · have := pow10_le (k := k) (by omega); omega
set_option maxRecDepth 100000 in
set_option maxHeartbeats 1000000 in
theorem cNumber_any (l : List UInt8) (w : World) (hl : l.length ≤ 1000000000) :
    Calls Tryd.prog 43 #[.string (bs l)] w fun e w' => e = .returned (.int .i64 (numR l)) ∧ w = w' := by
  obtain ⟨s, hs⟩ : ∃ s, s = bs l := ⟨_, rfl⟩
  have hz : s.size = l.length := by rw [hs, bs_size]
  have hg := get_bt s
  have HB : Hid (∀ (k : Nat) (b : UInt8), l[k]? = some b → bt s k = b.toNat) := fun k b h => by rw [hs]; exact bt_bs h
  rw [← hs]
  clear hs
  by_cases h1 : l.length < 1
  · have hr : numR l = -1 := by unfold numR; rw [if_pos (.inl h1)]
    rw [hr]
    clear hr hg
    go_enter Tryd.func43, Tryd.ntmps43
    go_wp2_with fail
    all_goals (go_ret; exact ⟨rfl, rfl⟩)
  · by_cases h2 : 10 < l.length
    · have hr : numR l = -1 := by unfold numR; rw [if_pos (.inr (.inl h2))]
      rw [hr]
      clear hr hg
      go_enter Tryd.func43, Tryd.ntmps43
      go_wp2_with fail
      all_goals (go_ret; exact ⟨rfl, rfl⟩)
    · obtain ⟨c, hc⟩ : ∃ c, l[0]? = some c := ⟨_, List.getElem?_eq_getElem (by omega)⟩
      have hb0 : bt s 0 = c.toNat := HB.out 0 c hc
      by_cases h3 : c.toNat = 48 ∧ 1 < l.length
      · have hc48 : c = 48 := by
          apply UInt8.toNat_inj.1; rw [h3.1]; rfl
        have hr : numR l = -1 := by unfold numR; rw [if_pos (.inr (.inr ⟨h3.2, by rw [hc, hc48]⟩))]
        rw [hr]
        have h31 := h3.1
        have h32 := h3.2
        clear hr h3
        go_enter Tryd.func43, Tryd.ntmps43
        go_wp2_with fail
        all_goals (go_ret; exact ⟨rfl, rfl⟩)
      · have HN : Hid (numR l = if l.all digB then numF l else -1) := by
          unfold numR
          rw [if_neg]
          · rfl
          rintro (h | h | ⟨h, h'⟩)
          · exact h1 h
          · exact h2 h
          · rw [hc] at h'
            exact h3 ⟨by rw [Option.some.inj h']; rfl, h⟩
        have HC0 := Lib.hid hc
        clear hc
        go_enter Tryd.func43, Tryd.ntmps43
        go_wp2_with fail
        all_goals
          go_loopw [3, 25] (fun n i wr => ∃ k : Nat, k ≤ l.length ∧ i = .int .i64 k ∧ n = .int .i64 (numF (l.take k)) ∧ (l.take k).all digB = true ∧ wr = w) (fun _ i _ => l.length - (intOf i).toNat)
          case atStart => exact ⟨0, Nat.zero_le _, rfl, rfl, rfl, rfl⟩
          case round =>
            obtain ⟨k, hk, rfl, rfl, hall, rfl⟩ := hrel
            by_cases hlt : k < l.length
            · obtain ⟨b, hbk⟩ : ∃ b, l[k]? = some b := ⟨_, List.getElem?_eq_getElem hlt⟩
              have hbt : bt s k = b.toNat := HB.out k b hbk
              have HD := Lib.hid (@numR_bad l k b hbk)
              have HA := Lib.hid (fun hd => take_all_next hbk hd hall)
              have HF := Lib.hid (numF_next hbk)
              obtain ⟨cv, hcv⟩ : ∃ cv : Int, cv = b.toNat := ⟨_, rfl⟩
              rw [← hcv] at hbt HF
              have HDG := Lib.hid (show digB b = (decide (48 ≤ cv) && decide (cv ≤ 57)) by unfold digB; rw [hcv]; congr 1 <;> simp <;> omega)
              have hrg := numF_range k (l.take k) (by rw [List.length_take]; omega) hall
              have hp10 := pow10_le (k := k) (by omega)
              obtain ⟨m, hm⟩ : ∃ m, m = numF (l.take k) := ⟨_, rfl⟩
              rw [← hm] at hrg HF ⊢
              have hm0 : 0 ≤ m := hrg.1
              have hm1 : m < 1000000000 := by omega
              have HLT := Lib.hid hlt
              have hcv0 : 0 ≤ cv := by omega
              have hcv1 : cv ≤ 255 := by have := b.toNat_lt; omega
              clear hrg hp10 hm hcv hall hbk
              by_cases h48 : 48 ≤ cv
              · by_cases h57 : cv ≤ 57
                · go_wp2_with fail
                  go_roundw
                  case rel => exact ⟨k + 1, by omega, by simp, by rw [HF.out], HA.out (by rw [HDG.out]; simp [h48, h57]), trivial⟩
                  case measure => simp [intOf]; omega
                · have hr := HD.out (by rw [HDG.out]; simp; omega)
                  have HR := Lib.hid hr
                  clear hr
                  go_wp2_with fail
                  go_ret
                  exact ⟨by rw [HR.out]; rfl, rfl⟩
              · have hr := HD.out (by rw [HDG.out]; simp; omega)
                have HR := Lib.hid hr
                clear hr
                go_wp2_with fail
                go_ret
                exact ⟨by rw [HR.out]; rfl, rfl⟩
            · obtain rfl : k = l.length := by omega
              rw [List.take_length] at hall ⊢
              have hr : numR l = numF l := by rw [HN.out, if_pos hall]
              have HR := Lib.hid hr
              clear hr
              go_wp2_with fail
              go_ret
              exact ⟨by rw [HR.out]; rfl, rfl⟩
set_option maxRecDepth 100000 in
set_option maxHeartbeats 1000000 in
theorem rDigits_any (l : List UInt8) (w : World) (hl : l.length ≤ 1000000000) :
    Calls Tryd.prog 47 #[.string (bs l)] w fun e w' => e = .returned (.int .i64 (numR l)) ∧ w = w' := by
  obtain ⟨s, hs⟩ : ∃ s, s = bs l := ⟨_, rfl⟩
  have hz : s.size = l.length := by rw [hs, bs_size]
  have hg := get_bt s
  have HB : Hid (∀ (k : Nat) (b : UInt8), l[k]? = some b → bt s k = b.toNat) := fun k b h => by rw [hs]; exact bt_bs h
  rw [← hs]
  clear hs
  go_enter Tryd.func47, Tryd.ntmps47
  go_wp2_with fail
  go_loopw [3, 4] (fun n i wr => ∃ k : Nat, k ≤ l.length ∧ k ≤ 11 ∧ i = .int .i64 k ∧ n = .int .i64 (numF (l.take k)) ∧ (l.take k).all digB = true ∧ wr = w) (fun _ i _ => l.length - (intOf i).toNat)
  case atStart => exact ⟨0, Nat.zero_le _, by omega, rfl, rfl, rfl, rfl⟩
  case round =>
    obtain ⟨k, hk, hk11, rfl, rfl, hall, rfl⟩ := hrel
    by_cases hlt : k < l.length ∧ k < 11
    · obtain ⟨hlt, hk10⟩ := hlt
      obtain ⟨b, hbk⟩ : ∃ b, l[k]? = some b := ⟨_, List.getElem?_eq_getElem hlt⟩
      have hbt : bt s k = b.toNat := HB.out k b hbk
      have HD := Lib.hid (@numR_bad l k b hbk)
      have HA := Lib.hid (fun hd => take_all_next hbk hd hall)
      have HF := Lib.hid (numF_next hbk)
      obtain ⟨cv, hcv⟩ : ∃ cv : Int, cv = b.toNat := ⟨_, rfl⟩
      rw [← hcv] at hbt HF
      have HDG := Lib.hid (show digB b = (decide (48 ≤ cv) && decide (cv ≤ 57)) by unfold digB; rw [hcv]; congr 1 <;> simp <;> omega)
      have hrg := numF_range k (l.take k) (by rw [List.length_take]; omega) hall
      have hp10 := pow10_le10 (k := k) (by omega)
      obtain ⟨m, hm⟩ : ∃ m, m = numF (l.take k) := ⟨_, rfl⟩
      rw [← hm] at hrg HF ⊢
      have hm0 : 0 ≤ m := hrg.1
      have hm1 : m < 10000000000 := by omega
      have HLT := Lib.hid hlt
      have hcv0 : 0 ≤ cv := by omega
      have hcv1 : cv ≤ 255 := by have := b.toNat_lt; omega
      clear hrg hp10 hm hcv hall hbk
      by_cases h48 : 48 ≤ cv
      · by_cases h57 : cv ≤ 57
        · go_wp2_with fail
          go_roundw
          case rel => exact ⟨k + 1, by omega, by omega, by simp, by rw [HF.out]; congr 1; omega, HA.out (by rw [HDG.out]; simp [h48, h57]), trivial⟩
          case measure => simp [intOf]; omega
        · have HR := Lib.hid (HD.out (by rw [HDG.out]; simp; omega))
          go_wp2_with fail
          go_ret
          exact ⟨by rw [HR.out]; rfl, rfl⟩
      · have HR := Lib.hid (HD.out (by rw [HDG.out]; simp; omega))
        go_wp2_with fail
        go_ret
        exact ⟨by rw [HR.out]; rfl, rfl⟩
    · have CI := Lib.hid (rIn_any l.length 1 10)
      by_cases hin : 1 ≤ l.length ∧ l.length ≤ 10
      · have hb1 : decide ((1 : Int) ≤ (l.length : Int) ∧ (l.length : Int) ≤ 10) = true := by simp; omega
        obtain rfl : k = l.length := by omega
        rw [List.take_length] at hall ⊢
        obtain ⟨c, hc⟩ : ∃ c, l[0]? = some c := ⟨_, List.getElem?_eq_getElem (by omega)⟩
        have hb0 : bt s 0 = c.toNat := HB.out 0 c hc
        have HR := Lib.hid (show numR l = if c.toNat = 48 ∧ 1 < l.length then -1 else numF l by
          unfold numR
          by_cases q : c.toNat = 48 ∧ 1 < l.length
          · have hc48 : c = 48 := by apply UInt8.toNat_inj.1; rw [q.1]; rfl
            rw [if_pos (.inr (.inr ⟨q.2, by rw [hc, hc48]⟩)), if_pos q]
          · rw [if_neg, if_pos hall, if_neg q]
            rintro (h | h | ⟨h, h'⟩)
            · omega
            · omega
            · rw [hc] at h'
              exact q ⟨by rw [Option.some.inj h']; rfl, h⟩)
        have h0 : 0 < l.length := by omega
        clear hc hall
        go_wp2_with fail
        refine (CI.out _).mono ?_
        rintro e w' ⟨rfl, rfl⟩
        rw [hb1]
        try dsimp only
        by_cases h2 : 1 < l.length
        · by_cases h48 : c.toNat = 48
          · have HR2 := Lib.hid (show numR l = -1 by rw [HR.out, if_pos ⟨h48, h2⟩])
            go_wp2_with fail
            all_goals
              go_ret
              exact ⟨by rw [HR2.out]; rfl, rfl⟩
          · have HR2 := Lib.hid (show numR l = numF l by rw [HR.out, if_neg (fun q => h48 q.1)])
            go_wp2_with fail
            all_goals
              go_ret
              exact ⟨by rw [HR2.out]; rfl, rfl⟩
        · have HR2 := Lib.hid (show numR l = numF l by rw [HR.out, if_neg (fun q => h2 q.2)])
          go_wp2_with fail
          all_goals
            go_ret
            exact ⟨by rw [HR2.out]; rfl, rfl⟩
      · have hb1 : decide ((1 : Int) ≤ (l.length : Int) ∧ (l.length : Int) ≤ 10) = false := by simp; omega
        have HR := Lib.hid (show numR l = -1 by unfold numR; rw [if_pos (by omega)])
        go_wp2_with fail
        all_goals
          refine (CI.out _).mono ?_
          rintro e w' ⟨rfl, rfl⟩
          rw [hb1]
          try dsimp only
          go_wp2_with fail
          go_ret
          exact ⟨by rw [HR.out]; rfl, rfl⟩
/-- numbers of words -/
def numbersL (ws : List (List UInt8)) : List Int := if numsOk ws then ws.map numR else []
theorem numsOk_bad {ws : List (List UInt8)} {k : Nat} {x : List UInt8} (h : ws[k]? = some x) (hx : numR x < 0) : numsOk ws = false := by
  unfold numsOk
  rw [List.all_eq_false]
  exact ⟨x, List.mem_of_getElem? h, by simp only [decide_eq_true_eq]; omega⟩
theorem numsOk_all {ws : List (List UInt8)} (h : ∀ (k : Nat) (x : List UInt8), k < ws.length → ws[k]? = some x → 0 ≤ numR x) : numsOk ws = true := by
  unfold numsOk
  rw [List.all_eq_true]
  intro x hx
  obtain ⟨k, hk, rfl⟩ := List.getElem_of_mem hx
  simpa using h k _ hk (List.getElem?_eq_getElem hk)
theorem numsOk_take {ws : List (List UInt8)} {k : Nat} {x : List UInt8} (h : ws[k]? = some x) (hx : 0 ≤ numR x) (ha : numsOk (ws.take k) = true) : numsOk (ws.take (k + 1)) = true := by
  unfold numsOk at *
  rw [List.take_add_one, h, List.all_append, ha]; simp [hx]
theorem nums_take {ws : List (List UInt8)} {k : Nat} {x : List UInt8} (h : ws[k]? = some x) : (ws.take (k + 1)).map numR = (ws.take k).map numR ++ [numR x] := by
  rw [List.take_add_one, h]; simp
theorem numR_i64 (x : List UInt8) : I64 (numR x) := by
  have := numR_range x
  exact ⟨by omega, by omega⟩
end Go.Proofs.YtljpangeodgbkaaDoor
namespace Go.Proofs.YtljpangeodgbkaaDoor
open Go.RowKit Go.Sort Go.PlainAid Croft

set_option maxRecDepth 100000 in
set_option maxHeartbeats 1000000 in
theorem rNumbers_any (va : Value) (ws : List (List UInt8)) (w : World) (h1 : IsStrs w va ws) (hsz : ∀ x ∈ ws, x.length ≤ 1000000000) :
    Calls Tryd.prog 24 #[va] w fun e w' => ∃ v, e = .returned (.tuple #[v, .bool (numsOk ws)]) ∧ OwnInts w' w.heap.size v (numbersL ws) ∧ Below w.heap.size w w' := by
  have KS := Lib.hid h1
  have HX := Lib.hid hsz
  obtain ⟨A1, c1, rfl, hc1, hm1, hl1, hr1⟩ := h1
  suffices hgoal : ∀ Post : Ending → World → Prop, (∀ v w', OwnInts w' w.heap.size v (numbersL ws) → Below w.heap.size w w' → Post (.returned (.tuple #[v, .bool (numsOk ws)])) w') → Calls Tryd.prog 24 #[.slice A1 ws.length c1] w Post from hgoal _ fun v w' h1 h2 => ⟨v, rfl, h1, h2⟩
  intro Post hpo
  have HP := Lib.hid hpo
  clear hm1 hpo hr1 hsz
  go_enter Tryd.func24, Tryd.ntmps24
  go_wp2_with fail
  go_loopw [4, 5] (fun v i wr => ∃ k : Nat, k ≤ ws.length ∧ i = .int .i64 k ∧ numsOk (ws.take k) = true ∧ OwnInts wr w.heap.size v ((ws.take k).map numR) ∧ Below w.heap.size w wr) (fun _ i _ => ws.length - (intOf i).toNat)
  case atStart => exact ⟨0, Nat.zero_le _, rfl, rfl, OwnInts.nil _ _, Below.refl _ _⟩
  case round =>
    obtain ⟨k, hk, rfl, hok, hown, hbel⟩ := hrel
    have KW := Lib.hid hown
    have BEL := Lib.hid hbel
    have HOK := Lib.hid hok
    have hs1 := hbel.size
    clear hown hbel hok
    by_cases hlt : k < ws.length
    · obtain ⟨A, c, hA, _, _, _, hr⟩ := KS.out.below BEL.out
      injection hA with hA1 hA2 hA3
      subst hA1 hA3
      obtain ⟨b1, o1, x, rfl, hb1, hx, hcx⟩ := strs_at hr hlt
      have CD := Lib.hid (fun W => rDigits_any x W (HX.out x (List.mem_of_getElem? hx)))
      have HNX := Lib.hid (nums_take hx)
      have HOK1 := Lib.hid (fun h => numsOk_take hx h HOK.out)
      have HBAD := Lib.hid (fun h => numsOk_bad hx h)
      have hi64 := numR_i64 x
      have HI := Lib.hid hi64
      obtain ⟨z, hz⟩ : ∃ z, z = numR x := ⟨_, rfl⟩
      rw [← hz] at CD HNX HOK1 HBAD HI hi64
      clear hr hb1 hx hA2 hz
      by_cases hneg : z < 0
      · have HB := Lib.hid (HBAD.out hneg)
        go_wp2_with fail
        refine (CD.out _).mono ?_
        rintro e w' ⟨rfl, rfl⟩
        try dsimp only
        go_wp2_with fail
        have hp := HP.out (.slice none 0 0) _ (by unfold numbersL; rw [HB.out]; exact OwnInts.nil _ _) BEL.out
        rw [HB.out] at hp
        exact hp
      · have h0 : 0 ≤ z := by omega
        have HOK2 := Lib.hid (HOK1.out h0)
        have hkl : ((ws.take k).map numR).length = k := by rw [List.length_map, List.length_take]; omega
        have HKL := Lib.hid hkl
        clear hneg hkl
        go_wp2_with fail
        refine (CD.out _).mono ?_
        rintro e w' ⟨rfl, rfl⟩
        try dsimp only
        go_wp2_with fail
        refine (CD.out _).mono ?_
        rintro e w' ⟨rfl, rfl⟩
        try dsimp only
        go_wp2_with (at_builtin; go_loud (refine wpList_push_int rfl _ _ rfl w.heap.size _ _ z wr.heap.size 1 rfl (KW.out.alloc _) rfl (new_cell _ _ _) HI.out (by rw [HKL.out]; omega) (by rw [size_alloc]; omega) ?_))
        intro v' w5 hown' hbel'
        have K5 := Lib.hid hown'
        have B5 := Lib.hid ((BEL.out.alloc hs1 (.cells #[.int .i64 z] 3)).trans hbel')
        clear hown' hbel'
        go_wp2_with fail
        exact ⟨⟨k + 1, by omega, by go_num, HOK2.out, by rw [HNX.out, List.map_take]; exact K5.out, B5.out⟩, by simp [intOf] <;> omega⟩
    · obtain rfl : k = ws.length := by omega
      rw [show ws.take ws.length = ws from List.take_length] at KW HOK
      go_wp2_with fail
      have hp := HP.out _ _ (show OwnInts wr w.heap.size _ (numbersL ws) by unfold numbersL; rw [HOK.out, if_pos rfl]; exact KW.out) BEL.out
      rw [HOK.out] at hp
      exact hp
theorem bs_extract {l : List UInt8} {k : Nat} {b : UInt8} (h : l[k]? = some b) : (bs l).extract k (k + 1) = bs [b] := by
  obtain ⟨hk, rfl⟩ := List.getElem?_eq_some_iff.1 h
  rw [Lib.extract_eq]
  unfold bs
  congr 2
  rw [Nat.add_sub_cancel_left]
  show (l.drop k).take 1 = [l[k]]
  rw [List.drop_eq_getElem_cons hk]
  rfl
set_option maxRecDepth 100000 in
set_option maxHeartbeats 1000000 in
theorem rPieces_any (l : List UInt8) (c : UInt8) (w : World) (hl : l.length ≤ 4294967280) :
    Calls Tryd.prog 23 #[.string (bs l), .int .u8 c.toNat] w fun e w' => ∃ v, e = .returned v ∧ OwnStrs w' w.heap.size v (pieces c l) ∧ Below w.heap.size w w' := by
  obtain ⟨s, hs⟩ : ∃ s, s = bs l := ⟨_, rfl⟩
  have hz : s.size = l.length := by rw [hs, bs_size]
  have hg := get_bt s
  have HB : Hid (∀ (k : Nat) (b : UInt8), l[k]? = some b → bt s k = b.toNat) := fun k b h => by rw [hs]; exact bt_bs h
  have HE : Hid (∀ (k : Nat) (b : UInt8), l[k]? = some b → s.extract k (k + 1) = bs [b]) := fun k b h => by rw [hs]; exact bs_extract h
  rw [← hs]
  clear hs
  obtain ⟨cc, hcc⟩ : ∃ cc : Int, cc = c.toNat := ⟨_, rfl⟩
  rw [← hcc]
  have HCC := Lib.hid hcc
  clear hcc
  suffices hgoal : ∀ Post : Ending → World → Prop, (∀ v w', OwnStrs w' w.heap.size v (pieces c l) → Below w.heap.size w w' → Post (.returned v) w') → Calls Tryd.prog 23 #[.string s, .int .u8 cc] w Post from hgoal _ fun v w' h1 h2 => ⟨v, rfl, h1, h2⟩
  intro Post hpo
  have HP := Lib.hid hpo
  clear hpo
  have HL0 := Lib.hid (lit_strs w w.heap.size [[]] (by simp) (Nat.le_refl _))
  have HB0 := Lib.hid ((Below.refl w.heap.size w).alloc (Nat.le_refl _) (.cells #[.string ⟨#[]⟩] 9))
  go_enter Tryd.func23, Tryd.ntmps23
  go_wp2_with fail
  go_loopw [5, 6] (fun v i wr => ∃ k : Nat, k ≤ l.length ∧ i = .int .i64 k ∧ OwnStrs wr w.heap.size v (pieces c (l.take k)) ∧ Below w.heap.size w wr) (fun _ i _ => l.length - (intOf i).toNat)
  case atStart => exact ⟨0, Nat.zero_le _, rfl, HL0.out, HB0.out⟩
  case round =>
    obtain ⟨k, hk, rfl, hown, hbel⟩ := hrel
    have KW := Lib.hid hown
    have BEL := Lib.hid hbel
    have hs1 := hbel.size
    clear hown hbel
    by_cases hlt : k < l.length
    · obtain ⟨b, hb⟩ : ∃ b, l[k]? = some b := ⟨_, List.getElem?_eq_getElem hlt⟩
      have hbt := HB.out k b hb
      have hpl : (pieces c (l.take k)).length ≤ k + 1 := by have := pieces_le c (l.take k); rw [List.length_take] at this; omega
      have HPL := Lib.hid hpl
      have HBK := Lib.hid hb
      clear hpl
      by_cases hbc : b = c
      · have HNX := Lib.hid (pieces_take_hit hb hbc)
        have hbv : (bt s k == cc) = true := by rw [hbt, HCC.out, hbc]; simp
        clear hb hbt
        go_wp2_with (at_builtin; go_loud (refine wpList_push_str rfl _ _ rfl w.heap.size _ _ [] wr.heap.size 1 rfl (KW.out.alloc _) rfl (new_cell _ _ _) (by have := HPL.out; omega) (by rw [size_alloc]; omega) ?_))
        intro v' w5 hown' hbel'
        have K5 := Lib.hid hown'
        have B5 := Lib.hid ((BEL.out.alloc hs1 (.cells #[.string ⟨#[]⟩] 9)).trans hbel')
        clear hown' hbel'
        go_wp2_with fail
        exact ⟨⟨k + 1, by omega, by go_num, by rw [HNX.out]; exact K5.out, B5.out⟩, by simp [intOf] <;> omega⟩
      · have hbv : (bt s k == cc) = false := by
          rw [hbt, HCC.out, beq_eq_false_iff_ne]
          intro e
          exact hbc (UInt8.toNat_inj.1 (by omega))
        obtain ⟨P, hP⟩ : ∃ P, P = pieces c (l.take k) := ⟨_, rfl⟩
        have hn1 : 0 < P.length := by rw [hP, List.length_pos_iff]; exact pieces_ne _ _
        obtain ⟨n, hn⟩ : ∃ n, P.length = n + 1 := ⟨P.length - 1, by omega⟩
        obtain ⟨x, hx⟩ : ∃ x, P[n]? = some x := ⟨_, List.getElem?_eq_getElem (by omega)⟩
        have hxl : x.length ≤ l.length := by
          have h1 := pieces_mem_len c (l.take k) x (by rw [← hP]; exact List.mem_of_getElem? hx)
          rw [List.length_take] at h1; omega
        have HNX := Lib.hid (pieces_take_miss hb hbc (by rw [← hP]; exact hn) (by rw [← hP]; exact hx))
        rw [← hP] at KW HNX HPL
        have hnk : n ≤ k := by have := HPL.out; omega
        obtain ⟨A, cap, rfl, _, _⟩ := own_form KW.out.1
        obtain ⟨g, rfl⟩ : ∃ g, A = some ⟨g, 0, none⟩ := by
          rcases KW.out.1.2 with ⟨hv, _⟩ | ⟨g, cap', cur, hv, _⟩
          · injection hv with _ hv _; omega
          · injection hv with hv; exact ⟨g, hv⟩
        rw [hn] at KW ⊢
        have hcell := KW.out.cell hx
        have hfr := KW.out.frozen n
        have HBS := Lib.hid (KW.out.base_le)
        have hsl : ∀ W, (Instr.slice 9 (.string s) (some (.int .i64 k)) (some (.int .i64 ((k : Int) + 1))) none).run Tryd.prog W = .ok (.string (bs [b])) W := fun W => by
          have h1 := run_slice_string (P := Tryd.prog) (w := W) 9 s .i64 .i64 (k : Int) ((k : Int) + 1) Tryd.underlying9 (by omega) (by omega) (by omega)
          rw [h1]
          rw [show ((k : Int)).toNat = k by omega, show ((k : Int) + 1).toNat = k + 1 by omega, HE.out k b HBK.out]
        have hadd : ∀ W, (Op.stringOp .add (bs x) (bs [b])).run Tryd.prog W = .ok (.string (bs (x ++ [b]))) W := fun W => by
          rw [run_string_add_sum W (bs x) (bs [b]) (by rw [bs_size, bs_size]; simp; omega), bs_append]
        clear hx hb hn1 hbt hP
        go_wp2_with fail
        refine wp_region_quiet_tail 13 (by kernel_rfl) (by kernel_rfl) ?_
        simp only [List.take_succ_cons, List.take_zero, List.drop_succ_cons, List.drop_zero]
        repeat (go_big_quiet_step ((fail)))
        refine wpQuiet_nil ?_
        intro nq
        go_wp2_with fail
        exact ⟨⟨k + 1, by omega, by go_num, by rw [HNX.out]; exact (KW.out.drewN nq).set_ n (x ++ [b]), (below_drewN BEL.out nq).setCell (p := ⟨g, n, none⟩) HBS.out.1 _⟩, by simp [intOf] <;> omega⟩
    · obtain rfl : k = l.length := by omega
      rw [show l.take l.length = l from List.take_length] at KW
      go_wp2_with fail
      exact HP.out _ _ KW.out BEL.out
end Go.Proofs.YtljpangeodgbkaaDoor
