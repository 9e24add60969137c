/- Parts of the proof, put together by a program: LawDc LaidC HeadC LawDh. No condition. -/
import Derived.Test.YtploomncapiloaaGreatDoorDBF
import Derived.Lib.LaidTab
import Derived.Test.YtploomncapiloaaGreatDoorRows
namespace Go.Proofs.YtploomncapiloaaGreatDoor
open Go.RowKit Go.Sort Go.PlainAid Croft
theorem counts_closed : Croft.runT stepA bench0 [35, 10, 10, 107, 101, 121, 32, 49] = [101, 114, 114, 111, 114, 32, 52, 10] := by
  have h1 : textL [35, 10, 10, 107, 101, 121, 32, 49] = [[35], [], [107, 101, 121, 32, 49]] := by decide
  have h2 : wordsL [35] = [[35]] := by decide
  have h3 : wordsL [] = [] := by decide
  have h4 : wordsL [107, 101, 121, 32, 49] = [wKey, [49]] := by decide
  have h5 : stepA bench0 wKey [[49]] = (errT 4, bench0) := by
    unfold stepA
    rw [if_neg (by decide), if_neg (by decide), if_pos (by decide)]
    rfl
  have h6 : errT 4 = [101, 114, 114, 111, 114, 32, 52] := by
    unfold errT numL
    rw [Go.Lib.decDigits]
    rfl
  unfold Croft.runT
  rw [if_neg (by rw [h1]; decide), h1]
  simp only [doLines, h2, h3, h4]
  rw [if_neg (by decide), if_pos (by decide), h5, h6]
  rfl
theorem heardN_next {T : List (List UInt8)} {k : Nat} {l : List UInt8} (h : T[k]? = some l) : heardN (T.take (k + 1)) = heardN (T.take k) + (if heardB (wordsL l) = true then 1 else 0) := by
  unfold heardN
  rw [List.take_add_one, h, List.filter_append, List.length_append]
  congr 1
  by_cases q : heardB (wordsL l) = true
  · rw [if_pos q]; simp [q]
  · rw [if_neg q]; simp [q]
theorem heardN_le (T : List (List UInt8)) : heardN T ≤ T.length := List.length_filter_le _ _
theorem textL_len2 (s : List UInt8) : ∀ y ∈ textL s, y.length ≤ s.length + 1 := fun y hy => by
  unfold textL at hy
  split at hy
  · exact line_tot s y (List.dropLast_subset _ hy)
  · exact line_tot s y hy
theorem doLines_len : ∀ (ls : List (List UInt8)) (st : Bench) (m : Nat), st.Ok m → m + ls.length ≤ 900 → (∀ l ∈ ls, l.length ≤ 70000) → (doLines stepA st ls).1.length ≤ 2200001 * ls.length
  | [], st, m, _, _, _ => by simp [doLines]
  | l :: ls, st, m, hok, hm, hl => by
    have e : doLines stepA st (l :: ls) = ((doLines stepA st [l]).1 ++ (doLines stepA (doLines stepA st [l]).2 ls).1, (doLines stepA (doLines stepA st [l]).2 ls).2) := doLines_append stepA st [l] ls
    rw [List.length_cons] at hm ⊢
    have ih := doLines_len ls (doLines stepA st [l]).2 (m + 1) (line_ok hok l) (by omega) (fun y hy => hl y (List.mem_cons_of_mem _ hy))
    have h1 : (doLines stepA st [l]).1.length ≤ 2200001 := by
      cases hw : wordsL l with
      | nil => rw [line_not (by rw [hw]; rfl)]; simp
      | cons x ws =>
        by_cases hh : heardB (wordsL l) = true
        · rw [line_heard hw hh]
          have h2 := tot_words l
          rw [hw, tot_cons] at h2
          have h3 := tot_length ws
          have h4 := hl l List.mem_cons_self
          have h5 := stepA_len hok (by omega) x ws (by omega)
          simp only [List.length_append, List.length_singleton]
          omega
        · rw [line_not (by simpa using hh)]; simp
    rw [e, List.length_append]
    omega
theorem last_byte {l : List UInt8} {q : Nat} {c : UInt8} (h : l.getLast? = some c) (hq : l.length = q + 1) (h2 : q < (bs l).size) : (bs l)[q]'h2 = c := by
  rw [List.getLast?_eq_getElem?, hq, Nat.add_sub_cancel] at h
  obtain ⟨h3, h4⟩ := List.getElem?_eq_some_iff.1 h
  rw [← h4]
  rfl
set_option maxRecDepth 100000 in
set_option maxHeartbeats 4000000 in
theorem deskCounts_any (s : List UInt8) (w : World) (hs : s.length ≤ 4294967270) (hL : Lay w) :
    Calls Tryz.prog 4 #[.string (bs s)] w fun e w' => e = .returned (.bool true) ∧ Below w.heap.size w w' := by
  have HL := Lib.hid hL
  have C0 := run_any [35, 10, 10, 107, 101, 121, 32, 49] w (by decide) hL
  rw [counts_closed] at C0
  obtain ⟨r0, hr0⟩ : ∃ r0, r0 = bs [101, 114, 114, 111, 114, 32, 52, 10] := ⟨_, rfl⟩
  rw [← hr0] at C0
  have q0 : (r0.toList == [101, 114, 114, 111, 114, 32, 52, 10]) = true := by rw [hr0, bs_toList]; rfl
  have q1 : (r0.toList != [101, 114, 114, 111, 114, 32, 52, 10]) = false := by rw [hr0, bs_toList]; rfl
  have CZ := Lib.hid (show Calls Tryz.prog 6 #[.string ⟨#[35, 10, 10, 107, 101, 121, 32, 49]⟩] w fun e w' => e = .returned (.string r0) ∧ Below w.heap.size w w' from C0)
  have CP := Lib.hid (fun W (hW : Lay W) => run_any s W hs hW)
  have CT := Lib.hid (fun W => rTextLines_any s W (by omega))
  obtain ⟨T, hT⟩ : ∃ T, T = textL s := ⟨_, rfl⟩
  have HLL := Lib.hid (show ∀ y ∈ T, y.length ≤ s.length + 1 by rw [hT]; exact textL_len2 s)
  obtain ⟨M, hM⟩ : ∃ M, M = T.length := ⟨_, rfl⟩
  have HM := Lib.hid hM
  obtain ⟨rl, hrl⟩ : ∃ rl, rl = Croft.runT stepA bench0 s := ⟨_, rfl⟩
  have HR := Lib.hid (show rl = if 65536 < s.length ∨ 200 < M then [101, 114, 114, 111, 114, 32, 50, 10] else (doLines stepA bench0 T).1 by rw [hrl, hM, hT]; rfl)
  rw [← hrl] at CP
  rw [← hT] at CT
  obtain ⟨r, hr⟩ : ∃ r, r = bs rl := ⟨_, rfl⟩
  have HRB := Lib.hid hr
  rw [← hr] at CP
  obtain ⟨st, hst⟩ : ∃ st, st = bs s := ⟨_, rfl⟩
  have hsz : st.size = s.length := by rw [hst, bs_size]
  rw [← hst] at CP CT ⊢
  suffices hgoal : ∀ Post : Ending → World → Prop, (∀ w', Below w.heap.size w w' → Post (.returned (.bool true)) w') → Calls Tryz.prog 4 #[.string st] w Post from hgoal _ fun w' h => ⟨rfl, h⟩
  intro Post hpo
  have HP := Lib.hid hpo
  clear hpo hL hT hM hrl hr hst C0 hr0
  go_enter Tryz.func4, Tryz.ntmps4
  go_wp2_with fail
  refine CZ.out.mono ?_
  rintro e W0 ⟨rfl, hb⟩
  have B0 := Lib.hid hb
  clear hb CZ
  try dsimp only
  go_wp2_with fail
  refine (CP.out W0 (HL.out.below B0.out)).mono ?_
  rintro e W1 ⟨rfl, hb⟩
  have B1 := Lib.hid (below_trans B0.out hb B0.out.size)
  clear hb CP
  try dsimp only
  by_cases hbig1 : 65536 < s.length
  · have hI : (st.size : Int) > 65536 := by omega
    have hd1 : decide ((st.size : Int) > 65536) = true := decide_eq_true hI
    have hrq : (r.toList == [101, 114, 114, 111, 114, 32, 50, 10]) = true := by rw [HRB.out, bs_toList, HR.out, if_pos (.inl hbig1)]; rfl
    clear hbig1 hsz
    go_wp2_with fail
    exact HP.out _ B1.out
  · have hI : ¬ (st.size : Int) > 65536 := by omega
    have hd1 : decide ((st.size : Int) > 65536) = false := decide_eq_false hI
    go_wp2_with fail
    refine (CT.out W1).mono ?_
    rintro e W2 ⟨v, rfl, hi, hb⟩
    have B2 := Lib.hid (below_trans B1.out hb B1.out.size)
    obtain ⟨A1, c1, rfl, _⟩ := hi
    rw [← HM.out]
    clear hb
    try dsimp only
    by_cases hbig2 : 200 < M
    · have hI2 : (M : Int) > 200 := by omega
      have hd2 : decide ((M : Int) > 200) = true := decide_eq_true hI2
      have hrq : (r.toList == [101, 114, 114, 111, 114, 32, 50, 10]) = true := by rw [HRB.out, bs_toList, HR.out, if_pos (.inr hbig2)]; rfl
      clear hbig1 hsz
      go_wp2_with fail
      exact HP.out _ B2.out
    · have hI2 : ¬ (M : Int) > 200 := by omega
      have hd2 : decide ((M : Int) > 200) = false := decide_eq_false hI2
      have HS6 := Lib.hid (show s.length ≤ 65536 by omega)
      have hM200 : M ≤ 200 := by omega
      have HRL := Lib.hid (show rl = (doLines stepA bench0 T).1 by rw [HR.out, if_neg (by omega)])
      clear hbig1 hbig2 hsz
      go_wp2_with fail
      refine (CT.out W2).mono ?_
      rintro e W3 ⟨v, rfl, hi, hb⟩
      have B3 := Lib.hid (below_trans B2.out hb B2.out.size)
      have KL := Lib.hid hi
      obtain ⟨A2, c2, rfl, hc2, _⟩ := hi
      rw [← HM.out] at hc2 ⊢
      obtain ⟨wc, hwc⟩ : ∃ wc, wc = W3 := ⟨_, rfl⟩
      subst hwc
      clear hb CT
      try dsimp only
      go_wp2_with fail
      go_loopw [4, 26] (fun o i wr => ∃ k : Nat, k ≤ M ∧ i = .int .i64 k ∧ o = .int .i64 (heardN (T.take k) : Nat) ∧ Below wc.heap.size wc wr) (fun _ i _ => M - (intOf i).toNat)
      case atStart => exact ⟨0, Nat.zero_le _, rfl, rfl, Below.refl _ _⟩
      case round =>
        obtain ⟨k, hk, rfl, ho, hbel⟩ := hrel
        have BEL := Lib.hid hbel
        obtain ⟨H, hH⟩ : ∃ H, H = heardN (T.take k) := ⟨_, rfl⟩
        have HH := Lib.hid hH
        have hHk : H ≤ k := by rw [hH]; refine Nat.le_trans (heardN_le _) ?_; rw [List.length_take]; omega
        rw [← hH] at ho
        subst ho
        have KLr := Lib.hid (KL.out.below BEL.out)
        clear hbel hH
        obtain ⟨wo, hwo⟩ : ∃ wo, wo = wr := ⟨_, rfl⟩
        subst hwo
        by_cases hlt : k < M
        · obtain ⟨A, c, hA, _, _, _, hr⟩ := KLr.out
          injection hA with hA1 hA2 hA3
          subst hA1 hA3
          obtain ⟨b2, o2, l, rfl, hb2, hy, hcy⟩ := strs_at hr (k := k) (by rw [← HM.out]; exact hlt)
          have HTK := Lib.hid (show T[k]? = some l from hy)
          have hyl := HLL.out l (List.mem_of_getElem? hy)
          have hll : l.length ≤ 70000 := by have := HS6.out; omega
          have CW := Lib.hid (rLineWords_any l wo (by omega))
          obtain ⟨sy, hsy⟩ : ∃ sy, sy = bs l := ⟨_, rfl⟩
          rw [← hsy] at CW hcy
          obtain ⟨N5, hN5⟩ : ∃ N5, N5 = (wordsL l).length := ⟨_, rfl⟩
          have HN5 := Lib.hid hN5
          have HNX := Lib.hid (heardN_next HTK.out)
          rw [← HH.out] at HNX
          clear hr hb2 hy hyl hsy hA2 hN5
          go_wp2_with fail
          refine CW.out.mono ?_
          rintro e wi ⟨v, rfl, hks5, hbi⟩
          have K5 := Lib.hid hks5.is
          obtain ⟨A5, c5, rfl, hc5, _⟩ := own_form hks5.1
          rw [← HN5.out] at hc5 ⊢
          have BELI := Lib.hid (below_trans BEL.out hbi BEL.out.size)
          clear hks5 hbi
          try dsimp only
          have hw1 : IntKind.i64.wrap ((H : Int) + 1) = (H : Int) + 1 := IntWalk.i64_in _ (by omega)
          cases hw : wordsL l with
          | nil =>
            have h0 : N5 = 0 := by rw [HN5.out, hw]; rfl
            have hd0 : decide ((N5 : Int) > 0) = false := by rw [decide_eq_false_iff_not]; omega
            have hd1n : decide (0 < N5) = false := by rw [decide_eq_false_iff_not]; omega
            have HX := Lib.hid (show heardN (T.take (k + 1)) = H by rw [HNX.out, hw]; rfl)
            clear h0 hw
            go_wp2_with fail
            exact ⟨⟨k + 1, by omega, by go_num, by rw [HX.out], BELI.out⟩, by simp [intOf] <;> omega⟩
          | cons x0 ws =>
            have hN1 : 1 ≤ N5 := by rw [HN5.out, hw]; simp
            have hN0 : 0 < N5 := by omega
            have hNI : (0 : Int) < (N5 : Int) := by omega
            have hd0 : decide ((N5 : Int) > 0) = true := decide_eq_true hNI
            have hd1n : decide (0 < N5) = true := decide_eq_true hN0
            have hks := K5.out
            rw [hw] at hks
            obtain ⟨A, c, hA, _, _, _, hr⟩ := hks
            obtain ⟨b6, o6, x, rfl, hb6, hx, hcx⟩ := strs_at hr (k := 0) (by simp)
            injection hA with hA1 hA2 hA3
            subst hA1 hA3
            have hxx : x0 = x := by simpa using hx
            subst hxx
            rw [Nat.add_zero] at hcx
            clear hA2
            have hx0 : x0 ≠ [] := wordsL_ne (l := l) (by rw [hw]; simp)
            obtain ⟨c0, r0', hc0⟩ : ∃ c0 r0', x0 = c0 :: r0' := by
              cases x0 with
              | nil => exact absurd rfl hx0
              | cons c0 r0' => exact ⟨c0, r0', rfl⟩
            obtain ⟨sv, hsv⟩ : ∃ sv, sv = bs x0 := ⟨_, rfl⟩
            have hsz0 : (0 : Int) < (sv.size : Int) := by rw [hsv, bs_size, hc0]; simp
            have hix : ∀ W, (Instr.index 9 (.string sv) (.int .i64 0)).run Tryz.prog W = .ok (.int .u8 (c0.toNat : Int)) W := fun W => by
              rw [run_index_string W _ _ _ _ Tryz.underlying9, dif_pos ⟨by omega, hsz0⟩]
              subst hsv
              subst hc0
              rfl
            by_cases hc35 : c0 = 35
            · have hb35 : ((c0.toNat : Int) != 35) = false := by rw [hc35]; rfl
              have HX := Lib.hid (show heardN (T.take (k + 1)) = H by rw [HNX.out, hw, hc0, hc35]; rfl)
              rw [← hsv] at hcx
              clear hw hc35 hsv hc0 hx hx0 hr
              go_wp2_with fail
              exact ⟨⟨k + 1, by omega, by go_num, by rw [HX.out], BELI.out⟩, by simp [intOf] <;> omega⟩
            · have hb35 : ((c0.toNat : Int) != 35) = true := by
                rw [bne_iff_ne]; intro h
                exact hc35 (UInt8.toNat_inj.1 (by rw [show (35 : UInt8).toNat = 35 from rfl]; omega))
              have HX := Lib.hid (show heardN (T.take (k + 1)) = H + 1 by rw [HNX.out, hw, hc0]; simp [heardB, hc35])
              rw [← hsv] at hcx
              clear hw hc35 hsv hc0 hx hx0 hr
              go_wp2_with fail
              exact ⟨⟨k + 1, by omega, by go_num, by rw [HX.out]; go_num, BELI.out⟩, by simp [intOf] <;> omega⟩
        · obtain rfl : k = M := by omega
          have HT := Lib.hid (show H = heardN T by rw [HH.out, List.take_of_length_le (by rw [HM.out]; exact Nat.le_refl _)])
          have CC := Lib.hid (sh_strings_Count_one r 10 wo)
          obtain ⟨cn, hcn⟩ : ∃ cn, cn = Go.Lib.countByte r.data.toList 10 := ⟨_, rfl⟩
          have hge : H ≤ cn := by
            rw [HT.out, hcn, HRB.out, data_bs, HRL.out]
            exact doLines_count stepA bench0 T
          rw [← hcn] at CC
          have hI5 : (cn : Int) ≥ (H : Int) := by omega
          have hd5 : decide ((cn : Int) ≥ (H : Int)) = true := decide_eq_true hI5
          have hd6 : decide (H ≤ cn) = true := decide_eq_true hge
          have B9 := Lib.hid (below_trans B3.out BEL.out B3.out.size)
          have HLAST := doLines_last stepA bench0 T
          rw [← HRL.out] at HLAST
          rcases HLAST with h | h
          · have hr1 : (r.toList == []) = true := by rw [HRB.out, bs_toList, h]; rfl
            clear h hcn
            go_wp2_with fail
            refine CC.out.mono ?_
            rintro e W9 ⟨rfl, rfl⟩
            try dsimp only
            go_wp2_with fail
            exact HP.out _ B9.out
          · have hne : rl ≠ [] := fun e => by rw [e] at h; cases h
            have hr1 : (r.toList == []) = false := by rw [HRB.out, bs_toList, beq_eq_false_iff_ne]; exact hne
            have hlen : 1 ≤ rl.length := by
              cases rl with
              | nil => exact absurd rfl hne
              | cons a b => simp
            have hsr : r.size = rl.length := by rw [HRB.out, bs_size]
            obtain ⟨q, hq⟩ : ∃ q : Nat, r.size = q + 1 := ⟨r.size - 1, by omega⟩
            have hqm : q < 281474976710656 := by
              have h6 := doLines_len T bench0 0 ⟨by simp [bench0], fun k hk => by cases hk⟩ (by have := HM.out; omega) (fun y hy => by have := HLL.out y hy; have := HS6.out; omega)
              rw [← HRL.out, ← HM.out] at h6
              omega
            have hwq : IntKind.i64.wrap ((r.size : Int) - 1) = (q : Int) := by rw [show (r.size : Int) - 1 = (q : Int) by omega]; exact IntWalk.i64_in _ (by omega)
            have hix : ∀ W, (Instr.index 9 (.string r) (.int .i64 (q : Int))).run Tryz.prog W = .ok (.int .u8 10) W := fun W => by
              rw [run_index_string W _ _ _ _ Tryz.underlying9, dif_pos ⟨by omega, by omega⟩]
              have HRBv := HRB.out
              subst HRBv
              have h7 : (bs rl)[q]'(by omega) = 10 := last_byte h (by omega) (by omega)
              simp only [Int.toNat_natCast]
              rw [h7]
              rfl
            clear h hcn hne hlen hsr
            go_wp2_with fail
            refine CC.out.mono ?_
            rintro e W9 ⟨rfl, rfl⟩
            try dsimp only
            go_wp2_with fail
            exact HP.out _ B9.out
end Go.Proofs.YtploomncapiloaaGreatDoor
namespace Go.Proofs.YtploomncapiloaaGreatDoor
open Go.RowKit Croft
theorem pow_of {W : World} {g : Nat} {t : TypeId} {cs : Array Value} {fuel : Nat} {p : List MemPlace} {enc : TypeId × Value → Unit} {sp : Nat → Bool} {held : Bool} {base : Nat} (hg : Tryz.prog.globalNamed "internal/strconv.uint64pow10" = some g) (ht : (Tryz.prog.globals[g]?).map (·.type) = some t) (hv : W.var? Tryz.prog "internal/strconv.uint64pow10" = some cs)
    (hd : DataW.trod enc Tryz.prog W base sp held fuel t cs.toList = some (Rows.laid_internal_strconv_uint64pow10, p)) : Lib.TabIs Tryz.prog W "internal/strconv.uint64pow10" .u64 Lib.pow10Tab := by
  obtain rfl := Option.some.inj ((show Tryz.prog.globalNamed "internal/strconv.uint64pow10" = some 4 by kernel_rfl).symm.trans hg)
  obtain rfl := Option.some.inj ((show (Tryz.prog.globals[4]?).map (·.type) = some 201 by kernel_rfl).symm.trans ht)
  unfold Lib.TabIs
  rw [hv, ← Lib.cells_of_tab Tryz.underlying201 Tryz.underlying67 (by kernel_rfl) (by kernel_rfl) (show DataW.trod enc Tryz.prog W base sp held fuel _ cs.toList = some (Lib.tabData .u64 Lib.pow10Tab, p) from hd)]
theorem max_of {W : World} (h : W.ShapedOpen Tryz.prog) : MaxIs W := sh_laysM143.s1_3 W h
theorem kept_one (z : Int) : keptX 1 0 [z] = ofF (toF z) := by
  have hsh : ∃ x, Shared 1 0 (toFs [z]) x := ⟨toF z, Shared.const 1 0 (toF z)⟩
  have key : ∀ x, Shared 1 0 (toFs [z]) x → x = toF z := fun x ⟨p, hp, hd, hx⟩ => by
    have hd : [toF z] = [peval p (pt 0)] := hd
    injection hd with hd _
    match p, hp with
    | [], _ => rw [hd, ← hx]; rfl
    | [a], _ => rw [hd, ← hx]; simp only [peval, F_mz, F_az]
  unfold keptX
  rw [dif_pos hsh, key _ (Classical.choose_spec hsh)]
theorem rob_none : robR 1 [(1, 7), (2, 9), (3, 0)] = (0, [], 6) := by
  have hno : ¬ ∃ p, Fits 1 0 [(1, 7), (2, 9), (3, 0)] p := fun ⟨p, hp, hb⟩ => by
    have hb := List.eq_nil_of_length_eq_zero (Nat.le_zero.1 hb)
    unfold badL at hb
    rw [List.map_eq_nil_iff, List.filter_eq_nil_iff] at hb
    have h1 : peval p (toF 1) = toF 7 := by have := hb (1, 7) (by simp); simpa using this
    have h2 : peval p (toF 2) = toF 9 := by have := hb (2, 9) (by simp); simpa using this
    have h3 : peval p (toF 3) = toF 0 := by have := hb (3, 0) (by simp); simpa using this
    have e2 : toF 2 = toF 1 + toF 1 := by decide +kernel
    have e3 : toF 3 = toF 1 + toF 1 + toF 1 := by decide +kernel
    have e : toF 7 + toF 0 = toF 9 + toF 9 := by
      rw [← h1, ← h2, ← h3, e2, e3]
      match p, hp with
      | [], _ => simp only [peval]
      | [a], _ => simp only [peval]; grind
      | [a, b], _ => simp only [peval]; grind
    exact absurd e (by decide +kernel)
  unfold robR
  rw [if_pos (by decide +kernel)]
  exact dif_neg hno
theorem num7 : numL 7 = [55] := by unfold numL; simp [Go.Lib.decDigits]
theorem num9 : numL 9 = [57] := by unfold numL; simp [Go.Lib.decDigits]
theorem num11 : numL 11 = [49, 49] := by unfold numL; simp [Go.Lib.decDigits]
theorem num1 : numL 1 = [49] := by unfold numL; simp [Go.Lib.decDigits]
theorem num2 : numL 2 = [50] := by unfold numL; simp [Go.Lib.decDigits]
theorem num6 : numL 6 = [54] := by unfold numL; simp [Go.Lib.decDigits]
theorem head1 (b : Bench) : stepA b wDeal [[51], [53], [50]] = ([55, 32, 57, 32, 49, 49], b) := by
  have h : plainA b wDeal [3, 5, 2] = some (dealA [3, 5, 2], b) := by unfold plainA; rw [if_pos rfl, if_pos (by decide)]
  have h2 : dealA [3, 5, 2] = [55, 32, 57, 32, 49, 49] := by
    have e : dealX 5 [2] 3 (dealB [2] 3) = [7, 9, 11] := by decide +kernel
    have e2 : dealE (dealB [2] 3) = 0 := by decide +kernel
    unfold dealA
    show toldT (dealX 5 [2] 3 (dealB [2] 3)) (dealE (dealB [2] 3)) = _
    rw [e, e2]
    unfold toldT
    rw [if_pos rfl]
    simp only [List.map_cons, List.map_nil, num7, num9, num11]
    rfl
  unfold stepA
  rw [if_neg (by decide), if_neg (by decide), if_pos (by decide), show [[51], [53], [50]].map numR = [3, 5, 2] from by decide, h, h2]
  rfl
theorem head2 (b : Bench) : stepA b wOpen [[49], [49], [55], [50], [57], [51], [48]] = ([101, 114, 114, 111, 114, 32, 54], b) := by
  have h : plainA b wOpen [1, 1, 7, 2, 9, 3, 0] = some (openA [1, 1, 7, 2, 9, 3, 0], b) := by unfold plainA; rw [if_neg (by decide), if_pos rfl, if_pos (by decide), if_neg (by decide)]
  have h2 : openA [1, 1, 7, 2, 9, 3, 0] = [101, 114, 114, 111, 114, 32, 54] := by
    unfold openA
    show toldT ((robR 1 [(1, 7), (2, 9), (3, 0)]).1 :: (robR 1 [(1, 7), (2, 9), (3, 0)]).2.1) (robR 1 [(1, 7), (2, 9), (3, 0)]).2.2 = _
    rw [rob_none]
    unfold toldT
    rw [if_neg (by decide)]
    unfold errT
    rw [num6]
    rfl
  unfold stepA
  rw [if_neg (by decide), if_neg (by decide), if_pos (by decide), show [[49], [49], [55], [50], [57], [51], [48]].map numR = [1, 1, 7, 2, 9, 3, 0] from by decide, h, h2]
  rfl
theorem head3 (b : Bench) : stepA b wKeys [[49], [48]] = ([111, 107], ⟨b.tx, some ⟨1, 0, 0, 0, fun _ => none⟩⟩) := by
  have h : plainA b wKeys [1, 0] = some (keysA b 1 0) := by unfold plainA; rw [if_neg (by decide), if_neg (by decide), if_neg (by decide), if_neg (by decide), if_neg (by decide), if_pos rfl, if_pos (by decide)]; rfl
  have h2 : keysA b 1 0 = ([111, 107], ⟨b.tx, some ⟨1, 0, 0, 0, fun _ => none⟩⟩) := by unfold keysA; rw [if_pos (by decide)]; rfl
  unfold stepA
  rw [if_neg (by decide), if_neg (by decide), if_pos (by decide), show [[49], [48]].map numR = [1, 0] from by decide, h, h2]
  rfl
theorem key_step {b : Bench} {k k2 : Keep} {v : List UInt8} {ws : List (List UInt8)} {n : List Int} {f : Keep → List UInt8 × Keep} {s : List UInt8} (h1 : ¬ v = wCircuit) (h2 : ¬ v = wWork) (h3 : numsOk ws = true) (hn : ws.map numR = n)
    (hp : plainA b v n = none) (hf : keyedK v n = some f) (hk : b.ks = some k) (hr : f k = (s, k2)) : stepA b v ws = (s, ⟨b.tx, some k2⟩) := by
  unfold stepA
  rw [if_neg h1, if_neg h2, if_pos h3, hn, hp, Option.getD_none]
  unfold keyedA
  rw [hf]
  show onKeep b f = _
  unfold onKeep
  rw [hk]
  show ((f k).1, (⟨b.tx, some (f k).2⟩ : Bench)) = _
  rw [hr]
theorem head4 (tx : List UInt8) : stepA ⟨tx, some ⟨1, 0, 0, 0, fun _ => none⟩⟩ wGen [[57]] = ([49], ⟨tx, some ⟨1, 0, 1, 1, upd (fun _ => none) 1 (some [9])⟩⟩) := by
  refine key_step (n := [9]) (f := genA [9]) (k := ⟨1, 0, 0, 0, fun _ => none⟩) (by decide) (by decide) (by decide) (by decide) (by unfold plainA; rw [if_neg (by decide), if_neg (by decide), if_neg (by decide), if_neg (by decide), if_neg (by decide), if_neg (by decide)]) (by unfold keyedK; rw [if_pos rfl]) rfl ?_
  unfold genA
  rw [if_pos (by decide)]
  unfold newA
  rw [if_neg (by decide)]
  have e : ofFs (sumD 1 (genP 0 [9]) 1) = [9] := by decide +kernel
  show (toldT [((0 + 1 : Nat) : Int)] 0, (⟨1, 0, 0 + 1, 0 + 1, upd (fun _ => none) ((0 + 1 : Nat) : Int) (some (ofFs (sumD 1 (genP 0 [9]) 1)))⟩ : Keep)) = _
  rw [e]
  unfold toldT
  rw [if_pos rfl]
  simp only [List.map_cons, List.map_nil]
  rw [show (((0 + 1 : Nat) : Int)) = 1 from rfl, num1]
  rfl
theorem head5 (tx : List UInt8) : stepA ⟨tx, some ⟨1, 0, 1, 1, upd (fun _ => none) 1 (some [9])⟩⟩ wTweak [[49], [50]] = ([50], ⟨tx, some ⟨1, 0, 2, 2, upd (upd (fun _ => none) 1 (some [9])) 2 (some [11])⟩⟩) := by
  refine key_step (n := [1, 2]) (f := tweakA 1 2) (k := ⟨1, 0, 1, 1, upd (fun _ => none) 1 (some [9])⟩) (by decide) (by decide) (by decide) (by decide) (by unfold plainA; rw [if_neg (by decide), if_neg (by decide), if_neg (by decide), if_neg (by decide), if_neg (by decide), if_neg (by decide)]) (by unfold keyedK; rw [if_neg (by decide), if_neg (by decide), if_pos rfl, if_pos (by decide)]; rfl) rfl ?_
  unfold tweakA
  show newA _ ([9].map fun y => ofF (toF y + toF 2)) = _
  have e : ([9].map fun y => ofF (toF y + toF 2)) = [11] := by decide +kernel
  rw [e]
  unfold newA
  rw [if_neg (by decide)]
  show (toldT [((1 + 1 : Nat) : Int)] 0, (⟨1, 0, 1 + 1, 1 + 1, upd (upd (fun _ => none) 1 (some [9])) ((1 + 1 : Nat) : Int) (some [11])⟩ : Keep)) = _
  unfold toldT
  rw [if_pos rfl]
  simp only [List.map_cons, List.map_nil]
  rw [show (((1 + 1 : Nat) : Int)) = 2 from rfl, num2]
  rfl
theorem head6 (tx : List UInt8) : stepA ⟨tx, some ⟨1, 0, 2, 2, upd (upd (fun _ => none) 1 (some [9])) 2 (some [11])⟩⟩ wKey [[50]] = ([49, 49], ⟨tx, some ⟨1, 0, 2, 2, upd (upd (fun _ => none) 1 (some [9])) 2 (some [11])⟩⟩) := by
  refine key_step (n := [2]) (f := keyA 2) (k := ⟨1, 0, 2, 2, upd (upd (fun _ => none) 1 (some [9])) 2 (some [11])⟩) (by decide) (by decide) (by decide) (by decide) (by unfold plainA; rw [if_neg (by decide), if_neg (by decide), if_neg (by decide), if_neg (by decide), if_neg (by decide), if_neg (by decide)]) (by unfold keyedK; rw [if_neg (by decide), if_neg (by decide), if_neg (by decide), if_neg (by decide), if_neg (by decide), if_pos rfl, if_pos (by decide)]; rfl) rfl ?_
  unfold keyA
  show (toldT [keptX 1 0 [11]] 0, _) = _
  have e : ofF (toF 11) = 11 := by decide +kernel
  rw [kept_one, e]
  unfold toldT
  rw [if_pos rfl]
  simp only [List.map_cons, List.map_nil]
  rw [num11]
  rfl
theorem head_closed : Croft.runT stepA bench0 [100, 101, 97, 108, 32, 51, 32, 53, 32, 50, 10, 111, 112, 101, 110, 32, 49, 32, 49, 32, 55, 32, 50, 32, 57, 32, 51, 32, 48, 10, 107, 101, 121, 115, 32, 49, 32, 48, 10, 103, 101, 110, 32, 57, 10, 116, 119, 101, 97, 107, 32, 49, 32, 50, 10, 107, 101, 121, 32, 50, 10]
    = [55, 32, 57, 32, 49, 49, 10, 101, 114, 114, 111, 114, 32, 54, 10, 111, 107, 10, 49, 10, 50, 10, 49, 49, 10] := by
  have ht : textL [100, 101, 97, 108, 32, 51, 32, 53, 32, 50, 10, 111, 112, 101, 110, 32, 49, 32, 49, 32, 55, 32, 50, 32, 57, 32, 51, 32, 48, 10, 107, 101, 121, 115, 32, 49, 32, 48, 10, 103, 101, 110, 32, 57, 10, 116, 119, 101, 97, 107, 32, 49, 32, 50, 10, 107, 101, 121, 32, 50, 10]
      = [[100, 101, 97, 108, 32, 51, 32, 53, 32, 50], [111, 112, 101, 110, 32, 49, 32, 49, 32, 55, 32, 50, 32, 57, 32, 51, 32, 48], [107, 101, 121, 115, 32, 49, 32, 48], [103, 101, 110, 32, 57], [116, 119, 101, 97, 107, 32, 49, 32, 50], [107, 101, 121, 32, 50]] := by decide +kernel
  have w1 : wordsL [100, 101, 97, 108, 32, 51, 32, 53, 32, 50] = [wDeal, [51], [53], [50]] := by decide +kernel
  have w2 : wordsL [111, 112, 101, 110, 32, 49, 32, 49, 32, 55, 32, 50, 32, 57, 32, 51, 32, 48] = [wOpen, [49], [49], [55], [50], [57], [51], [48]] := by decide +kernel
  have w3 : wordsL [107, 101, 121, 115, 32, 49, 32, 48] = [wKeys, [49], [48]] := by decide +kernel
  have w4 : wordsL [103, 101, 110, 32, 57] = [wGen, [57]] := by decide +kernel
  have w5 : wordsL [116, 119, 101, 97, 107, 32, 49, 32, 50] = [wTweak, [49], [50]] := by decide +kernel
  have w6 : wordsL [107, 101, 121, 32, 50] = [wKey, [50]] := by decide +kernel
  unfold Croft.runT
  rw [if_neg (by rw [ht]; decide), ht]
  simp only [doLines, w1, w2, w3, w4, w5, w6]
  rw [if_pos (by decide), if_pos (by decide), if_pos (by decide), if_pos (by decide), if_pos (by decide), if_pos (by decide)]
  simp only [head1, head2, head3, head4, head5, head6]
  rfl
end Go.Proofs.YtploomncapiloaaGreatDoor
namespace Go.Proofs.YtploomncapiloaaGreatDoor
open Go.RowKit Go.Sort Go.PlainAid Croft
theorem prefix_app (a r : List UInt8) : Go.Lib.hasPrefix (a ++ r) a = true := by
  unfold Go.Lib.hasPrefix
  rw [List.isPrefixOf_iff_prefix]
  exact List.prefix_append a r
set_option maxRecDepth 100000 in
set_option maxHeartbeats 2000000 in
theorem deskHead_any (a b : List UInt8) (w : World) (ha : a.length ≤ 140737488351232) (hb : b.length ≤ 140737488351232) (hL : Lay w) :
    Calls Tryz.prog 5 #[.string (bs a), .string (bs b)] w fun e w' => e = .returned (.bool true) ∧ Below w.heap.size w w' := by
  have HL := Lib.hid hL
  obtain ⟨cl, hcl⟩ : ∃ cl : List UInt8, cl = [100, 101, 97, 108, 32, 51, 32, 53, 32, 50, 10, 111, 112, 101, 110, 32, 49, 32, 49, 32, 55, 32, 50, 32, 57, 32, 51, 32, 48, 10, 107, 101, 121, 115, 32, 49, 32, 48, 10, 103, 101, 110, 32, 57, 10, 116, 119, 101, 97, 107, 32, 49, 32, 50, 10, 107, 101, 121, 32, 50, 10] := ⟨_, rfl⟩
  have C0 := run_any cl w (by rw [hcl]; decide) hL
  rw [hcl, head_closed] at C0
  obtain ⟨r0, hr0⟩ : ∃ r0, r0 = bs [55, 32, 57, 32, 49, 49, 10, 101, 114, 114, 111, 114, 32, 54, 10, 111, 107, 10, 49, 10, 50, 10, 49, 49, 10] := ⟨_, rfl⟩
  rw [← hr0] at C0
  have q0 : (r0.toList == [55, 32, 57, 32, 49, 49, 10, 101, 114, 114, 111, 114, 32, 54, 10, 111, 107, 10, 49, 10, 50, 10, 49, 49, 10]) = true := by rw [hr0, bs_toList]; rfl
  have q1 : (r0.toList != [55, 32, 57, 32, 49, 49, 10, 101, 114, 114, 111, 114, 32, 54, 10, 111, 107, 10, 49, 10, 50, 10, 49, 49, 10]) = false := by rw [hr0, bs_toList]; rfl
  have CZ := Lib.hid (show Calls Tryz.prog 6 #[.string ⟨#[100, 101, 97, 108, 32, 51, 32, 53, 32, 50, 10, 111, 112, 101, 110, 32, 49, 32, 49, 32, 55, 32, 50, 32, 57, 32, 51, 32, 48, 10, 107, 101, 121, 115, 32, 49, 32, 48, 10, 103, 101, 110, 32, 57, 10, 116, 119, 101, 97, 107, 32, 49, 32, 50, 10, 107, 101, 121, 32, 50, 10]⟩] w fun e w' => e = .returned (.string r0) ∧ Below w.heap.size w w' from C0)
  obtain ⟨s, hs⟩ : ∃ s, s = a ++ 10 :: b := ⟨_, rfl⟩
  have hsl : s.length = a.length + b.length + 1 := by rw [hs, List.length_append, List.length_cons]; omega
  have CP := Lib.hid (fun W (hW : Lay W) (h6 : s.length ≤ 65536) => run_any s W (by omega) hW)
  have CA := Lib.hid (fun W (hW : Lay W) (h6 : s.length ≤ 65536) => run_any a W (by omega) hW)
  have CT := Lib.hid (fun W (h6 : s.length ≤ 65536) => rTextLines_any s W (by omega))
  obtain ⟨T, hT⟩ : ∃ T, T = textL s := ⟨_, rfl⟩
  obtain ⟨M, hM⟩ : ∃ M, M = T.length := ⟨_, rfl⟩
  have HM := Lib.hid hM
  have HHEAD := Lib.hid (show s.length ≤ 65536 → M ≤ 200 → ∃ r, Croft.runT stepA bench0 s = Croft.runT stepA bench0 a ++ r from fun h1 h2 => by
    rw [hM, hT, hs] at h2
    rw [hs] at h1 ⊢
    exact runT_head stepA bench0 a b h1 h2)
  obtain ⟨ra, hra⟩ : ∃ ra, ra = Croft.runT stepA bench0 a := ⟨_, rfl⟩
  obtain ⟨rl, hrl⟩ : ∃ rl, rl = Croft.runT stepA bench0 s := ⟨_, rfl⟩
  rw [← hrl] at CP HHEAD
  rw [← hra] at CA HHEAD
  rw [← hT] at CT
  obtain ⟨sa, hsa⟩ : ∃ sa, sa = bs a := ⟨_, rfl⟩
  obtain ⟨sb, hsb⟩ : ∃ sb, sb = bs b := ⟨_, rfl⟩
  obtain ⟨st, hst⟩ : ∃ st, st = bs s := ⟨_, rfl⟩
  have hsz : st.size = s.length := by rw [hst, bs_size]
  have hsza : sa.size = a.length := by rw [hsa, bs_size]
  have hszb : sb.size = b.length := by rw [hsb, bs_size]
  obtain ⟨sn, hsn⟩ : ∃ sn, sn = sa ++ (⟨#[10]⟩ : ByteArray) := ⟨_, rfl⟩
  have hszn : sn.size = sa.size + 1 := by rw [hsn, ByteArray.size_append]; rfl
  have t1 : ∀ W, (Op.stringOp .add sa ⟨#[10]⟩).run Tryz.prog W = .ok (.string sn) W := fun W => by rw [hsn]; exact run_string_add_sum W sa _ (by have : (⟨#[10]⟩ : ByteArray).size = 1 := rfl; omega)
  have t2 : ∀ W, (Op.stringOp .add sn sb).run Tryz.prog W = .ok (.string st) W := fun W => by
    rw [show st = sn ++ sb by rw [hst, hsn, hsa, hsb, hs, show (⟨#[10]⟩ : ByteArray) = bs [10] from rfl, bs_append, bs_append, List.append_assoc]; rfl]
    exact run_string_add_sum W sn sb (by omega)
  rw [← hst] at CP CT
  rw [← hsa] at CA
  rw [← hsa, ← hsb]
  suffices hgoal : ∀ Post : Ending → World → Prop, (∀ w', Below w.heap.size w w' → Post (.returned (.bool true)) w') → Calls Tryz.prog 5 #[.string sa, .string sb] w Post from hgoal _ fun w' h => ⟨rfl, h⟩
  intro Post hpo
  have HP := Lib.hid hpo
  clear hpo hL hT hM hrl hra hst hsa hsb hsn C0 hr0 hcl hs
  go_enter Tryz.func5, Tryz.ntmps5
  go_wp2_with fail
  refine CZ.out.mono ?_
  rintro e W0 ⟨rfl, hb⟩
  have B0 := Lib.hid hb
  clear hb CZ
  try dsimp only
  by_cases hbig1 : 65536 < s.length
  · have hI : (st.size : Int) > 65536 := by omega
    have hd1 : decide ((st.size : Int) > 65536) = true := decide_eq_true hI
    clear hbig1 hsz hsl hsza hszb hszn
    go_wp2_with fail
    exact HP.out _ B0.out
  · have hI : ¬ (st.size : Int) > 65536 := by omega
    have hd1 : decide ((st.size : Int) > 65536) = false := decide_eq_false hI
    have HS6 := Lib.hid (show s.length ≤ 65536 by omega)
    clear hbig1 hsz hsl hsza hszb hszn
    go_wp2_with fail
    refine (CT.out W0 HS6.out).mono ?_
    rintro e W2 ⟨v, rfl, hi, hb⟩
    have B2 := Lib.hid (below_trans B0.out hb B0.out.size)
    obtain ⟨A1, c1, rfl, _⟩ := hi
    rw [← HM.out]
    clear hb
    try dsimp only
    by_cases hbig2 : 200 < M
    · have hI2 : (M : Int) > 200 := by omega
      have hd2 : decide ((M : Int) > 200) = true := decide_eq_true hI2
      go_wp2_with fail
      exact HP.out _ B2.out
    · have hI2 : ¬ (M : Int) > 200 := by omega
      have hd2 : decide ((M : Int) > 200) = false := decide_eq_false hI2
      obtain ⟨rt, hrt⟩ := HHEAD.out HS6.out (by omega)
      have HRT := Lib.hid hrt
      clear hbig2 hrt
      go_wp2_with fail
      refine (CP.out W2 (HL.out.below B2.out) HS6.out).mono ?_
      rintro e W3 ⟨rfl, hb⟩
      have B3 := Lib.hid (below_trans B2.out hb B2.out.size)
      clear hb
      try dsimp only
      go_wp2_with fail
      refine (CA.out W3 (HL.out.below B3.out) HS6.out).mono ?_
      rintro e W4 ⟨rfl, hb⟩
      have B4 := Lib.hid (below_trans B3.out hb B3.out.size)
      have CH := Lib.hid (sh_strings_HasPrefix (bs rl) (bs ra) W4)
      rw [data_bs, data_bs, HRT.out, prefix_app, ← HRT.out] at CH
      clear hb
      try dsimp only
      go_wp2_with fail
      refine CH.out.mono ?_
      rintro e W5 ⟨rfl, rfl⟩
      try dsimp only
      go_wp2_with fail
      exact HP.out _ B4.out
end Go.Proofs.YtploomncapiloaaGreatDoor
