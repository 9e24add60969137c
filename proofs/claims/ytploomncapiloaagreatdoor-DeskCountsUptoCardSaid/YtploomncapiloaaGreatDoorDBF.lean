/- Parts of the proof, put together by a program: DeskY. No condition. -/
import Derived.Test.YtploomncapiloaaGreatDoorDBE
namespace Go.Proofs.YtploomncapiloaaGreatDoor
open Go.RowKit Go.Sort Go.PlainAid Croft
theorem bld_writeF (b : Nat) (l x : List UInt8) (w : World) (h : BldF w b l) (hl : l.length + x.length ≤ 140737488355328) :
    Calls Tryz.prog 15 #[.pointer (some ⟨b, 0, none⟩), .string (bs x)] w fun e w' => e = .returned (.tuple #[.int .i64 x.length, .nilIface]) ∧ BldF w' b (l ++ x) ∧ Below b w w' ∧ Lib.OthersKept 5 (some b) w w' := by
  have hlt : b < w.heap.size := by rcases h with h | h <;> exact h.lt
  refine (sh_Builder_WriteString_k b b _ (bs x) w h (by rw [Lib.byteCells_length, bs_size]; exact hl) (Nat.le_of_lt hlt)).mono fun e w' hh => ?_
  obtain ⟨rfl, h1, h2, h3⟩ := hh
  rw [bs_size]
  refine ⟨rfl, .inr ?_, h2, h3⟩
  rw [Lib.byteCells_append]
  exact h1
theorem BldF.new (w : World) : BldF (w.alloc (.cells #[.pointer none, .slice none 0 0] 36)) w.heap.size [] :=
  Lib.IsBuilderF.of (.inl ⟨Nat.le_refl _, _, heap_alloc_new w _, World.ownsRow_nil _ _ _ _, by simp [Value.ownBlock]⟩)
theorem BldF.lt {w : World} {b : Nat} {l : List UInt8} (h : BldF w b l) : b < w.heap.size := by
  rcases h with h | h <;> exact h.lt
theorem trim_any (l : List UInt8) (w : World) (hl : l.length ≤ 4294967290) :
    Calls Tryz.prog 14 #[.string (bs l), .string ⟨#[10]⟩] w fun e w' => e = .returned (.string (bs (trimL l))) ∧ w = w' :=
  (sh_strings_TrimSuffix (bs l) ⟨#[10]⟩ w (by rw [bs_size]; omega)).mono fun e w' hh => ⟨by rw [hh.1]; simp [bs, trimL], hh.2.symm⟩
set_option maxRecDepth 100000 in
set_option maxHeartbeats 4000000 in
theorem run_any (s : List UInt8) (w : World) (hs : s.length ≤ 4294967270) (hL : Lay w) :
    Calls Tryz.prog 6 #[.string (bs s)] w fun e w' => e = .returned (.string (bs (Croft.runT stepA bench0 s))) ∧ Below w.heap.size w w' := by
  have HL := Lib.hid hL
  suffices hgoal : ∀ Post : Ending → World → Prop, (∀ w', Below w.heap.size w w' → Post (.returned (.string (bs (Croft.runT stepA bench0 s)))) w') → Calls Tryz.prog 6 #[.string (bs s)] w Post from hgoal _ fun w' h1 => ⟨rfl, h1⟩
  intro Post hpo
  have HP := Lib.hid hpo
  have CS := Lib.hid (splitAfter_is 10 s w (by omega) hL.1)
  obtain ⟨T, hT⟩ : ∃ T, T = textL s := ⟨_, rfl⟩
  obtain ⟨P, hPe⟩ : ∃ P, P = pieces 10 s := ⟨_, rfl⟩
  have hPne : P ≠ [] := by rw [hPe]; exact pieces_ne 10 s
  have HLA := Lib.hid (show (linesA P hPne).map trimL = T by subst hPe; rw [hT]; exact linesA_trim s)
  have HLL := Lib.hid (show ∀ y ∈ linesA P hPne, y.length ≤ s.length + 2 by subst hPe; exact linesA_len s)
  have HR := Lib.hid (show Croft.runT stepA bench0 s = if 65536 < s.length ∨ 200 < T.length then [101, 114, 114, 111, 114, 32, 50, 10] else (doLines stepA bench0 T).1 by rw [hT]; rfl)
  rw [← hPe] at CS
  have hAne : afterL 10 P ≠ [] := fun e => by
    have := congrArg List.length e
    rw [afterL_length] at this
    exact hPne (List.length_eq_zero_iff.1 this)
  obtain ⟨Q, x, hQ⟩ : ∃ Q x, afterL 10 P = Q ++ [x] := ⟨_, _, (List.dropLast_concat_getLast hAne).symm⟩
  have HLI := Lib.hid (show linesA P hPne = if x = [] then Q else Q ++ [x] by
    have h1 : P.getLast hPne = x := by rw [← afterL_last P hPne hAne]; simp [hQ]
    unfold linesA
    rw [h1, hQ, List.dropLast_concat])
  rw [hQ] at CS
  have HPL := Lib.hid (show Q.length ≤ s.length + 1 by
    have h1 := congrArg List.length hQ
    rw [afterL_length, List.length_append, List.length_singleton] at h1
    have h2 := pieces_le 10 s
    rw [← hPe] at h2
    omega)
  obtain ⟨LL, hLL⟩ : ∃ LL, LL = linesA P hPne := ⟨_, rfl⟩
  rw [← hLL] at HLA HLL HLI
  obtain ⟨st, hst⟩ : ∃ st, st = bs s := ⟨_, rfl⟩
  have hsz : st.size = s.length := by rw [hst, bs_size]
  rw [← hst] at CS ⊢
  clear hpo hL hT hst hQ hLL hPe hAne
  go_enter Tryz.func6, Tryz.ntmps6
  go_wp2_with fail
  refine CS.out.mono ?_
  rintro e W1 ⟨v, rfl, ho, hb⟩
  have B1 := Lib.hid hb
  have hi := ho.is
  have KI := Lib.hid hi
  obtain ⟨A1, c1, rfl, hc1, hm1, hl1, hr⟩ := hi
  obtain ⟨b1, o1, x', rfl, hb1, hx, hcx⟩ := strs_at hr (k := Q.length) (by simp)
  have hxx : x' = x := by simpa using hx.symm
  subst hxx
  rw [List.length_append, List.length_singleton] at hc1 hl1
  obtain ⟨n, hn⟩ : ∃ n, n = Q.length := ⟨_, rfl⟩
  have HN := Lib.hid hn
  have HNS := Lib.hid (show n ≤ s.length + 1 by rw [hn]; exact HPL.out)
  rw [show (Q ++ [x']).length = n + 1 by rw [hn]; simp]
  rw [← hn] at hcx hc1 hl1
  clear ho hb hr hx hn
  obtain ⟨sx, hsx⟩ : ∃ sx, sx = bs x' := ⟨_, rfl⟩
  rw [← hsx] at hcx
  try dsimp only
  have hq : (sx.toList == []) = decide (x' = []) := by
    rw [hsx, bs_toList]
    by_cases h : x' = []
    · rw [h]; rfl
    · rw [decide_eq_false h, beq_eq_false_iff_ne]; exact h
  obtain ⟨q, hqe⟩ : ∃ q, q = decide (x' = []) := ⟨_, rfl⟩
  rw [← hqe] at hq
  have HQE := Lib.hid hqe
  clear hqe hsx
  go_upto_if 19 with fail
  go_cut [3] from 20 to 24 (fun v wx => wx = W1 ∧ ∃ M, v = .slice (some ⟨b1, o1, none⟩) M c1 ∧ M = LL.length ∧ M ≤ c1 ∧ IsStrs W1 v LL)
  case first =>
    cases q with
    | true =>
      go_wp2_with fail
      go_meet
      case rel =>
        have hx0 : x' = [] := of_decide_eq_true HQE.out.symm
        have hL : LL = Q := by rw [HLI.out, if_pos hx0]
        refine ⟨rfl, n, rfl, by rw [hL, HN.out], by omega, ?_⟩
        rw [hL]
        have h := KI.out.first n (by rw [List.length_append, HN.out]; simp)
        rw [HN.out, List.take_left] at h
        rw [HN.out]
        exact h
    | false =>
      go_wp2_with fail
      go_meet
      case rel =>
        have hx0 : x' ≠ [] := of_decide_eq_false HQE.out.symm
        have hL : LL = Q ++ [x'] := by rw [HLI.out, if_neg hx0]
        refine ⟨rfl, n + 1, rfl, by rw [hL, HN.out]; simp, by omega, ?_⟩
        rw [hL]
        have h := KI.out
        rw [show (Q ++ [x']).length = n + 1 by rw [HN.out]; simp] at h
        exact h
  case rest =>
    obtain ⟨rfl, M, rfl, hM, hMc, hLI⟩ := hcut
    have KL := Lib.hid hLI
    have HM := Lib.hid hM
    clear KI hM hLI hcx hq HQE
    have HTM := Lib.hid (show T.length = M by rw [← HLA.out, List.length_map, HM.out])
    by_cases hbig1 : 65536 < s.length
    · have hI : (st.size : Int) > 65536 := by omega
      have hd1 : decide ((st.size : Int) > 65536) = true := decide_eq_true hI
      have HRE := Lib.hid (show Croft.runT stepA bench0 s = [101, 114, 114, 111, 114, 32, 50, 10] by rw [HR.out, if_pos (.inl hbig1)])
      rw [HRE.out] at HP
      clear hbig1 hsz
      go_wp2_with fail
      exact HP.out _ B1.out
    · have hI : ¬ (st.size : Int) > 65536 := by omega
      have hd1 : decide ((st.size : Int) > 65536) = false := decide_eq_false hI
      by_cases hbig2 : 200 < M
      · have hI2 : (M : Int) > 200 := by omega
        have hd2 : decide ((M : Int) > 200) = true := decide_eq_true hI2
        have HRE := Lib.hid (show Croft.runT stepA bench0 s = [101, 114, 114, 111, 114, 32, 50, 10] by rw [HR.out, if_pos (.inr (by rw [HTM.out]; exact hbig2))])
        rw [HRE.out] at HP
        clear hbig1 hsz
        go_wp2_with fail
        exact HP.out _ B1.out
      · have hI2 : ¬ (M : Int) > 200 := by omega
        have hd2 : decide ((M : Int) > 200) = false := decide_eq_false hI2
        have HS6 := Lib.hid (show s.length ≤ 65536 by omega)
        have hM200 : M ≤ 200 := by omega
        have HRE := Lib.hid (show Croft.runT stepA bench0 s = (doLines stepA bench0 T).1 by rw [HR.out, if_neg (by rw [HTM.out]; omega)])
        rw [HRE.out] at HP
        obtain ⟨w2, hw2⟩ : ∃ w2, w2 = (wc.alloc (.cells #[.string ⟨#[]⟩, .pointer none] 32)).alloc (.cells #[.pointer none, .slice none 0 0] 36) := ⟨_, rfl⟩
        have hz1 : (wc.alloc (.cells #[.string ⟨#[]⟩, .pointer none] 32)).heap.size = wc.heap.size + 1 := by rw [size_alloc]
        have BLD := Lib.hid (show BldF w2 (wc.heap.size + 1) [] by rw [hw2, ← hz1]; exact BldF.new _)
        have HDK := Lib.hid (show DeskIs w2 (wc.heap.size + 2) wc.heap.size bench0 from ⟨.pointer none, by rw [hw2]; exact (Box.new wc 32 [.string ⟨#[]⟩, .pointer none]).alloc _, rfl⟩)
        have BW2 := Lib.hid (show Below wc.heap.size wc w2 by rw [hw2]; exact ((Below.refl wc.heap.size wc).alloc (Nat.le_refl _) _).alloc (by rw [hz1]; omega) _)
        have hsz2 : wc.heap.size + 2 ≤ w2.heap.size := by rw [hw2, size_alloc, hz1]; omega
        have HW2 := Lib.hid hw2
        have LYB := Lib.hid (show LayB wc.heap.size w2 from ⟨w, HL.out, B1.out.trans (BW2.out.mono B1.out.size), B1.out.size⟩)
        clear hw2 hz1 hbig1 hbig2 hsz
        go_wp2_with fail
        rw [← HW2.out]
        obtain ⟨B, hB⟩ : ∃ B, B = wc.heap.size := ⟨_, rfl⟩
        have HB := Lib.hid hB
        rw [← hB] at BLD HDK LYB hsz2 ⊢
        clear hB
        go_loopw [37] (fun i wr => ∃ k : Nat, k ≤ M ∧ i = .int .i64 k ∧ BldF wr (B + 1) (doLines stepA bench0 (T.take k)).1 ∧ DeskIs wr (B + 2) B (doLines stepA bench0 (T.take k)).2 ∧ (doLines stepA bench0 (T.take k)).2.Ok k ∧ (doLines stepA bench0 (T.take k)).1.length ≤ 2200001 * k ∧ Below B w2 wr ∧ LayB B wr) (fun i _ => M - (intOf i).toNat)
        case atStart =>
          exact ⟨0, Nat.zero_le _, rfl, BLD.out, HDK.out, ⟨by simp [doLines, bench0], fun k hk => by cases hk⟩, by simp [doLines], Below.refl _ _, LYB.out⟩
        case round =>
          obtain ⟨k, hk, rfl, hbl, hdk, hok, hlen, hbel, hly⟩ := hrel
          have BL := Lib.hid hbl
          have DK := Lib.hid hdk
          have OK := Lib.hid hok
          have BEL := Lib.hid hbel
          have LY := Lib.hid hly
          have LEN := Lib.hid hlen
          have hszr : B + 2 ≤ wr.heap.size := Nat.le_trans hsz2 hbel.size
          have KLr := Lib.hid (KL.out.below (BW2.out.trans (by have h := BEL.out; rw [HB.out] at h; exact h)))
          obtain ⟨R, hR⟩ : ∃ R, R = doLines stepA bench0 (T.take k) := ⟨_, rfl⟩
          have HRR := Lib.hid hR.symm
          rw [← hR] at BL DK OK LEN
          clear hbl hdk hok hlen hbel hly BLD HDK LYB hR
          obtain ⟨wo, hwo⟩ : ∃ wo, wo = wr := ⟨_, rfl⟩
          subst hwo
          by_cases hlt : k < M
          · obtain ⟨A, c, hA, _, _, _, hr⟩ := KLr.out
            injection hA with hA1 hA2 hA3
            subst hA1 hA3
            obtain ⟨b2, o2, y, hbb, hb2, hy, hcy⟩ := strs_at hr (k := k) (by rw [← HM.out]; exact hlt)
            injection hbb with hbb
            injection hbb with hbb1 hbb2 _
            subst hbb1 hbb2
            obtain ⟨l, hl⟩ : ∃ l, l = trimL y := ⟨_, rfl⟩
            have HTK := Lib.hid (show T[k]? = some l by rw [← HLA.out, List.getElem?_map, hy, hl]; rfl)
            have hyl := HLL.out y (List.mem_of_getElem? hy)
            have hll : l.length ≤ 70000 := by
              have : (trimL y).length ≤ y.length := by unfold trimL Go.Lib.trimSuffix; split <;> simp
              rw [hl]; have := HS6.out; omega
            have CT := Lib.hid (trim_any y wo (by have := HS6.out; omega))
            rw [← hl] at CT
            have CSP := Lib.hid (split_is 32 l wo (by omega) LY.out.lay.1)
            obtain ⟨sy, hsy⟩ : ∃ sy, sy = bs y := ⟨_, rfl⟩
            rw [← hsy] at CT hcy
            obtain ⟨P2, hP2e⟩ : ∃ P2, P2 = pieces 32 l := ⟨_, rfl⟩
            rw [← hP2e] at CSP
            have HW := Lib.hid (show wordsL l = P2.filter fun x => decide (x ≠ []) by rw [hP2e]; rfl)
            have HPN := Lib.hid (show P2.length ≤ l.length + 1 by rw [hP2e]; exact pieces_le _ _)
            have HTOT := Lib.hid (tot_words l)
            have hP2 : P2.length ≤ 70001 := by have := HPN.out; omega
            obtain ⟨N5, hN5⟩ : ∃ N5, N5 = (wordsL l).length := ⟨_, rfl⟩
            have HN5 := Lib.hid hN5
            clear hr hb2 hy hyl hl hsy hP2e hA2 hN5
            go_wp2_with fail
            refine CT.out.mono ?_
            rintro e w' ⟨rfl, rfl⟩
            try dsimp only
            go_wp2_with fail
            refine CSP.out.mono ?_
            rintro e Ws ⟨v, rfl, ho, hb⟩
            have KP := Lib.hid ho.is
            have B3 := Lib.hid hb
            obtain ⟨A4, c4, rfl, hc4, _⟩ := own_form ho.1
            clear ho hb
            try dsimp only
            go_upto_block 2 with fail
            go_cut [8, 45] from 46 to 55 (fun v x wx => ∃ A5 c5 xi, v = .slice A5 N5 c5 ∧ x = .int .i64 xi ∧ N5 ≤ c5 ∧ IsStrs wx v (wordsL l) ∧ Below wo.heap.size wo wx)
            case first =>
              as_aux_lemma =>
                go_wp2_with fail
                go_loopw [8, 45] (fun v i wr => ∃ j : Nat, j ≤ P2.length ∧ i = .int .i64 j ∧ OwnStrs wr Ws.heap.size v ((P2.take j).filter fun x => decide (x ≠ [])) ∧ Below Ws.heap.size Ws wr) (fun _ i _ => P2.length - (intOf i).toNat)
                case atStart => exact ⟨0, Nat.zero_le _, rfl, OwnStrs.nil _ _, Below.refl _ _⟩
                case round =>
                  obtain ⟨j, hj, rfl, hown, hbel⟩ := hrel
                  have KW := Lib.hid hown
                  have BI := Lib.hid hbel
                  have hsi := hbel.size
                  clear hown hbel
                  by_cases hlj : j < P2.length
                  · obtain ⟨A, c, hA, hcm, _, hl8, hr⟩ := KP.out.below BI.out
                    injection hA with hA1 hA2 hA3
                    subst hA1 hA3
                    obtain ⟨b5, o5, x, rfl, hb5, hx, hcx⟩ := strs_at hr hlj
                    have HFL := Lib.hid (show (List.filter (fun x => decide (x ≠ [])) (List.take j P2)).length ≤ 70001 by
                      have h1 := List.length_filter_le (fun x => decide (x ≠ [])) (List.take j P2)
                      rw [List.length_take] at h1
                      have := HPN.out
                      omega)
                    have HTJ := Lib.hid (show P2.take (j + 1) = P2.take j ++ [x] by rw [List.take_add_one, hx]; rfl)
                    obtain ⟨Qj, hQj⟩ : ∃ Qj, Qj = (P2.take j).filter fun x => decide (x ≠ []) := ⟨_, rfl⟩
                    have HQ := Lib.hid hQj
                    rw [← hQj] at KW HFL
                    obtain ⟨sw, hsw⟩ : ∃ sw, sw = bs x := ⟨_, rfl⟩
                    have HSX := Lib.hid hsw
                    rw [← hsw] at hcx
                    clear hr hb5 hx hA2 hcm hl8 hQj
                    by_cases hxe : x = []
                    · have hq : (sw.toList == []) = true := by rw [hsw, bs_toList, hxe]; rfl
                      have HNX := Lib.hid (show (P2.take (j + 1)).filter (fun x => decide (x ≠ [])) = Qj by rw [HQ.out, HTJ.out, List.filter_append, hxe]; simp)
                      clear hxe hsw
                      go_wp2_with fail
                      exact ⟨⟨j + 1, by omega, by go_num, by rw [HNX.out]; exact KW.out, BI.out⟩, by simp [intOf] <;> omega⟩
                    · have hq : (sw.toList == []) = false := by rw [hsw, bs_toList, beq_eq_false_iff_ne]; exact hxe
                      have HNX := Lib.hid (show (P2.take (j + 1)).filter (fun x => decide (x ≠ [])) = Qj ++ [x] by rw [HQ.out, HTJ.out, List.filter_append]; simp [hxe])
                      clear hxe hsw
                      go_wp2_with (at_builtin; go_loud (refine wpList_push_str rfl _ _ rfl Ws.heap.size _ _ x wr.heap.size 1 rfl (KW.out.alloc _) rfl (by rw [← HSX.out]; exact new_cell _ _ _) (by have := HFL.out; omega) (by rw [size_alloc]; omega) ?_))
                      intro v' w5 hown' hbel'
                      have K5 := Lib.hid hown'
                      have B5 := Lib.hid ((BI.out.alloc hsi (.cells #[.string sw] 9)).trans hbel')
                      clear hown' hbel'
                      go_wp2_with fail
                      exact ⟨⟨j + 1, by omega, by go_num, by rw [HNX.out]; exact K5.out, B5.out⟩, by simp [intOf] <;> omega⟩
                  · obtain rfl : j = P2.length := by omega
                    rw [show P2.take P2.length = P2 from List.take_length, ← HW.out] at KW
                    obtain ⟨A5, c5, hv5, hc5, hcm5⟩ := own_form KW.out.1
                    have K9 := Lib.hid KW.out.is
                    rw [← HN5.out] at hv5 hc5
                    have HV5 := Lib.hid hv5
                    go_wp2_with fail
                    go_meet
                    case rel => exact ⟨A5, c5, _, HV5.out, rfl, hc5, K9.out, B3.out.trans (BI.out.mono B3.out.size)⟩
            case rest =>
              obtain ⟨A5, c5, xi, rfl, rfl, hc5, hks5, hb5⟩ := hcut
              have K5 := Lib.hid hks5
              have BI := Lib.hid hb5
              clear hks5 hb5 KP CT CSP B3
              have hoB : B ≤ wo.heap.size := by omega
              have LAYI := Lib.hid (LY.out.low (BI.out.mono hoB))
              have DKI := Lib.hid (DK.out.below BI.out)
              have hszi : B + 2 ≤ wc.heap.size := Nat.le_trans hszr BI.out.size
              have BLI := Lib.hid (BL.out.left (base := B + 2) (db := B) (.of_below BI.out) (by omega) (by omega) DK.out.type)
              have BELI := Lib.hid (BEL.out.trans (BI.out.mono hoB))
              have hk1 : k ≤ 999 := by omega
              have HNXT := Lib.hid (show doLines stepA bench0 (T.take (k + 1)) = (R.1 ++ (doLines stepA R.2 [l]).1, (doLines stepA R.2 [l]).2) by rw [lines_take HTK.out, HRR.out])
              have HOKN := Lib.hid (line_ok OK.out l)
              cases hw : wordsL l with
              | nil =>
                have h0 : N5 = 0 := by rw [HN5.out, hw]; rfl
                have hd0 : decide ((N5 : Int) > 0) = false := by rw [decide_eq_false_iff_not]; omega
                have hd1n : decide (0 < N5) = false := by rw [decide_eq_false_iff_not]; omega
                have hl0 : doLines stepA R.2 [l] = ([], R.2) := line_not (by rw [hw]; rfl)
                have HX := Lib.hid (show doLines stepA bench0 (T.take (k + 1)) = R by rw [HNXT.out, hl0, List.append_nil])
                rw [hl0] at HOKN
                clear h0 hw hl0
                go_wp2_with fail
                exact ⟨⟨k + 1, by omega, by go_num, by rw [HX.out]; exact BLI.out, by rw [HX.out]; exact DKI.out, by rw [HX.out]; exact HOKN.out, by rw [HX.out]; have := LEN.out; omega, BELI.out, LAYI.out⟩, by simp [intOf] <;> omega⟩
              | cons x0 ws =>
                have hN1 : 1 ≤ N5 := by rw [HN5.out, hw]; simp
                have hN0 : 0 < N5 := by omega
                have hNI : (0 : Int) < (N5 : Int) := by omega
                have hd0 : decide ((N5 : Int) > 0) = true := decide_eq_true hNI
                have hd1n : decide (0 < N5) = true := decide_eq_true hN0
                have hks := K5.out
                rw [hw] at hks
                have HW2 := Lib.hid hw
                obtain ⟨A, c, hA, _, _, _, hr⟩ := hks
                obtain ⟨b6, o6, x, rfl, hb6, hx, hcx⟩ := strs_at hr (k := 0) (by simp)
                injection hA with hA1 hA2 hA3
                subst hA1 hA3
                have hxx : x0 = x := by simpa using hx
                subst hxx
                rw [Nat.add_zero] at hcx
                clear hA2
                have hx0 : x0 ≠ [] := wordsL_ne (l := l) (by rw [hw]; simp)
                obtain ⟨c0, r0, hc0⟩ : ∃ c0 r0, x0 = c0 :: r0 := by
                  cases x0 with
                  | nil => exact absurd rfl hx0
                  | cons c0 r0 => exact ⟨c0, r0, rfl⟩
                obtain ⟨sv, hsv⟩ : ∃ sv, sv = bs x0 := ⟨_, rfl⟩
                have hsz0 : (0 : Int) < (sv.size : Int) := by rw [hsv, bs_size, hc0]; simp
                have hix : ∀ W, (Instr.index 9 (.string sv) (.int .i64 0)).run Tryz.prog W = .ok (.int .u8 (c0.toNat : Int)) W := fun W => by
                  rw [run_index_string W _ _ _ _ Tryz.underlying9, dif_pos ⟨by omega, hsz0⟩]
                  subst hsv
                  subst hc0
                  rfl
                by_cases hc35 : c0 = 35
                · have hb35 : ((c0.toNat : Int) != 35) = false := by rw [hc35]; rfl
                  have hl0 : doLines stepA R.2 [l] = ([], R.2) := line_not (by rw [hw, hc0, hc35]; rfl)
                  have HX := Lib.hid (show doLines stepA bench0 (T.take (k + 1)) = R by rw [HNXT.out, hl0, List.append_nil])
                  rw [hl0] at HOKN
                  rw [← hsv] at hcx
                  clear hw hl0 hc35 hsv hc0 hx hx0 hr
                  go_wp2_with fail
                  exact ⟨⟨k + 1, by omega, by go_num, by rw [HX.out]; exact BLI.out, by rw [HX.out]; exact DKI.out, by rw [HX.out]; exact HOKN.out, by rw [HX.out]; have := LEN.out; omega, BELI.out, LAYI.out⟩, by simp [intOf] <;> omega⟩
                · have hb35 : ((c0.toNat : Int) != 35) = true := by
                    rw [bne_iff_ne]; intro h
                    exact hc35 (UInt8.toNat_inj.1 (by rw [show (35 : UInt8).toNat = 35 from rfl]; omega))
                  have hl0 : doLines stepA R.2 [l] = ((stepA R.2 x0 ws).1 ++ [10], (stepA R.2 x0 ws).2) := line_heard hw (by
                    rw [hw, hc0]
                    simp [heardB, hc35])
                  have HX := Lib.hid (show doLines stepA bench0 (T.take (k + 1)) = (R.1 ++ ((stepA R.2 x0 ws).1 ++ [10]), (stepA R.2 x0 ws).2) by rw [HNXT.out, hl0])
                  rw [hl0] at HOKN
                  have htw := HTOT.out
                  rw [hw] at htw
                  have htc := tot_cons x0 ws
                  have htj := tot_join ws
                  have htl := tot_length ws
                  have hsl := stepA_len OK.out (by omega) x0 ws (by omega)
                  have HSW := Lib.hid (show ∀ x ∈ ws, x.length ≤ 1000000 from fun x hx => by have := tot_mem ws x hx; omega)
                  have hfrom := (show IsStrs wc (.slice (some ⟨b6, o6, none⟩) (x0 :: ws).length c5) (x0 :: ws) by have := K5.out; rw [hw] at this; rw [show (x0 :: ws).length = N5 by rw [HN5.out, hw]]; exact this).from_ 1 (by simp)
                  rw [show (x0 :: ws).length = N5 by rw [HN5.out, hw]] at hfrom
                  have hs1 := sslice_from (some ⟨b6, o6, none⟩) N5 c5 1 1 rfl hN1
                  have hs2 : ∀ W, (Instr.sliceAt 24 (.slice (some ⟨b6, o6, none⟩) N5 c5) (some (.int .i64 1)) none none).run Tryz.prog W = _ := fun W => (run_sliceAt_slice W _ _ _ _ _ Tryz.underlying24).trans (hs1 W)
                  obtain ⟨vt, hvt⟩ : ∃ vt, vt = Value.slice (if c5 = 1 then some ⟨b6, o6, none⟩ else (some (⟨b6, o6, none⟩ : Addr)).map (·.add (1 * 1))) (N5 - 1) (c5 - 1) := ⟨_, rfl⟩
                  rw [← hvt] at hfrom hs1 hs2
                  have KV := Lib.hid (show IsStrs wc vt ws from hfrom)
                  have CD := Lib.hid (fun q => do_any (B + 2) B k R.2 x0 vt ws (wc.drewN q) (DKI.out.below (below_drewN (Below.refl _ _) q)) OK.out (by omega) (by omega) hszi (KV.out.drewN q) HSW.out (by omega) (by omega) (LAYI.out.low (below_drewN (Below.refl _ _) q)))
                  rw [← hsv] at hcx CD
                  obtain ⟨ans, hans⟩ : ∃ ans, ans = (stepA R.2 x0 ws).1 := ⟨_, rfl⟩
                  obtain ⟨st2, hst2⟩ : ∃ st2, st2 = (stepA R.2 x0 ws).2 := ⟨_, rfl⟩
                  rw [← hans, ← hst2] at CD HX HOKN
                  rw [← hans] at hsl
                  obtain ⟨sa, hsa⟩ : ∃ sa, sa = bs ans := ⟨_, rfl⟩
                  have hsas : sa.size ≤ 2200000 := by rw [hsa, bs_size]; exact hsl
                  have t1 : ∀ W, (Op.stringOp .add sa ⟨#[10]⟩).run Tryz.prog W = .ok (.string (sa ++ ⟨#[10]⟩)) W := fun W => run_string_add_sum W sa _ (by have : (⟨#[10]⟩ : ByteArray).size = 1 := rfl; omega)
                  have HSA := Lib.hid (show sa ++ (⟨#[10]⟩ : ByteArray) = bs (ans ++ [10]) by rw [hsa]; exact bs_append ans [10])
                  rw [← hsa] at CD
                  have hlo := LEN.out
                  have HLN := Lib.hid (show (R.1 ++ (ans ++ [10])).length ≤ 2200001 * (k + 1) by simp only [List.length_append, List.length_singleton]; omega)
                  have HWL := Lib.hid (show R.1.length + (ans ++ [10]).length ≤ 140737488355328 by simp only [List.length_append, List.length_singleton]; omega)
                  clear hw hl0 hc35 hsv hc0 hx hx0 hr htw htc htj htl hsl hfrom hvt hans hst2 hsa hlo
                  go_wp2_with fail
                  refine wp_region_quiet_tail 6 (by kernel_rfl) (by kernel_rfl) ?_
                  simp only [List.take_succ_cons, List.take_zero, List.drop_succ_cons, List.drop_zero]
                  repeat (go_big_quiet_step ((fail)))
                  refine wpQuiet_nil ?_
                  intro nq
                  go_wp2_with fail
                  refine (CD.out _).mono ?_
                  rintro e W6 ⟨rfl, hd6, hl6⟩
                  have BL0 := BLI.out.left (base := B + 2) (db := B) (.of_below (below_drewN (Below.refl wc.heap.size wc) nq)) (by omega) (by omega) DKI.out.type
                  have BL6 := Lib.hid (BL0.left hl6 (by omega) (by omega) DKI.out.type)
                  have DK6 := Lib.hid hd6
                  have B6 := Lib.hid (show Below B wc W6 from (below_drewN (Below.refl B wc) nq).trans (hl6.low (by omega) (Nat.le_refl _) (by have := DKI.out.lt; show B ≤ wc.heap.size; omega)))
                  have hs6 := B6.out.size
                  clear hd6 hl6 BL0
                  try dsimp only
                  go_wp2_with fail
                  rw [HSA.out]
                  refine (bld_writeF (B + 1) R.1 (ans ++ [10]) W6 BL6.out HWL.out).mono ?_
                  rintro e W7 ⟨rfl, hb7, hbl7, hot7⟩
                  have BL7 := Lib.hid hb7
                  have DK7 := Lib.hid (DK6.out.others hot7 (by omega) (by omega))
                  have B7 := Lib.hid (B6.out.trans (hbl7.mono (show B ≤ B + 1 by omega)))
                  clear hb7 hbl7 hot7
                  try dsimp only
                  go_wp2_with fail
                  exact ⟨⟨k + 1, by omega, by go_num, by rw [HX.out]; exact BL7.out, by rw [HX.out]; exact DK7.out, by rw [HX.out]; exact HOKN.out, by rw [HX.out]; exact HLN.out, BELI.out.trans B7.out, LAYI.out.low B7.out⟩, by simp [intOf] <;> omega⟩
          · obtain rfl : k = M := by omega
            have HF := Lib.hid (show doLines stepA bench0 T = R by rw [← HRR.out, List.take_of_length_le (by rw [HTM.out]; exact Nat.le_refl _)])
            rw [HF.out] at HP
            have hblt := BL.out.lt
            have CST := Lib.hid (sh_Builder_String_any_f (B + 1) (B + 1) R.1 wo BL.out (Nat.le_of_lt hblt))
            go_wp2_with fail
            refine CST.out.mono ?_
            rintro e W9 ⟨rfl, _, hb⟩
            have B9 := Lib.hid (BEL.out.trans (hb.mono (show B ≤ B + 1 by omega)))
            have B9w := Lib.hid (B1.out.trans (BW2.out.mono B1.out.size))
            have hBw : w.heap.size ≤ B := by rw [HB.out]; exact B1.out.size
            clear hb
            try dsimp only
            go_wp2_with fail
            exact HP.out _ (B9w.out.trans (B9.out.mono hBw))
end Go.Proofs.YtploomncapiloaaGreatDoor
