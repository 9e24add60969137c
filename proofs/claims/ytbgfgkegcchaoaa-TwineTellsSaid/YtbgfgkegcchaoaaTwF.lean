/- Package twine: whether rows may be; whether two fit: what the calls return. -/
import Derived.Test.YtbgfgkegcchaoaaRowsW
import Derived.Test.YtbgfgkegcchaoaaHideF
import Derived.Test.YtbgfgkegcchaoaaBox
import Derived.Test.YtbgfgkegcchaoaaThroughW
import Derived.Deep.CutRange
namespace Go.Proofs.Ytbgfgkegcchaoaa
open Go.RowKit Go.Maps Croft

theorem SetIs.below {w w' : World} {b n : Nat} {l : List Int} (h : SetIs w b n l) (hb : Below w.heap.size w w') : SetIs w' b n l := by
  obtain ⟨D, h1, h2⟩ := h
  exact ⟨D, h1.kept (row := none) ⟨hb.os, hb.tape, hb.output, hb.size, fun k hk _ => hb.block k hk⟩ (by simp), h2⟩
def lenOk (l : List (Int × List Int)) : Bool := l.all fun r => decide (1 ≤ r.2.length ∧ r.2.length ≤ 5)
/-- may rows be? -/
def rowsB (l : List (Int × List Int)) : Bool := partyB (l.map (·.1)) && lenOk l
def formE (l : List (Int × List Int)) : Int := if rowsB l = true then 0 else 5
theorem rowsB_next {l : List (Int × List Int)} {k : Nat} {a : Int} {r : List Int} (h : l[k]? = some (a, r)) :
    rowsB (l.take (k + 1)) = (rowsB (l.take k) && (decide (1 ≤ a ∧ a ≤ 9) && !decide (a ∈ (l.take k).map (·.1)) && decide (1 ≤ r.length ∧ r.length ≤ 5))) := by
  have h1 : (l.map (·.1))[k]? = some a := by rw [List.getElem?_map, h]; rfl
  have h2 := partyB_next h1
  rw [← List.map_take, ← List.map_take] at h2
  unfold rowsB
  rw [h2]
  have h3 : lenOk (l.take (k + 1)) = (lenOk (l.take k) && decide (1 ≤ r.length ∧ r.length ≤ 5)) := by
    unfold lenOk
    rw [List.take_add_one, h, Option.toList_some, List.all_append]
    simp
  rw [h3]
  cases partyB ((l.take k).map (·.1)) <;> cases lenOk (l.take k) <;> simp
theorem rowsB_mono {l : List (Int × List Int)} (k : Nat) (h : rowsB (l.take k) = false) : rowsB l = false := by
  unfold rowsB at *
  cases h1 : partyB (l.map (·.1)) with
  | false => rfl
  | true =>
    cases h2 : lenOk l with
    | false => rfl
    | true =>
      exfalso
      have h3 : partyB ((l.take k).map (·.1)) = true := by
        cases h4 : partyB ((l.take k).map (·.1)) with
        | true => rfl
        | false =>
          rw [List.map_take] at h4
          rw [partyB_mono k h4] at h1
          cases h1
      have h4 : lenOk (l.take k) = true := by
        unfold lenOk at *
        rw [List.all_eq_true] at *
        exact fun x hx => h2 x (List.mem_of_mem_take hx)
      rw [h3, h4] at h
      cases h
theorem formE_bad {l : List (Int × List Int)} (k : Nat) (h : rowsB (l.take k) = false) : formE l = 5 := by
  unfold formE
  rw [rowsB_mono k h]
  rfl
set_option maxRecDepth 100000 in
set_option maxHeartbeats 2000000 in
theorem pForm_any (va : Value) (l : List (Int × List Int)) (w : World) (h1 : IsRows w va l) :
    Calls Try.prog 108 #[va] w fun e w' => e = .returned (.int .i64 (formE l)) ∧ Below w.heap.size w w' := by
  have KA := Lib.hid h1
  obtain ⟨A1, c1, vs1, rfl, hc1, hm1, hl1, hi1, hr1, ha1⟩ := h1
  clear hi1 hr1 hm1 ha1
  have hmm := @run_makeMap Try.prog
  go_enter Try.func108, Try.ntmps108
  go_wp2_with fail
  clear hmm
  go_loopw [9] (fun i wr => ∃ k : Nat, k ≤ l.length ∧ i = .int .i64 k ∧ SetIs wr w.heap.size k ((l.take k).map (·.1)) ∧ rowsB (l.take k) = true ∧ Below w.heap.size w wr) (fun i _ => l.length - (intOf i).toNat)
  case atStart => exact ⟨0, Nat.zero_le _, rfl, SetIs.made _, by simp [rowsB, partyB, lenOk], (Below.refl _ _).alloc (Nat.le_refl _) _⟩
  case round =>
    obtain ⟨k, hk, rfl, hset, hpb, hbel⟩ := hrel
    have HS := Lib.hid hset
    have HPB := Lib.hid hpb
    have BEL := Lib.hid hbel
    have hsz := hbel.size
    clear hset hpb hbel
    by_cases hlt : k < l.length
    · obtain ⟨A, c, vs, hA, _, _, _, hi, hr, ha⟩ := KA.out.below BEL.out
      injection hA with hA1 hA2 hA3
      subst hA1 hA3
      clear hA2
      obtain ⟨b1, o1, z, x, r, rfl, hb1, hvx, hgk, hz64, hxr, hca, hcb⟩ := row_at hr ha hi hlt
      obtain ⟨Ax, cx, rfl, hcx, _, hlx, _, _⟩ := hxr
      have HN := Lib.hid (rowsB_next hgk)
      have HG := Lib.hid hgk
      have BX := Lib.hid (Box.new wr 83 [.int .i64 z, .slice Ax r.length cx])
      have HB2 := Lib.hid ((Below.refl wr.heap.size wr).alloc (Nat.le_refl _) (.cells #[.int .i64 z, .slice Ax r.length cx] 83))
      have B2 := Lib.hid (BEL.out.alloc hsz (.cells #[.int .i64 z, .slice Ax r.length cx] 83))
      have HS2 := Lib.hid (HS.out.below HB2.out)
      have hwr : w.heap.size < wr.heap.size := by
        obtain ⟨D, hown, _⟩ := HS.out
        exact hown.lt
      clear hr ha hi hgk hb1 hvx
      go_upto_region 5 with fail
      obtain ⟨w2, hw2⟩ : ∃ w2, w2 = wr.alloc (.cells #[.int .i64 z, .slice Ax r.length cx] 83) := ⟨_, rfl⟩
      replace BX := Lib.hid (show Box w2 wr.heap.size 83 [.int .i64 z, .slice Ax r.length cx] by rw [hw2]; exact BX.out)
      rw [← hw2] at B2 HS2 ⊢
      obtain ⟨cb, hcb2⟩ : ∃ cb, cb = wr.heap.size := ⟨_, rfl⟩
      rw [← hcb2] at BX ⊢
      have hs2 := B2.out.size
      clear hw2 hcb2 hca hcb HB2 HS
      have g0 := BX.out.cell (i := 0) rfl
      have g1 := BX.out.cell (i := 1) rfl
      have hlook := HS2.out.look hz64
      by_cases hin : 1 ≤ z ∧ z ≤ 9
      · obtain ⟨hz1, hz9⟩ := hin
        have hd1 : decide (z < 1) = false := by simp; omega
        have hd2 : decide (z > 9) = false := by simp; omega
        by_cases hmem : z ∈ (l.take k).map (·.1)
        · have hF := Lib.hid (show formE l = 5 from formE_bad (k + 1) (by rw [HN.out, decide_eq_true hmem]; simp))
          rw [decide_eq_true hmem] at hlook
          clear hmem
          go_wp2_with fail
          go_ret
          exact ⟨by rw [hF.out]; rfl, B2.out⟩
        · rw [decide_eq_false hmem] at hlook
          by_cases hln : 1 ≤ r.length ∧ r.length ≤ 5
          · have HM := Lib.hid (show rowsB (l.take (k + 1)) = true by rw [HN.out, HPB.out, decide_eq_false hmem]; simp [hz1, hz9, hln])
            have HT := Lib.hid (show (l.take (k + 1)).map (·.1) = (l.take k).map (·.1) ++ [z] by rw [List.take_add_one, HG.out]; simp)
            obtain ⟨hln1, hln5⟩ := hln
            obtain ⟨D, hown, hmap, hat⟩ := HS2.out
            have HD := Lib.hid hat
            have HMAP := Lib.hid hmap
            clear hmem hat hmap HS2
            go_wp2_with (at_mapUpdate; refine wpList_mapUpdate_own _ rfl _ _ _ 176 rfl 3 4 ilaw Try.underlying176 _ w.heap.size k D rfl hown (by unfold maxLen; omega) _ _ (.int .i64 z) rfl rfl (keyOf_int_mk Try.underlying3 (WalkArith.wf_i64 (by omega))) (.lit (.bool true)) [] (plainElem_bool Try.underlying4 true) ?_)
            intro w3 hown1 hgrow1
            have HS3 := Lib.hid (SetIs.put hown HMAP.out HD.out hown1)
            have B3 := Lib.hid (B2.out.grown hgrow1 hs2 (fun j hj => by cases hj; exact Nat.le_refl _))
            clear hown hown1 hgrow1 hlook g0 g1
            go_wp2_with fail
            exact ⟨⟨k + 1, by omega, by go_num, by rw [HT.out]; exact HS3.out, HM.out, B3.out⟩, by simp [intOf] <;> omega⟩
          · have hF := Lib.hid (show formE l = 5 from formE_bad (k + 1) (by rw [HN.out, decide_eq_false hln]; simp))
            clear hmem
            by_cases hln1 : (r.length : Int) < 1
            · clear hln
              go_wp2_with fail
              go_ret
              exact ⟨by rw [hF.out]; rfl, B2.out⟩
            · have hln5 : (r.length : Int) > 5 := by omega
              clear hln
              go_wp2_with fail
              go_ret
              exact ⟨by rw [hF.out]; rfl, B2.out⟩
      · have hF := Lib.hid (show formE l = 5 from formE_bad (k + 1) (by rw [HN.out, decide_eq_false hin]; simp))
        by_cases hz1 : z < 1
        · clear hin hlook
          go_wp2_with fail
          go_ret
          exact ⟨by rw [hF.out]; rfl, B2.out⟩
        · have hd1 : decide (z < 1) = false := by simp; omega
          have hz9 : z > 9 := by omega
          clear hin hlook
          go_wp2_with fail
          go_ret
          exact ⟨by rw [hF.out]; rfl, B2.out⟩
    · obtain rfl : k = l.length := by omega
      have hF := Lib.hid (show formE l = 0 from by
        unfold formE
        have := HPB.out
        rw [List.take_length] at this
        rw [if_pos this])
      go_wp2_with fail
      go_ret
      exact ⟨by rw [hF.out]; rfl, BEL.out⟩
def fitB (a b : Int × List Int) : Bool := decide (peval (toFs a.2) (toF b.1) = peval (toFs b.2) (toF a.1))
theorem two_boxes (w : World) (ty : TypeId) (a b : List Value) : Box ((w.alloc (.cells a.toArray ty)).alloc (.cells b.toArray ty)) w.heap.size ty a ∧ Box ((w.alloc (.cells a.toArray ty)).alloc (.cells b.toArray ty)) (w.heap.size + 1) ty b := by
  refine ⟨(Box.new w ty a).alloc _, ?_⟩
  have := Box.new (w.alloc (.cells a.toArray ty)) ty b
  rwa [size_alloc] at this
set_option maxRecDepth 100000 in
theorem pFits_any (a b : Int × List Int) (va vb : Value) (w : World) (ha : U64 a.1) (hb : U64 b.1) (h1 : IsNums w va a.2) (h2 : IsNums w vb b.2) :
    Calls Try.prog 112 #[.agg #[.int .i64 a.1, va], .agg #[.int .i64 b.1, vb]] w fun e w' => e = .returned (.bool (fitB a b)) ∧ Below w.heap.size w w' := by
  obtain ⟨a0, ar⟩ := a
  obtain ⟨b0, br⟩ := b
  dsimp only at ha hb h1 h2 ⊢
  have hwa : IntKind.u64.wrap a0 = a0 := by rw [IntKind.wrap_u64]; exact Int.emod_eq_of_lt ha.1 (by have := ha.2; omega)
  have hwb : IntKind.u64.wrap b0 = b0 := by rw [IntKind.wrap_u64]; exact Int.emod_eq_of_lt hb.1 (by have := hb.2; omega)
  have KA := Lib.hid h1
  have KB := Lib.hid h2
  obtain ⟨A1, c1, rfl, _, _, _, _, _⟩ := h1
  obtain ⟨A2, c2, rfl, _, _, _, _, _⟩ := h2
  have BXX := two_boxes w 83 [.int .i64 a0, .slice A1 ar.length c1] [.int .i64 b0, .slice A2 br.length c2]
  have BB := Lib.hid (((Below.refl w.heap.size w).alloc (Nat.le_refl _) (.cells #[.int .i64 a0, .slice A1 ar.length c1] 83)).alloc (by simp) (.cells #[.int .i64 b0, .slice A2 br.length c2] 83))
  have BX1 := Lib.hid BXX.1
  have BX2 := Lib.hid BXX.2
  clear BXX
  go_enter Try.func112, Try.ntmps112
  go_upto_region 1 with fail
  obtain ⟨w2, hw2⟩ : ∃ w2, w2 = (w.alloc (.cells #[.int .i64 a0, .slice A1 ar.length c1] 83)).alloc (.cells #[.int .i64 b0, .slice A2 br.length c2] 83) := ⟨_, rfl⟩
  replace BX1 := Lib.hid (show Box w2 w.heap.size 83 [.int .i64 a0, .slice A1 ar.length c1] by rw [hw2]; exact BX1.out)
  replace BX2 := Lib.hid (show Box w2 (w.heap.size + 1) 83 [.int .i64 b0, .slice A2 br.length c2] by rw [hw2]; exact BX2.out)
  rw [← hw2] at BB ⊢
  have KA2 := Lib.hid (KA.out.below BB.out)
  have KB2 := Lib.hid (KB.out.below BB.out)
  clear hw2
  have g0 := BX1.out.cell (i := 0) rfl
  have g1 := BX1.out.cell (i := 1) rfl
  have g2 := BX2.out.cell (i := 0) rfl
  have g3 := BX2.out.cell (i := 1) rfl
  go_quiet ((first | exact quietN (pAt_any _ _ _ _ (KA2.out.drewN _) hb.1) | exact quietN (pAt_any _ _ _ _ (KB2.out.drewN _) ha.1)))
  have HF := Lib.hid (show (ofF (peval (toFs ar) (toF b0)) == ofF (peval (toFs br) (toF a0))) = fitB (a0, ar) (b0, br) from by
    unfold fitB
    by_cases he : peval (toFs ar) (toF b0) = peval (toFs br) (toF a0)
    · rw [he]; simp
    · rw [decide_eq_false he, beq_eq_false_iff_ne]
      exact fun h => he (ofF_inj h))
  go_wp2_with fail
  go_ret
  exact ⟨by rw [← HF.out]; rfl, below_drewN BB.out nq⟩
end Go.Proofs.Ytbgfgkegcchaoaa
