/- Package twine: whether rows may be; whether two fit: what the calls return. -/
import Derived.Test.YtegmeepogjijiaaRowsW
import Derived.Test.YtegmeepogjijiaaHideF
import Derived.Test.YtegmeepogjijiaaBox
import Derived.Test.YtegmeepogjijiaaThroughW
import Derived.Deep.CutRange
import Derived.Test.YtegmeepogjijiaaSortR
import Derived.Test.YtegmeepogjijiaaJoin
import Derived.Lib.SliceRun
import Derived.Sort.OwnSortedInts
import Derived.Test.YtegmeepogjijiaaShamK
import Derived.Test.YtegmeepogjijiaaHideW
namespace Go.Proofs.Ytegmeepogjijiaa
open Go.RowKit Go.Maps Croft

theorem SetIs.below {w w' : World} {b n : Nat} {l : List Int} (h : SetIs w b n l) (hb : Below w.heap.size w w') : SetIs w' b n l := by
  obtain ⟨D, h1, h2⟩ := h
  exact ⟨D, h1.kept (row := none) ⟨hb.os, hb.tape, hb.output, hb.size, fun k hk _ => hb.block k hk⟩ (by simp), h2⟩
def lenOk (l : List (Int × List Int)) : Bool := l.all fun r => decide (1 ≤ r.2.length ∧ r.2.length ≤ 5)
/-- may rows be? -/
def rowsB (l : List (Int × List Int)) : Bool := partyB (l.map (·.1)) && lenOk l
def formE (l : List (Int × List Int)) : Int := if rowsB l = true then 0 else 5
theorem rowsB_next {l : List (Int × List Int)} {k : Nat} {a : Int} {r : List Int} (h : l[k]? = some (a, r)) :
    rowsB (l.take (k + 1)) = (rowsB (l.take k) && (decide (1 ≤ a ∧ a ≤ 9) && !decide (a ∈ (l.take k).map (·.1)) && decide (1 ≤ r.length ∧ r.length ≤ 5))) := by
  have h1 : (l.map (·.1))[k]? = some a := by rw [List.getElem?_map, h]; rfl
  have h2 := partyB_next h1
  rw [← List.map_take, ← List.map_take] at h2
  unfold rowsB
  rw [h2]
  have h3 : lenOk (l.take (k + 1)) = (lenOk (l.take k) && decide (1 ≤ r.length ∧ r.length ≤ 5)) := by
    unfold lenOk
    rw [List.take_add_one, h, Option.toList_some, List.all_append]
    simp
  rw [h3]
  cases partyB ((l.take k).map (·.1)) <;> cases lenOk (l.take k) <;> simp
theorem rowsB_mono {l : List (Int × List Int)} (k : Nat) (h : rowsB (l.take k) = false) : rowsB l = false := by
  unfold rowsB at *
  cases h1 : partyB (l.map (·.1)) with
  | false => rfl
  | true =>
    cases h2 : lenOk l with
    | false => rfl
    | true =>
      exfalso
      have h3 : partyB ((l.take k).map (·.1)) = true := by
        cases h4 : partyB ((l.take k).map (·.1)) with
        | true => rfl
        | false =>
          rw [List.map_take] at h4
          rw [partyB_mono k h4] at h1
          cases h1
      have h4 : lenOk (l.take k) = true := by
        unfold lenOk at *
        rw [List.all_eq_true] at *
        exact fun x hx => h2 x (List.mem_of_mem_take hx)
      rw [h3, h4] at h
      cases h
theorem formE_bad {l : List (Int × List Int)} (k : Nat) (h : rowsB (l.take k) = false) : formE l = 5 := by
  unfold formE
  rw [rowsB_mono k h]
  rfl
set_option maxRecDepth 100000 in
set_option maxHeartbeats 2000000 in
theorem pForm_any (va : Value) (l : List (Int × List Int)) (w : World) (h1 : IsRows w va l) :
    Calls Try.prog 102 #[va] w fun e w' => e = .returned (.int .i64 (formE l)) ∧ Below w.heap.size w w' := by
  have KA := Lib.hid h1
  obtain ⟨A1, c1, vs1, rfl, hc1, hm1, hl1, hi1, hr1, ha1⟩ := h1
  clear hi1 hr1 hm1 ha1
  have hmm := @run_makeMap Try.prog
  go_enter Try.func102, Try.ntmps102
  go_wp2_with fail
  clear hmm
  go_loopw [9] (fun i wr => ∃ k : Nat, k ≤ l.length ∧ i = .int .i64 k ∧ SetIs wr w.heap.size k ((l.take k).map (·.1)) ∧ rowsB (l.take k) = true ∧ Below w.heap.size w wr) (fun i _ => l.length - (intOf i).toNat)
  case atStart => exact ⟨0, Nat.zero_le _, rfl, SetIs.made _, by simp [rowsB, partyB, lenOk], (Below.refl _ _).alloc (Nat.le_refl _) _⟩
  case round =>
    obtain ⟨k, hk, rfl, hset, hpb, hbel⟩ := hrel
    have HS := Lib.hid hset
    have HPB := Lib.hid hpb
    have BEL := Lib.hid hbel
    have hsz := hbel.size
    clear hset hpb hbel
    by_cases hlt : k < l.length
    · obtain ⟨A, c, vs, hA, _, _, _, hi, hr, ha⟩ := KA.out.below BEL.out
      injection hA with hA1 hA2 hA3
      subst hA1 hA3
      clear hA2
      obtain ⟨b1, o1, z, x, r, rfl, hb1, hvx, hgk, hz64, hxr, hca, hcb⟩ := row_at hr ha hi hlt
      obtain ⟨Ax, cx, rfl, hcx, _, hlx, _, _⟩ := hxr
      have HN := Lib.hid (rowsB_next hgk)
      have HG := Lib.hid hgk
      have BX := Lib.hid (Box.new wr 106 [.int .i64 z, .slice Ax r.length cx])
      have HB2 := Lib.hid ((Below.refl wr.heap.size wr).alloc (Nat.le_refl _) (.cells #[.int .i64 z, .slice Ax r.length cx] 106))
      have B2 := Lib.hid (BEL.out.alloc hsz (.cells #[.int .i64 z, .slice Ax r.length cx] 106))
      have HS2 := Lib.hid (HS.out.below HB2.out)
      have hwr : w.heap.size < wr.heap.size := by
        obtain ⟨D, hown, _⟩ := HS.out
        exact hown.lt
      clear hr ha hi hgk hb1 hvx
      go_upto_region 5 with fail
      obtain ⟨w2, hw2⟩ : ∃ w2, w2 = wr.alloc (.cells #[.int .i64 z, .slice Ax r.length cx] 106) := ⟨_, rfl⟩
      replace BX := Lib.hid (show Box w2 wr.heap.size 106 [.int .i64 z, .slice Ax r.length cx] by rw [hw2]; exact BX.out)
      rw [← hw2] at B2 HS2 ⊢
      obtain ⟨cb, hcb2⟩ : ∃ cb, cb = wr.heap.size := ⟨_, rfl⟩
      rw [← hcb2] at BX ⊢
      have hs2 := B2.out.size
      clear hw2 hcb2 hca hcb HB2 HS
      have g0 := BX.out.cell (i := 0) rfl
      have g1 := BX.out.cell (i := 1) rfl
      have hlook := HS2.out.look hz64
      by_cases hin : 1 ≤ z ∧ z ≤ 9
      · obtain ⟨hz1, hz9⟩ := hin
        have hd1 : decide (z < 1) = false := by simp; omega
        have hd2 : decide (z > 9) = false := by simp; omega
        by_cases hmem : z ∈ (l.take k).map (·.1)
        · have hF := Lib.hid (show formE l = 5 from formE_bad (k + 1) (by rw [HN.out, decide_eq_true hmem]; simp))
          rw [decide_eq_true hmem] at hlook
          clear hmem
          go_wp2_with fail
          go_ret
          exact ⟨by rw [hF.out]; rfl, B2.out⟩
        · rw [decide_eq_false hmem] at hlook
          by_cases hln : 1 ≤ r.length ∧ r.length ≤ 5
          · have HM := Lib.hid (show rowsB (l.take (k + 1)) = true by rw [HN.out, HPB.out, decide_eq_false hmem]; simp [hz1, hz9, hln])
            have HT := Lib.hid (show (l.take (k + 1)).map (·.1) = (l.take k).map (·.1) ++ [z] by rw [List.take_add_one, HG.out]; simp)
            obtain ⟨hln1, hln5⟩ := hln
            obtain ⟨D, hown, hmap, hat⟩ := HS2.out
            have HD := Lib.hid hat
            have HMAP := Lib.hid hmap
            clear hmem hat hmap HS2
            go_wp2_with (at_mapUpdate; refine wpList_mapUpdate_own _ rfl _ _ _ 169 rfl 3 4 ilaw Try.underlying169 _ w.heap.size k D rfl hown (by unfold maxLen; omega) _ _ (.int .i64 z) rfl rfl (keyOf_int_mk Try.underlying3 (WalkArith.wf_i64 (by omega))) (.lit (.bool true)) [] (plainElem_bool Try.underlying4 true) ?_)
            intro w3 hown1 hgrow1
            have HS3 := Lib.hid (SetIs.put hown HMAP.out HD.out hown1)
            have B3 := Lib.hid (B2.out.grown hgrow1 hs2 (fun j hj => by cases hj; exact Nat.le_refl _))
            clear hown hown1 hgrow1 hlook g0 g1
            go_wp2_with fail
            exact ⟨⟨k + 1, by omega, by go_num, by rw [HT.out]; exact HS3.out, HM.out, B3.out⟩, by simp [intOf] <;> omega⟩
          · have hF := Lib.hid (show formE l = 5 from formE_bad (k + 1) (by rw [HN.out, decide_eq_false hln]; simp))
            clear hmem
            by_cases hln1 : (r.length : Int) < 1
            · clear hln
              go_wp2_with fail
              go_ret
              exact ⟨by rw [hF.out]; rfl, B2.out⟩
            · have hln5 : (r.length : Int) > 5 := by omega
              clear hln
              go_wp2_with fail
              go_ret
              exact ⟨by rw [hF.out]; rfl, B2.out⟩
      · have hF := Lib.hid (show formE l = 5 from formE_bad (k + 1) (by rw [HN.out, decide_eq_false hin]; simp))
        by_cases hz1 : z < 1
        · clear hin hlook
          go_wp2_with fail
          go_ret
          exact ⟨by rw [hF.out]; rfl, B2.out⟩
        · have hd1 : decide (z < 1) = false := by simp; omega
          have hz9 : z > 9 := by omega
          clear hin hlook
          go_wp2_with fail
          go_ret
          exact ⟨by rw [hF.out]; rfl, B2.out⟩
    · obtain rfl : k = l.length := by omega
      have hF := Lib.hid (show formE l = 0 from by
        unfold formE
        have := HPB.out
        rw [List.take_length] at this
        rw [if_pos this])
      go_wp2_with fail
      go_ret
      exact ⟨by rw [hF.out]; rfl, BEL.out⟩
def fitB (a b : Int × List Int) : Bool := decide (peval (toFs a.2) (toF b.1) = peval (toFs b.2) (toF a.1))
theorem two_boxes (w : World) (ty : TypeId) (a b : List Value) : Box ((w.alloc (.cells a.toArray ty)).alloc (.cells b.toArray ty)) w.heap.size ty a ∧ Box ((w.alloc (.cells a.toArray ty)).alloc (.cells b.toArray ty)) (w.heap.size + 1) ty b := by
  refine ⟨(Box.new w ty a).alloc _, ?_⟩
  have := Box.new (w.alloc (.cells a.toArray ty)) ty b
  rwa [size_alloc] at this
set_option maxRecDepth 100000 in
theorem pFits_any (a b : Int × List Int) (va vb : Value) (w : World) (ha : U64 a.1) (hb : U64 b.1) (h1 : IsNums w va a.2) (h2 : IsNums w vb b.2) :
    Calls Try.prog 106 #[.agg #[.int .i64 a.1, va], .agg #[.int .i64 b.1, vb]] w fun e w' => e = .returned (.bool (fitB a b)) ∧ Below w.heap.size w w' := by
  obtain ⟨a0, ar⟩ := a
  obtain ⟨b0, br⟩ := b
  dsimp only at ha hb h1 h2 ⊢
  have hwa : IntKind.u64.wrap a0 = a0 := by rw [IntKind.wrap_u64]; exact Int.emod_eq_of_lt ha.1 (by have := ha.2; omega)
  have hwb : IntKind.u64.wrap b0 = b0 := by rw [IntKind.wrap_u64]; exact Int.emod_eq_of_lt hb.1 (by have := hb.2; omega)
  have KA := Lib.hid h1
  have KB := Lib.hid h2
  obtain ⟨A1, c1, rfl, _, _, _, _, _⟩ := h1
  obtain ⟨A2, c2, rfl, _, _, _, _, _⟩ := h2
  have BXX := two_boxes w 106 [.int .i64 a0, .slice A1 ar.length c1] [.int .i64 b0, .slice A2 br.length c2]
  have BB := Lib.hid (((Below.refl w.heap.size w).alloc (Nat.le_refl _) (.cells #[.int .i64 a0, .slice A1 ar.length c1] 106)).alloc (by simp) (.cells #[.int .i64 b0, .slice A2 br.length c2] 106))
  have BX1 := Lib.hid BXX.1
  have BX2 := Lib.hid BXX.2
  clear BXX
  go_enter Try.func106, Try.ntmps106
  go_upto_region 1 with fail
  obtain ⟨w2, hw2⟩ : ∃ w2, w2 = (w.alloc (.cells #[.int .i64 a0, .slice A1 ar.length c1] 106)).alloc (.cells #[.int .i64 b0, .slice A2 br.length c2] 106) := ⟨_, rfl⟩
  replace BX1 := Lib.hid (show Box w2 w.heap.size 106 [.int .i64 a0, .slice A1 ar.length c1] by rw [hw2]; exact BX1.out)
  replace BX2 := Lib.hid (show Box w2 (w.heap.size + 1) 106 [.int .i64 b0, .slice A2 br.length c2] by rw [hw2]; exact BX2.out)
  rw [← hw2] at BB ⊢
  have KA2 := Lib.hid (KA.out.below BB.out)
  have KB2 := Lib.hid (KB.out.below BB.out)
  clear hw2
  have g0 := BX1.out.cell (i := 0) rfl
  have g1 := BX1.out.cell (i := 1) rfl
  have g2 := BX2.out.cell (i := 0) rfl
  have g3 := BX2.out.cell (i := 1) rfl
  go_quiet ((first | exact quietN (pAt_any _ _ _ _ (KA2.out.drewN _) hb.1) | exact quietN (pAt_any _ _ _ _ (KB2.out.drewN _) ha.1)))
  have HF := Lib.hid (show (ofF (peval (toFs ar) (toF b0)) == ofF (peval (toFs br) (toF a0))) = fitB (a0, ar) (b0, br) from by
    unfold fitB
    by_cases he : peval (toFs ar) (toF b0) = peval (toFs br) (toF a0)
    · rw [he]; simp
    · rw [decide_eq_false he, beq_eq_false_iff_ne]
      exact fun h => he (ofF_inj h))
  go_wp2_with fail
  go_ret
  exact ⟨by rw [← HF.out]; rfl, below_drewN BB.out nq⟩
end Go.Proofs.Ytegmeepogjijiaa
namespace Go.Proofs.Ytegmeepogjijiaa
open Go.RowKit Go.Maps Croft Go.Sort

/-- a row: whose, where its list lies, and the list -/
abbrev R3 := Int × Value × List Int
def rc3 (T : List R3) : List Value := T.flatMap fun p => [Value.int .i64 p.1, p.2.1]
theorem rc3_length (T : List R3) : (rc3 T).length = T.length * 2 := pairs_length _ _ _
theorem rc3_get {T : List R3} {k : Nat} {p : R3} (h : T[k]? = some p) : (rc3 T)[k * 2]? = some (.int .i64 p.1) ∧ (rc3 T)[k * 2 + 1]? = some p.2.1 := pairs_get (fun p : R3 => Value.int .i64 p.1) (fun p => p.2.1) T k p h
theorem rc3_rcs (T : List R3) : rc3 T = rcs (T.map (·.1)) (T.map (·.2.1)) := by
  unfold rc3 rcs
  induction T with
  | nil => rfl
  | cons a T ih => simp only [List.flatMap_cons, List.map_cons, List.zip_cons_cons, ih]
def dat3 (T : List R3) : List (Int × List Int) := T.map fun p => (p.1, p.2.2)
def Rows3 (w : World) (T : List R3) : Prop := ∀ p ∈ T, IsNums w p.2.1 p.2.2
theorem Rows3.below {w w' : World} {T : List R3} (h : Rows3 w T) (hb : Below w.heap.size w w') : Rows3 w' T := fun p hp => (h p hp).below hb
theorem Rows3.perm {w : World} {T T' : List R3} (h : Rows3 w T) (hp : T'.Perm T) : Rows3 w T' := fun p hp' => h p (hp.mem_iff.1 hp')
theorem IsRows.three {w : World} {v : Value} {l : List (Int × List Int)} (h : IsRows w v l) : ∃ A cap T, v = .slice A l.length cap ∧ l.length ≤ cap ∧ cap ≤ maxLen ∧ l.length ≤ 4398046511104 ∧ dat3 T = l ∧ Cells w A (rc3 T) ∧ Rows3 w T := by
  obtain ⟨A, cap, vs, h1, h2, h3, h4, h5, h6, h7⟩ := h
  obtain ⟨T, hT⟩ : ∃ T : List R3, T = (l.zip vs).map fun q => (q.1.1, q.2, q.1.2) := ⟨_, rfl⟩
  have hvl : vs.length = l.length := by rw [h7.1]; simp
  have e1 : T.map (·.1) = l.map (·.1) := by
    rw [hT, List.map_map]
    have : (fun q : (Int × List Int) × Value => q.1.1) = (fun a : Int × List Int => a.1) ∘ Prod.fst := rfl
    show (l.zip vs).map (fun q => q.1.1) = _
    rw [this, ← List.map_map, List.map_fst_zip (by omega)]
  have e2 : T.map (·.2.1) = vs := by
    rw [hT, List.map_map]
    show (l.zip vs).map Prod.snd = _
    rw [List.map_snd_zip (by omega)]
  have e3 : dat3 T = l := by
    unfold dat3
    rw [hT, List.map_map]
    show (l.zip vs).map Prod.fst = _
    rw [List.map_fst_zip (by omega)]
  refine ⟨A, cap, T, h1, h2, h3, h4, e3, by rw [rc3_rcs, e1, e2]; exact h6, fun p hp => ?_⟩
  rw [hT] at hp
  obtain ⟨q, hq, rfl⟩ := List.mem_map.1 hp
  obtain ⟨i, hi, hqi⟩ := List.mem_iff_getElem.1 hq
  have hz : (l.zip vs)[i]? = some q := by rw [List.getElem?_eq_getElem hi, hqi]
  obtain ⟨g1, g2⟩ := List.getElem?_zip_eq_some.1 hz
  exact h7.2 i _ _ g2 (by rw [List.getElem?_map, g1]; rfl)
theorem rc3_one {w : World} {T : List R3} (h : Rows3 w T) : ∀ u ∈ rc3 T, u.oneCell' = true := by
  intro u hu
  unfold rc3 at hu
  obtain ⟨p, hp, hu⟩ := List.mem_flatMap.1 hu
  simp at hu
  rcases hu with rfl | rfl
  · rfl
  · obtain ⟨A, c, hv, _⟩ := h p hp
    rw [hv]; rfl
set_option maxRecDepth 100000 in
theorem rowsClone_at (b o c n : Nat) (T : List R3) (w : World) (hn : T.length = n) (hl : n ≤ 4398046511104) (hr : Cells w (some ⟨b, o, none⟩) (rc3 T)) (h3 : Rows3 w T) :
    Calls Try.prog 103 #[.slice (some ⟨b, o, none⟩) n c] w fun e w' => ∃ v, e = .returned v ∧ w'.ownsRow w.heap.size 106 2 v n (rc3 T) ∧ Below w.heap.size w w' := by
  obtain ⟨i0, hi, hz0, hz1, hz2⟩ := info_parts rinfo
  have hnil : ∀ W, (binOp .eql 83 (.slice (some ⟨b, o, none⟩) n c) (.slice none 0 0)).run Try.prog W = .ok (.bool false) W := fun W => Lib.run_eql_slice_nil W _ _ _ _ _ _ _ Try.underlying83
  have HB := Lib.hid ((Below.refl w.heap.size w).alloc (Nat.le_refl _) (.cells #[] 106))
  have KO := Lib.hid (show (w.alloc (.cells #[] 106)).ownsRow w.heap.size 106 2 (.slice (some ⟨w.heap.size, 0, none⟩) 0 0) 0 [] from
    ⟨rfl, .inr ⟨w.heap.size, 0, #[], rfl, Nat.le_refl _, heap_alloc_new w _, Nat.le_refl _, by simp [maxLen], rfl, rfl⟩⟩)
  have KR := Lib.hid (hr.below HB.out)
  have ONE := Lib.hid (rc3_one h3)
  have HLN := Lib.hid (show (rc3 T).length = n * 2 by rw [rc3_length, hn])
  clear hr h3
  go_enter Try.func103, Try.ntmps103
  go_wp2_with (at_builtin; go_loud (refine wpList_append_own _ rfl _ _ 83 rfl w.heap.size 106 i0 (.agg #[.int .i64 0, .slice none 0 0]) 2 32 Try.underlying83 hi hz0 hz1 hz2 rfl (by decide) _ 0 [] rfl KO.out ⟨b, o, none⟩ n c (rc3 T) rfl HLN.out ?h1 ONE.out ?h2 ?h3 ?h4 ?h5))
  case h1 =>
    intro j u hu
    rcases KR.out with k5 | ⟨b', o', k5, _, hcc⟩
    · rw [k5] at hu; simp at hu
    · injection k5 with k5
      injection k5 with k6 k7
      subst k6 k7
      rw [add_addr, hcc j (List.getElem?_eq_some_iff.1 hu).1, hu]
  case h2 => unfold maxLen; omega
  case h3 => omega
  case h4 => rw [size_alloc]; omega
  intro v' w' ho hg _
  have K := Lib.hid (show w'.ownsRow w.heap.size 106 2 v' n (rc3 T) from by
    first
      | exact ho
      | (have := ho; rwa [Nat.zero_add, List.nil_append] at this))
  have B := Lib.hid (HB.out.grown hg (by rw [size_alloc]; omega) (fun k hk => (KO.out.lt k hk).1))
  clear ho hg
  go_wp2_with fail
  go_ret
  exact ⟨_, rfl, K.out, B.out⟩
/-- what the sort is told of a row -/
abbrev RE := Fin 10 × Option Addr × Nat × Nat
def encR (x : RE) : List Value := [.int .i64 (x.1.val : Int), .slice x.2.1 x.2.2.1 x.2.2.2]
def cmpR (x y : RE) : Int := (x.1.val : Int) - (y.1.val : Int)
theorem ltR (x y : RE) : ltOf cmpR x y = decide (x.1.val < y.1.val) := by
  unfold ltOf cmpR
  by_cases h : x.1.val < y.1.val
  · rw [decide_eq_true h]; exact decide_eq_true (by omega)
  · rw [decide_eq_false h]; exact decide_eq_false (by omega)
theorem swoR : SWO (ltOf cmpR) where
  irrefl x := by rw [ltR]; simp
  trans x y z h1 h2 := by rw [ltR] at *; simp at *; omega
  ntrans x y z h1 h2 := by rw [ltR] at *; simp at *; omega
theorem cmpR_any (x y : RE) (W : World) : Calls Try.prog 105 #[.agg (encR x).toArray, .agg (encR y).toArray] W fun e w' => e = .returned (.int .i64 (cmpR x y)) ∧ ∃ q os', w' = grow (W.drewN q) os' := by
  obtain ⟨⟨a, ha⟩, A1, n1, c1⟩ := x
  obtain ⟨⟨b, hb⟩, A2, n2, c2⟩ := y
  have hd : IntKind.i64.wrap ((a : Int) - (b : Int)) = (a : Int) - (b : Int) := IntWalk.i64_in _ (by omega)
  show Calls Try.prog 105 #[.agg #[.int .i64 a, .slice A1 n1 c1], .agg #[.int .i64 b, .slice A2 n2 c2]] W _
  go_enter Try.func105, Try.ntmps105
  go_wp2_with fail
  go_ret
  exact ⟨rfl, 0, _, by rw [alloc_eq_grow, alloc_eq_grow, grow_grow]; rfl⟩
theorem cmpLaysR (blk off size : Nat) (w : World) : CmpLays Try.prog 105 #[] encR 2 cmpR blk off size w := fun _ _ _ _ x y => cmpR_any x y _
theorem perm_lift {α β : Type} (f : α → β) {l' l2 : List β} (h : l'.Perm l2) : ∀ l : List α, l.map f = l2 → ∃ l'' : List α, l''.Perm l ∧ l''.map f = l' := by
  induction h with
  | nil => intro l hl; exact ⟨[], by rw [List.map_eq_nil_iff.1 hl], rfl⟩
  | cons x h ih =>
    intro l hl
    obtain ⟨a, r, rfl, rfl, hr⟩ := List.map_eq_cons_iff.1 hl
    obtain ⟨r', h1, h2⟩ := ih r hr
    exact ⟨a :: r', h1.cons a, by rw [List.map_cons, h2]⟩
  | swap x y l0 =>
    intro l hl
    obtain ⟨a, r, rfl, rfl, hr⟩ := List.map_eq_cons_iff.1 hl
    obtain ⟨b, r', rfl, rfl, rfl⟩ := List.map_eq_cons_iff.1 hr
    exact ⟨b :: a :: r', List.Perm.swap a b r', rfl⟩
  | trans h1 h2 ih1 ih2 =>
    intro l hl
    obtain ⟨l1, p1, e1⟩ := ih2 l hl
    obtain ⟨l0, p0, e0⟩ := ih1 l1 e1
    exact ⟨l0, p0.trans p1, e0⟩
def vS : Value → Option Addr × Nat × Nat
  | .slice A n c => (A, n, c)
  | _ => (none, 0, 0)
def toE (p : R3) : RE := (Fin.ofNat 10 p.1.toNat, vS p.2.1)
/-- rows that may be sorted -/
def Srt3 (w : World) (T : List R3) : Prop := ∀ p ∈ T, 1 ≤ p.1 ∧ p.1 ≤ 9 ∧ IsNums w p.2.1 p.2.2
theorem toE_at {w : World} {T : List R3} (h : Srt3 w T) {p : R3} (hp : p ∈ T) : ((toE p).1.val : Int) = p.1 := by
  obtain ⟨h1, h2, _⟩ := h p hp
  show ((p.1.toNat % 10 : Nat) : Int) = p.1
  omega
theorem encR_toE {w : World} {T : List R3} (h : Srt3 w T) {p : R3} (hp : p ∈ T) : encR (toE p) = [.int .i64 p.1, p.2.1] := by
  unfold encR
  rw [toE_at h hp]
  obtain ⟨_, _, A, c, hv, _⟩ := h p hp
  show [Value.int .i64 p.1, .slice (vS p.2.1).1 (vS p.2.1).2.1 (vS p.2.1).2.2] = _
  rw [hv]; rfl
theorem flat_enc (d : Array RE) : flatK encR 2 d = (d.toList.flatMap encR).toArray := by
  have hlen : (d.toList.flatMap encR).length = d.size * 2 := by
    have := pairs_length d.toList (fun x : RE => Value.int .i64 (x.1.val : Int)) (fun x => .slice x.2.1 x.2.2.1 x.2.2.2)
    rw [Array.length_toList] at this
    exact this
  refine ext_get! (by rw [size_flatK]; simp [hlen]) fun t ht => ?_
  rw [size_flatK] at ht
  rw [get_flatK _ _ _ _ ht]
  have hk : t / 2 < d.toList.length := by rw [Array.length_toList]; omega
  obtain ⟨g1, g2⟩ := pairs_get (fun x : RE => Value.int .i64 (x.1.val : Int)) (fun x => .slice x.2.1 x.2.2.1 x.2.2.2) d.toList (t / 2) d.toList[t / 2] (List.getElem?_eq_getElem hk)
  have hd : d[t / 2]! = d.toList[t / 2] := by
    rw [getElem!_pos d (t / 2) (by omega)]; simp
  have hb : ∀ v, (d.toList.flatMap encR)[t]? = some v → (d.toList.flatMap encR).toArray[t]! = v := fun v hv => by
    obtain ⟨h1, h2⟩ := List.getElem?_eq_some_iff.1 hv
    rw [getElem!_pos _ t (by simpa using h1)]
    simpa using h2
  rcases Nat.mod_two_eq_zero_or_one t with hm | hm
  · have e : t = t / 2 * 2 := by omega
    rw [hm, hd]
    refine (hb _ ?_).symm
    conv => lhs; rw [e]
    exact g1
  · have e : t = t / 2 * 2 + 1 := by omega
    rw [hm, hd]
    refine (hb _ ?_).symm
    conv => lhs; rw [e]
    exact g2
theorem flat_toE {w : World} {T : List R3} (h : Srt3 w T) : (T.map toE).flatMap encR = rc3 T := by
  unfold rc3
  rw [List.flatMap_map]
  have : ∀ U : List R3, (∀ p ∈ U, p ∈ T) → U.flatMap (fun p => encR (toE p)) = U.flatMap fun p => [Value.int .i64 p.1, p.2.1] := fun U => by
    induction U with
    | nil => intro _; rfl
    | cons a U ih =>
      intro hU
      rw [List.flatMap_cons, List.flatMap_cons, encR_toE h (hU a (by simp)), ih fun p hp => hU p (List.mem_cons_of_mem _ hp)]
  exact this T fun p hp => hp
theorem holds_of_block {w : World} {g : Nat} {cur : Array Value} {e : TypeId} {ss : List Value} (hb : w.heap[g]? = some (.cells cur e (0, 0))) (ht : cur.toList.take ss.length = ss) : Holds id w g 0 ss.toArray := by
  intro j hj
  have hj' : j < ss.length := by simpa using hj
  refine ⟨?_, by simp [World.frozen?, hb]⟩
  have h1 : (cur.toList.take ss.length)[j]? = ss[j]? := by rw [ht]
  rw [List.getElem?_take_of_lt hj'] at h1
  simp only [World.cell?, hb, Nat.zero_add]
  simp only [Option.isSome_none, Bool.false_eq_true, if_false]
  rw [← Array.getElem?_toList, h1]
  simp [hj']
theorem heap_laid {w : World} {g n : Nat} {os : Array Obj} {cur : Array Value} {e : TypeId} {fr : Nat × Nat} (d : Array Value) (hb : w.heap[g]? = some (.cells cur e fr)) :
    (grow (putRow id (Sort.ahead w n) g 0 d) os).heap[g]? = some (.cells (putCells id 0 d cur) e fr) := by
  have hg : g < w.heap.size := (Array.getElem?_eq_some_iff.1 hb).1
  rw [heap_grow_old _ _ (by simpa using hg)]
  simp [putRow, mapBlock, Sort.ahead, Array.getElem?_modify, hb, onCells]
theorem grownBy_laid {w : World} {g n : Nat} {os : Array Obj} (d : Array Value) : w.grownBy (grow (putRow id (Sort.ahead w n) g 0 d) os) (some g) := by
  refine ⟨rfl, rfl, rfl, by simp, fun k hk hne => ?_⟩
  rw [heap_grow_old _ _ (by simpa using hk)]
  have : g ≠ k := fun e => hne (by rw [e])
  simp [putRow, mapBlock, Sort.ahead, Array.getElem?_modify, this]
theorem take_laid (cur : Array Value) (ts : List Value) (h : ts.length ≤ cur.size) : (putCells id 0 ts.toArray cur).toList.take ts.length = ts := by
  apply List.ext_getElem?
  intro j
  by_cases hj : j < ts.length
  · rw [List.getElem?_take_of_lt hj, Array.getElem?_toList]
    simp [putCells, hj, show j < cur.size by omega]
  · rw [List.getElem?_take_eq_none (by omega), List.getElem?_eq_none (by omega)]
set_option maxRecDepth 100000 in
theorem rowsSort_at (base g cap n : Nat) (T : List R3) (w : World) (hn : T.length = n) (h : w.ownsRow base 106 2 (.slice (some ⟨g, 0, none⟩) n cap) n (rc3 T)) (h3 : Srt3 w T) (hl : n ≤ 1000) :
    Calls Try.prog 104 #[.slice (some ⟨g, 0, none⟩) n cap, .func (.func 105) #[] #[]] w fun e w' =>
      e = .returned (.tuple #[]) ∧ ∃ T', T'.Perm T ∧ T'.Pairwise (fun a b => a.1 ≤ b.1) ∧ w'.ownsRow base 106 2 (.slice (some ⟨g, 0, none⟩) n cap) n (rc3 T') ∧ w.grownBy w' (some g) := by
  rcases h.2 with ⟨hv, _⟩ | ⟨g', cap', cur, hv, hb, hg, hnc, hcm, hcs, ht⟩
  · cases hv
  · injection hv with hv1 hv2 hv3
    injection hv1 with hv1
    injection hv1 with hv1
    subst hv1 hv3
    have hgs : g < w.heap.size := (Array.getElem?_eq_some_iff.1 hg).1
    obtain ⟨d, hd⟩ : ∃ d : Array RE, d = (T.map toE).toArray := ⟨_, rfl⟩
    have hds : d.size = n := by rw [hd]; simp [hn]
    have hfl : flatK encR 2 d = (rc3 T).toArray := by rw [flat_enc, hd, ← flat_toE h3]
    have hrl : (rc3 T).length = n * 2 := by rw [rc3_length, hn]
    have eg : ∀ args w, (callFunc 105 args).run Try.prog w = .ok (.enter 105 args) w := enters_of Try.func105 (by kernel_rfl) rfl
    have hH : HoldsK encR 2 w g 0 d := by
      unfold HoldsK
      rw [hfl]
      exact holds_of_block hg (by rw [hrl]; exact ht)
    have hcon := AnyQ.slices_SortFunc laysRows 2 Try.isAgg106 Try.sizeOf106 encR (fun _ => rfl) (fun x v hv => by simp [encR] at hv; rcases hv with rfl | rfl <;> rfl) cmpR swoR 105 #[] g 0 cap d w eg (cmpLaysR g 0 d.size w) hH hgs (by omega)
    rw [hds] at hcon
    refine Calls.mono hcon fun e w' hh => ?_
    obtain ⟨rfl, d', m, os, hp, hs, rfl⟩ := hh
    refine ⟨rfl, ?_⟩
    obtain ⟨hp1, _, hp3⟩ := hp
    have e1 : ∀ x : Array RE, x.size = n → (x.extract 0 n).toList = x.toList := fun x hx => by rw [← hx]; simp
    rw [e1 d' (by rw [hp1, hds]), e1 d hds, hd] at hp3
    obtain ⟨T', hT1, hT2⟩ := perm_lift toE hp3 T rfl
    have hT'l : T'.length = n := by rw [hT1.length_eq, hn]
    have h3' : Srt3 w T' := fun p hp => h3 p (hT1.mem_iff.1 hp)
    have hd' : d' = (T'.map toE).toArray := by rw [hT2]
    have hfl' : flatK encR 2 d' = (rc3 T').toArray := by rw [flat_enc, hd', ← flat_toE h3']
    refine ⟨T', hT1, ?_, ?_, ?_⟩
    · rw [List.pairwise_iff_getElem]
      intro i j hi hj hij
      have h0 := hs i j (Nat.zero_le _) hij (by omega)
      rw [ltR, decide_eq_false_iff_not] at h0
      have hx : ∀ (k : Nat) (hk : k < T'.length), ((d'[k]!).1.val : Int) = T'[k].1 := fun k hk => by
        rw [hd', getElem!_pos _ k (by simpa using hk)]
        simp only [List.getElem_toArray, List.getElem_map]
        exact toE_at h3' (List.getElem_mem hk)
      have a1 := hx i hi
      have a2 := hx j hj
      omega
    · unfold sortWorldK putRowK
      rw [hfl']
      have hrl' : (rc3 T').length = n * 2 := by rw [rc3_length, hT'l]
      exact ⟨by rw [hrl'], .inr ⟨g, cap, _, rfl, hb, heap_laid _ hg, hnc, hcm, by simp [putCells, hcs], by rw [← hrl']; exact take_laid cur (rc3 T') (by rw [hrl', hcs]; omega)⟩⟩
    · unfold sortWorldK putRowK
      exact grownBy_laid _
end Go.Proofs.Ytegmeepogjijiaa
namespace Go.Proofs.Ytegmeepogjijiaa
open Go.RowKit Go.Maps Croft

/-- pairs of whole numbers, in memory -/
def prc (l : List (Int × Int)) : List Value := l.flatMap fun p => [Value.int .i64 p.1, Value.int .i64 p.2]
theorem prc_length (l : List (Int × Int)) : (prc l).length = l.length * 2 := pairs_length _ _ _
theorem prc_snoc (l : List (Int × Int)) (a b : Int) : prc (l ++ [(a, b)]) = prc l ++ [.int .i64 a, .int .i64 b] := by simp [prc]
def OwnPairs (w : World) (base : Nat) (v : Value) (l : List (Int × Int)) : Prop :=
  w.ownsRow base 90 2 v l.length (prc l) ∧ l.length ≤ 8796093022208 ∧ ∀ p ∈ l, I64 p.1 ∧ I64 p.2
theorem OwnPairs.nil (w : World) (base : Nat) : OwnPairs w base (.slice none 0 0) [] := ⟨World.ownsRow_nil _ _ _ _, by simp, by simp⟩
theorem OwnPairs.below {w w' : World} {base : Nat} {v : Value} {l : List (Int × Int)} (h : OwnPairs w base v l) (hb : Below w.heap.size w w') : OwnPairs w' base v l := ⟨own_kept h.1 hb, h.2⟩
theorem OwnPairs.alloc {w : World} {base : Nat} {v : Value} {l : List (Int × Int)} (h : OwnPairs w base v l) (o : Obj) : OwnPairs (w.alloc o) base v l := h.below ((Below.refl _ _).alloc (Nat.le_refl _) o)
theorem OwnPairs.drewN {w : World} {base : Nat} {v : Value} {l : List (Int × Int)} (h : OwnPairs w base v l) (n : Nat) : OwnPairs (w.drewN n) base v l := h.below (below_drewN (Below.refl _ _) n)
theorem OwnPairs.less {w : World} {base base' : Nat} {v : Value} {l : List (Int × Int)} (h : OwnPairs w base v l) (hb : base' ≤ base) : OwnPairs w base' v l := by
  refine ⟨⟨h.1.1, ?_⟩, h.2⟩
  rcases h.1.2 with h1 | ⟨g, cap, cur, hv, hg, r⟩
  · exact .inl h1
  · exact .inr ⟨g, cap, cur, hv, by omega, r⟩
theorem OwnPairs.notBox {w : World} {base b : Nat} {v : Value} {l : List (Int × Int)} {cs : List Value} {t : TypeId} (h : OwnPairs w base v l) (hb : Box w b t cs) (ht : t ≠ 90) : v.ownBlock ≠ some b := fun hv => by
  rcases h.1.2 with ⟨rfl, _⟩ | ⟨g, cap, cur, rfl, _, hg, _⟩
  · simp [Value.ownBlock] at hv
  · have e : g = b := by simpa [Value.ownBlock] using hv
    subst e
    unfold Box at hb
    rw [hb] at hg
    injection hg with hg
    injection hg with _ hg
    exact ht hg
theorem pinfo : (Try.prog.info? 90).map (fun i => (i.zero, i.size, i.bytes)) = some (some (.agg #[.int .i64 0, .int .i64 0]), 2, 16) := by kernel_rfl
theorem wpList_push_pair {ops : Array Oper} {rest : List Oper} {o : Oper} {a : Act} {Q : Exit → Act → World → Prop} {w : World} (hgd : o.guard = none) (s x : Operand)
    (ho : o.op = .call { callee := .builtin .append, args := #[s, x], argTypes := #[84, 84] })
    (base : Nat) (v : Value) (l : List (Int × Int)) (n z : Int) (g c : Nat) (hs : a.eval s = v) (hown : OwnPairs w base v l) (hx : a.eval x = .slice (some ⟨g, 0, none⟩) 1 c)
    (hc : w.cell? ⟨g, 0, none⟩ = some (.int .i64 n)) (hc2 : w.cell? ⟨g, 1, none⟩ = some (.int .i64 z)) (hn : I64 n) (hz : I64 z) (hl : l.length + 1 ≤ 8796093022208) (hb : base ≤ w.heap.size)
    (h : ∀ v' w', OwnPairs w' base v' (l ++ [(n, z)]) → Below base w w' → w.grownBy w' v.ownBlock → wpList Try.prog ops Q rest (a.put o.dst v') w') : wpList Try.prog ops Q (o :: rest) a w := by
  obtain ⟨i0, hi, hz0, hz1, hz2⟩ := info_parts pinfo
  refine wpList_append_own w hgd s x 84 ho base 90 i0 (.agg #[.int .i64 0, .int .i64 0]) 2 16 Try.underlying84 hi hz0 hz1 hz2 rfl (by decide) v l.length (prc l) hs hown.1 ⟨g, 0, none⟩ 1 c [.int .i64 n, .int .i64 z] hx rfl ?_ ?_ ?_ ?_ hb ?_
  · intro j u hu
    match j, hu with
    | 0, hu =>
      simp at hu
      subst hu
      rw [add_addr]; exact hc
    | 1, hu =>
      simp at hu
      subst hu
      rw [add_addr]; exact hc2
  · intro u hu
    simp at hu
    rcases hu with rfl | rfl <;> rfl
  · unfold maxLen; omega
  · omega
  · intro v' w' h1 h2 _
    refine h v' w' ⟨?_, ?_, ?_⟩ ((Below.refl _ _).grown h2 hb (fun k hk => (hown.1.lt k hk).1)) h2
    · have e : (l ++ [(n, z)]).length = l.length + 1 := by simp
      rw [e, prc_snoc]; exact h1
    · simpa using hl
    · intro y hy
      rcases List.mem_append.1 hy with h3 | h3
      · exact hown.2.2 y h3
      · simp at h3; subst h3; exact ⟨hn, hz⟩
/-- the pairs that a row is in, with rows behind it -/
def prRow (a : Int × List Int) (L : List (Int × List Int)) : List (Int × Int) := (L.filter fun b => !fitB a b).map fun b => (a.1, b.1)
def prK (l : List (Int × List Int)) : Nat → List (Int × Int)
  | 0 => []
  | k + 1 => match l[k]? with
    | some a => prK l k ++ prRow a (l.drop (k + 1))
    | none => prK l k
def prL (l : List (Int × List Int)) : List (Int × Int) := prK l l.length
theorem prK_next {l : List (Int × List Int)} {k : Nat} {a : Int × List Int} (h : l[k]? = some a) : prK l (k + 1) = prK l k ++ prRow a (l.drop (k + 1)) := by simp only [prK, h]
theorem prRow_next {a b : Int × List Int} {L : List (Int × List Int)} {m : Nat} (h : L[m]? = some b) : prRow a (L.take (m + 1)) = prRow a (L.take m) ++ (if fitB a b = true then [] else [(a.1, b.1)]) := by
  unfold prRow
  rw [List.take_add_one, h, Option.toList_some, List.filter_append, List.map_append]
  refine congrArg (((L.take m).filter fun b => !fitB a b).map (fun b => (a.1, b.1)) ++ ·) ?_
  cases hf : fitB a b <;> simp [hf]
theorem prRow_length (a : Int × List Int) (L : List (Int × List Int)) : (prRow a L).length ≤ L.length := by
  unfold prRow
  rw [List.length_map]
  exact List.length_filter_le _ _
theorem prK_length (l : List (Int × List Int)) : ∀ k, (prK l k).length ≤ k * l.length
  | 0 => by simp [prK]
  | k + 1 => by
    have ih := prK_length l k
    rw [Nat.succ_mul]
    cases h : l[k]? with
    | none => simp only [prK, h]; omega
    | some a =>
      rw [prK_next h, List.length_append]
      have h1 := prRow_length a (l.drop (k + 1))
      rw [List.length_drop] at h1
      omega
theorem rslice_from (A : Option Addr) (m c lo : Nat) (h1 : lo ≤ m) (W : World) :
    (Instr.sliceAt 83 (.slice A m c) (some (.int .i64 (lo : Int))) none none).run Try.prog W = .ok (.slice (if c = lo then A else A.map (·.add (lo * 2))) (m - lo) (c - lo)) W := by
  have hU : Program.underlying Try.prog 83 = some (.slice (Program.elem Try.prog 83)) := by kernel_rfl
  have hs : ∀ W, (sizeOf (Program.elem Try.prog 83)).run Try.prog W = .ok 2 W := fun W => by kernel_rfl
  rw [run_sliceAt_slice _ _ _ _ _ _ hU, run_slice_l W _ A m c hU .i64 _ (by omega) (by omega), hs]
  simp [Result.andThen, sliced]
theorem rowsB_true {l : List (Int × List Int)} : rowsB l = true ↔ ((∀ r ∈ l, 1 ≤ r.1 ∧ r.1 ≤ 9) ∧ (l.map (·.1)).Nodup) ∧ ∀ r ∈ l, 1 ≤ r.2.length ∧ r.2.length ≤ 5 := by
  unfold rowsB lenOk
  rw [Bool.and_eq_true, partyB_true, List.all_eq_true]
  simp
theorem formE_zero {l : List (Int × List Int)} (h : formE l = 0) : rowsB l = true := by
  unfold formE at h
  split at h
  · assumption
  · omega
theorem rows_few {l : List (Int × List Int)} (h : rowsB l = true) : l.length ≤ 9 := by
  obtain ⟨⟨h1, h2⟩, _⟩ := rowsB_true.1 h
  have hp : partyB (l.map (·.1)) = true := partyB_true.2 ⟨fun z hz => by obtain ⟨r, hr, rfl⟩ := List.mem_map.1 hz; exact h1 r hr, h2⟩
  have := party_len hp
  rwa [List.length_map] at this
theorem pPairs_bad (va : Value) (l : List (Int × List Int)) (w : World) (h1 : IsRows w va l) (h : formE l ≠ 0) :
    Calls Try.prog 49 #[va] w fun e w' => e = .returned (.tuple #[.slice none 0 0, .int .i64 (formE l)]) ∧ Below w.heap.size w w' := by
  have KA := Lib.hid h1
  have hb : (formE l != 0) = true := by rw [bne_iff_ne]; exact h
  clear h h1
  go_enter Try.func49, Try.ntmps49
  go_wp2_with fail
  refine (pForm_any va l w KA.out).mono ?_
  rintro e w' ⟨rfl, hb'⟩
  have HB := Lib.hid hb'
  clear hb'
  try dsimp only
  go_wp2_with fail
  go_ret2
  exact ⟨rfl, HB.out⟩
set_option maxRecDepth 100000 in
set_option maxHeartbeats 4000000 in
theorem pPairs_ok (va : Value) (l : List (Int × List Int)) (w : World) (h1 : IsRows w va l) (h : formE l = 0) (hp : 0 < l.length) :
    Calls Try.prog 49 #[va] w fun e w' => ∃ l' vp, l'.Perm l ∧ l'.Pairwise (fun a b => a.1 < b.1) ∧ e = .returned (.tuple #[vp, .int .i64 0]) ∧ OwnPairs w' w.heap.size vp (prL l') ∧ Below w.heap.size w w' := by
  have KA := Lib.hid h1
  have HE := Lib.hid h
  have hrb := formE_zero h
  have hl9 := rows_few hrb
  obtain ⟨⟨hat, hnd⟩, hln⟩ := rowsB_true.1 hrb
  obtain ⟨A, c, T, rfl, hc, hm, hl, hT, hr, hr3⟩ := h1.three
  have hTl : T.length = l.length := by rw [← hT]; simp [dat3]
  obtain ⟨b, o, rfl, _, _⟩ := hr.at_ (j := 0) (by rw [rc3_length]; omega)
  have HR := Lib.hid hr
  have HR3 := Lib.hid hr3
  have HT := Lib.hid hT
  have HTL := Lib.hid hTl
  have HAT := Lib.hid hat
  have HND := Lib.hid hnd
  suffices hgoal : ∀ Post : Ending → World → Prop, (∀ e w', (∃ l' vp, l'.Perm l ∧ l'.Pairwise (fun a b => a.1 < b.1) ∧ e = .returned (.tuple #[vp, .int .i64 0]) ∧ OwnPairs w' w.heap.size vp (prL l') ∧ Below w.heap.size w w') → Post e w') → Calls Try.prog 49 #[.slice (some ⟨b, o, none⟩) l.length c] w Post from hgoal _ fun e w' h => h
  intro Post hpo
  have HP := Lib.hid hpo
  clear hpo h1 h hr hr3 hT hTl hat hnd hln hrb hm
  obtain ⟨N, hN⟩ : ∃ N, N = l.length := ⟨_, rfl⟩
  rw [← hN] at hp hl9 hc hl ⊢
  have HN := Lib.hid hN
  clear hN
  go_enter Try.func49, Try.ntmps49
  go_wp2_with fail
  refine (pForm_any _ l w (by rw [HN.out]; exact KA.out)).mono ?_
  rintro e W1 ⟨rfl, hb1⟩
  rw [HE.out]
  have B1 := Lib.hid hb1
  have R31 := Lib.hid (HR3.out.below hb1)
  have C1 := Lib.hid (HR.out.below hb1)
  clear hb1
  try dsimp only
  go_wp2_with fail
  refine (rowsClone_at b o c N T _ (by rw [HTL.out, HN.out]) hl C1.out R31.out).mono ?_
  rintro e W2 ⟨v2, rfl, ho2, hb2⟩
  obtain ⟨g, cg, hv2, hg, hg2⟩ := own_slice ho2 (by omega)
  subst hv2
  have B2 := Lib.hid (below_trans B1.out hb2 B1.out.size)
  have O2 := Lib.hid ho2
  have S2 := Lib.hid (show Srt3 W2 T from fun p hp => by
    have hd : (p.1, p.2.2) ∈ l := by rw [← HT.out]; exact List.mem_map.2 ⟨p, hp, rfl⟩
    obtain ⟨h1, h2⟩ := HAT.out _ hd
    exact ⟨h1, h2, (R31.out.below hb2) p hp⟩)
  have hs1 := B1.out.size
  clear ho2 hb2
  try dsimp only
  go_wp2_with fail
  refine (rowsSort_at W1.heap.size g cg N T W2 (by rw [HTL.out, HN.out]) O2.out S2.out (by omega)).mono ?_
  rintro e W3 ⟨rfl, T', hperm, hsort, ho3, hg3⟩
  have B3 := Lib.hid (B2.out.grown hg3 B2.out.size (fun k hk => by injection hk with hk; omega))
  have R33 := Lib.hid (show Rows3 W3 T' from (HR3.out.below B3.out).perm hperm)
  have O3 := Lib.hid ho3
  have hT'l : T'.length = N := by rw [hperm.length_eq, HTL.out, HN.out]
  have HT'L := Lib.hid hT'l
  obtain ⟨l', hl'⟩ : ∃ l', l' = dat3 T' := ⟨_, rfl⟩
  have HPM := Lib.hid (show l'.Perm l by rw [hl', ← HT.out]; exact hperm.map _)
  have hll : l'.length = N := by rw [HPM.out.length_eq, HN.out]
  have HLL := Lib.hid hll
  have HSO := Lib.hid (show l'.Pairwise (fun a b => a.1 < b.1) by
    have hnd : (l'.map (·.1)).Nodup := (HPM.out.map (·.1)).nodup_iff.2 HND.out
    have h1 : l'.Pairwise (fun a b => a.1 ≤ b.1) := by rw [hl']; unfold dat3; rw [List.pairwise_map]; exact hsort
    have h2 : l'.Pairwise (fun a b => a.1 ≠ b.1) := by rw [List.nodup_iff_pairwise_ne, List.pairwise_map] at hnd; exact hnd
    exact (h1.and h2).imp (fun h => by omega))
  have HL' := Lib.hid hl'
  have HAT' := Lib.hid (show ∀ r ∈ l', 1 ≤ r.1 ∧ r.1 ≤ 9 from fun r hr => HAT.out r (HPM.out.mem_iff.1 hr))
  have hs3 := B3.out.size
  have hg3s : g < W3.heap.size := Nat.lt_of_lt_of_le hg2 hg3.size
  have hsl := fun lo (hlo : lo ≤ N) => rslice_from (some ⟨g, 0, none⟩) N cg lo hlo
  have hNc : N ≤ cg := by
    rcases ho3.2 with ⟨hv, _⟩ | ⟨g', cap', cur, hv, _, _, hnc, _⟩
    · cases hv
    · injection hv with _ _ hv3; omega
  clear hperm hsort ho3 hg3 hT'l hll hl' O2 S2 R31 C1
  have CELL := Lib.hid (show ∀ (k : Nat) (p : R3), T'[k]? = some p → W3.cell? ⟨g, k * 2, none⟩ = some (.int .i64 p.1) ∧ W3.cell? ⟨g, k * 2 + 1, none⟩ = some p.2.1 from fun k p hk => by
    have hk1 := (List.getElem?_eq_some_iff.1 hk).1
    obtain ⟨g1, g2⟩ := rc3_get hk
    have hl2 := HT'L.out
    exact ⟨by rw [O3.out.cellAt (k * 2) (by omega), g1], by rw [O3.out.cellAt (k * 2 + 1) (by omega), g2]⟩)
  try dsimp only
  go_wp2_with fail
  go_loopw [5, 21] (fun v i wr => ∃ k : Nat, k ≤ N ∧ i = .int .i64 k ∧ OwnPairs wr W3.heap.size v (prK l' k) ∧ Below W3.heap.size W3 wr) (fun _ i _ => N - (intOf i).toNat)
  case atStart => exact ⟨0, Nat.zero_le _, rfl, OwnPairs.nil _ _, Below.refl _ _⟩
  case round =>
    obtain ⟨k, hk, rfl, hown, hbel⟩ := hrel
    have KO := Lib.hid hown
    have BEL := Lib.hid hbel
    have hsz := hbel.size
    clear hown hbel
    by_cases hlk : k < N
    · obtain ⟨p, hpk⟩ : ∃ p, T'[k]? = some p := ⟨_, List.getElem?_eq_getElem (by rw [HT'L.out]; exact hlk)⟩
      obtain ⟨ca, cb⟩ := CELL.out k p hpk
      replace ca := (BEL.out.cell (p := ⟨g, k * 2, none⟩) hg3s).trans ca
      replace cb := (BEL.out.cell (p := ⟨g, k * 2 + 1, none⟩) hg3s).trans cb
      have hnums := R33.out p (List.mem_of_getElem? hpk)
      have HNP := Lib.hid (hnums.below BEL.out)
      obtain ⟨Ax, cx, hvx, _, _, _, _, _⟩ := hnums
      have hpl : l'[k]? = some (p.1, p.2.2) := by rw [HL'.out]; unfold dat3; rw [List.getElem?_map, hpk]; rfl
      have HPL := Lib.hid hpl
      have HMEM0 := List.mem_of_getElem? hpk
      have hpr := HAT'.out _ (List.mem_of_getElem? hpl)
      obtain ⟨p0, pv, pn⟩ := p
      dsimp only at ca cb hvx hpr hpl
      subst hvx
      have HMEM := Lib.hid HMEM0
      clear HMEM0
      have KP := Lib.hid (show IsNums wr (.slice Ax pn.length cx) pn from HNP.out)
      have BX := Lib.hid (Box.new wr 106 [.int .i64 p0, .slice Ax pn.length cx])
      have HB2 := Lib.hid ((Below.refl wr.heap.size wr).alloc (Nat.le_refl _) (.cells #[.int .i64 p0, .slice Ax pn.length cx] 106))
      have hsl1 := hsl (k + 1) (by omega)
      have hki : ((k : Int) + 1) = ((k + 1 : Nat) : Int) := by omega
      rw [← hki] at hsl1
      obtain ⟨A2, hA2⟩ : ∃ A2, A2 = (if cg = k + 1 then some (⟨g, 0, none⟩ : Addr) else (some (⟨g, 0, none⟩ : Addr)).map (·.add ((k + 1) * 2))) := ⟨_, rfl⟩
      rw [← hA2] at hsl1
      have HA2 := Lib.hid hA2
      obtain ⟨M, hM⟩ : ∃ M, M = N - (k + 1) := ⟨_, rfl⟩
      rw [← hM] at hsl1
      have hMN : M + (k + 1) = N := by omega
      have HM := Lib.hid hMN
      clear hA2 hM hpk hpl HNP hki
      go_upto_region 10 with fail
      obtain ⟨w2, hw2⟩ : ∃ w2, w2 = wr.alloc (.cells #[.int .i64 p0, .slice Ax pn.length cx] 106) := ⟨_, rfl⟩
      replace BX := Lib.hid (show Box w2 wr.heap.size 106 [.int .i64 p0, .slice Ax pn.length cx] by rw [hw2]; exact BX.out)
      have KP2 := Lib.hid (show IsNums w2 (.slice Ax pn.length cx) pn by rw [hw2]; exact KP.out.below HB2.out)
      have KO2 := Lib.hid (show OwnPairs w2 W3.heap.size _ (prK l' k) by rw [hw2]; exact KO.out.alloc _)
      have B2' := Lib.hid (show Below W3.heap.size W3 w2 by rw [hw2]; exact BEL.out.alloc hsz _)
      rw [← hw2]
      obtain ⟨cb', hcb'⟩ : ∃ c, c = wr.heap.size := ⟨_, rfl⟩
      rw [← hcb'] at BX ⊢
      have hs2 := B2'.out.size
      have hbx := BX.out.lt
      clear hw2 hcb' ca cb HB2 KP KO
      go_wp2_with fail
      go_loopw [5, 31] (fun v i wx => ∃ m : Nat, m ≤ M ∧ i = .int .i64 m ∧ OwnPairs wx W3.heap.size v (prK l' k ++ prRow (p0, pn) ((l'.drop (k + 1)).take m)) ∧ Box wx cb' 106 [.int .i64 p0, .slice Ax pn.length cx] ∧ Below W3.heap.size W3 wx) (fun _ i _ => M - (intOf i).toNat)
      case atStart => exact ⟨0, Nat.zero_le _, rfl, by rw [List.take_zero]; unfold prRow; rw [List.filter_nil, List.map_nil, List.append_nil]; exact KO2.out, BX.out, B2'.out⟩
      case round =>
        obtain ⟨m, hm, rfl, hown, hbox, hbq⟩ := hrel
        clear KO2 BX B2' hs2 hbx
        have KO := Lib.hid hown
        have BX := Lib.hid hbox
        have BQ := Lib.hid hbq
        have hsq := BQ.out.size
        clear hown hbox hbq
        by_cases hlm : m < M
        · have hA : A2 = some ⟨g, (k + 1) * 2, none⟩ := by
            rw [HA2.out, if_neg (by omega), Option.map_some, add_addr, Nat.zero_add]
          subst hA
          obtain ⟨p, hpk⟩ : ∃ p, T'[k + 1 + m]? = some p := ⟨_, List.getElem?_eq_getElem (by rw [HT'L.out]; omega)⟩
          obtain ⟨ca, cb⟩ := CELL.out _ p hpk
          replace ca := (BQ.out.cell (p := ⟨g, (k + 1 + m) * 2, none⟩) hg3s).trans ca
          replace cb := (BQ.out.cell (p := ⟨g, (k + 1 + m) * 2 + 1, none⟩) hg3s).trans cb
          rw [Nat.add_mul (k + 1) m 2] at ca cb
          have hnums := R33.out p (List.mem_of_getElem? hpk)
          have HNP := Lib.hid (hnums.below BQ.out)
          obtain ⟨Ay, cy, hvy, _, _, _, _, _⟩ := hnums
          have hpl : l'[k + 1 + m]? = some (p.1, p.2.2) := by rw [HL'.out]; unfold dat3; rw [List.getElem?_map, hpk]; rfl
          have hpr2 := HAT'.out _ (List.mem_of_getElem? hpl)
          have hpd : (l'.drop (k + 1))[m]? = some (p.1, p.2.2) := by rw [List.getElem?_drop]; exact hpl
          obtain ⟨q0, qv, qn⟩ := p
          dsimp only at ca cb hvy hpr2 hpl hpd
          subst hvy
          have HPN := Lib.hid (prRow_next (a := (p0, pn)) hpd)
          have KP := Lib.hid (show IsNums wr (.slice Ay qn.length cy) qn from HNP.out)
          have KPx := Lib.hid (show IsNums wr (.slice Ax pn.length cx) pn from (R33.out (p0, .slice Ax pn.length cx, pn) HMEM.out).below BQ.out)
          have BY := Lib.hid (Box.new wr 106 [.int .i64 q0, .slice Ay qn.length cy])
          have HB2 := Lib.hid ((Below.refl wr.heap.size wr).alloc (Nat.le_refl _) (.cells #[.int .i64 q0, .slice Ay qn.length cy] 106))
          have hbl := BX.out.lt
          clear hpk hpl hpd HNP
          go_upto_region 13 with fail
          obtain ⟨w4, hw4⟩ : ∃ w4, w4 = wr.alloc (.cells #[.int .i64 q0, .slice Ay qn.length cy] 106) := ⟨_, rfl⟩
          replace BY := Lib.hid (show Box w4 wr.heap.size 106 [.int .i64 q0, .slice Ay qn.length cy] by rw [hw4]; exact BY.out)
          have BX4 := Lib.hid (show Box w4 cb' 106 [.int .i64 p0, .slice Ax pn.length cx] by rw [hw4]; exact BX.out.below HB2.out)
          have KP4 := Lib.hid (show IsNums w4 (.slice Ay qn.length cy) qn by rw [hw4]; exact KP.out.below HB2.out)
          have KPx4 := Lib.hid (show IsNums w4 (.slice Ax pn.length cx) pn by rw [hw4]; exact KPx.out.below HB2.out)
          have KO4 := Lib.hid (show OwnPairs w4 W3.heap.size _ (prK l' k ++ prRow (p0, pn) ((l'.drop (k + 1)).take m)) by rw [hw4]; exact KO.out.alloc _)
          have B4 := Lib.hid (show Below W3.heap.size W3 w4 by rw [hw4]; exact BQ.out.alloc hsq _)
          rw [← hw4]
          obtain ⟨cy', hcy'⟩ : ∃ c, c = wr.heap.size := ⟨_, rfl⟩
          rw [← hcy'] at BY ⊢
          have hs4 := B4.out.size
          clear hw4 hcy' ca cb HB2 KP KPx KO BX BQ
          have g0 := BX4.out.cell (i := 0) rfl
          have g1 := BX4.out.cell (i := 1) rfl
          have g2 := BY.out.cell (i := 0) rfl
          have g3 := BY.out.cell (i := 1) rfl
          go_wp2_with fail
          refine (pFits_any (p0, pn) (q0, qn) _ _ _ ⟨by have := hpr.1; omega, by have := hpr.2; omega⟩ ⟨by have := hpr2.1; omega, by have := hpr2.2; omega⟩ KPx4.out KP4.out).mono ?_
          rintro e w5 ⟨rfl, hb5⟩
          have KO5 := Lib.hid (KO4.out.below hb5)
          have BX5 := Lib.hid (BX4.out.below hb5)
          have BY5 := Lib.hid (BY.out.below hb5)
          have B5 := Lib.hid (below_trans B4.out hb5 hs4)
          have hs5 := B5.out.size
          clear hb5 KO4 BX4 BY B4 g0 g1 g2 g3
          have g0 := BX5.out.cell (i := 0) rfl
          have g2 := BY5.out.cell (i := 0) rfl
          try dsimp only
          cases hf : fitB (p0, pn) (q0, qn) with
          | true =>
            have HM1 := Lib.hid (show prRow (p0, pn) ((l'.drop (k + 1)).take (m + 1)) = prRow (p0, pn) ((l'.drop (k + 1)).take m) by rw [HPN.out, if_pos hf, List.append_nil])
            clear hf HPN
            go_wp2_with fail
            exact ⟨⟨m + 1, by omega, by go_num, by rw [HM1.out]; exact KO5.out, BX5.out, B5.out⟩, by simp [intOf] <;> omega⟩
          | false =>
            have HM1 := Lib.hid (show prRow (p0, pn) ((l'.drop (k + 1)).take (m + 1)) = prRow (p0, pn) ((l'.drop (k + 1)).take m) ++ [(p0, q0)] by rw [HPN.out, if_neg (by rw [hf]; simp)])
            have HLN := Lib.hid (show (prK l' k ++ prRow (p0, pn) ((l'.drop (k + 1)).take m)).length + 1 ≤ 8796093022208 by
              have h1 := prK_length l' k
              have h2 := prRow_length (p0, pn) ((l'.drop (k + 1)).take m)
              rw [List.length_take, List.length_drop] at h2
              have h3 : k * l'.length ≤ 9 * 9 := Nat.mul_le_mul (by omega) (by rw [HLL.out]; exact hl9)
              have h4 := HLL.out
              rw [List.length_append]
              omega)
            have hp64 : I64 p0 := by unfold I64; omega
            have hq64 : I64 q0 := by unfold I64; omega
            clear hf HPN
            go_wp2_with (at_builtin; go_loud (refine wpList_push_pair rfl _ _ rfl W3.heap.size _ _ p0 q0 w5.heap.size 1 rfl (KO5.out.alloc _) rfl (pair_cell0 _ _ _ _) (pair_cell1 _ _ _ _) hp64 hq64 HLN.out (by rw [size_alloc]; omega) ?_))
            intro v6 w6 ho6 hb6 hg6
            have K6 := Lib.hid (show OwnPairs w6 W3.heap.size v6 (prK l' k ++ prRow (p0, pn) ((l'.drop (k + 1)).take (m + 1))) by
              rw [HM1.out, ← List.append_assoc]
              first
                | exact ho6
                | (rw [List.append_assoc]; exact ho6))
            have BX6 := Lib.hid ((BX5.out.alloc (.cells #[.int .i64 p0, .int .i64 q0] 90)).grown hg6 ((KO5.out.alloc (.cells #[.int .i64 p0, .int .i64 q0] 90)).notBox (BX5.out.alloc _) (by decide)))
            have B6 := Lib.hid ((B5.out.alloc hs5 (.cells #[.int .i64 p0, .int .i64 q0] 90)).trans hb6)
            clear ho6 hb6 hg6
            go_wp2_with fail
            exact ⟨⟨m + 1, by omega, by go_num, K6.out, BX6.out, B6.out⟩, by simp [intOf] <;> omega⟩
        · obtain rfl : m = M := by omega
          have HDT := Lib.hid (show (l'.drop (k + 1)).take m = l'.drop (k + 1) from List.take_of_length_le (by rw [List.length_drop, HLL.out]; omega))
          have HKN := Lib.hid (prK_next HPL.out)
          rw [HDT.out] at KO
          go_wp2_with fail
          exact ⟨⟨k + 1, by omega, by go_num, by rw [HKN.out]; exact KO.out, BQ.out⟩, by simp [intOf] <;> omega⟩
    · obtain rfl : k = N := by omega
      go_wp2_with fail
      exact HP.out _ _ ⟨l', _, HPM.out, HSO.out, rfl, by unfold prL; rw [HLL.out]; exact KO.out.less hs3, below_trans B3.out BEL.out hs3⟩
end Go.Proofs.Ytegmeepogjijiaa
