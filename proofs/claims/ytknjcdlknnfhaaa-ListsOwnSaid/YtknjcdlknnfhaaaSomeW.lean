/- Package hide: parties, none twice, by a set: what the call returns. -/
import Derived.Test.YtknjcdlknnfhaaaParties
import Derived.Maps.OwnOps
import Derived.Maps.Views
import Derived.Test.YtknjcdlknnfhaaaEngP
import Derived.Test.YtknjcdlknnfhaaaFill
import Derived.Test.YtknjcdlknnfhaaaShamK
import Derived.Test.YtknjcdlknnfhaaaTwineW
import Derived.Test.YtknjcdlknnfhaaaMat
namespace Go.Proofs.Ytknjcdlknnfhaaa
open Go.RowKit Go.Maps Croft

theorem plainElem_bool_inv {H : Type} {P : Program} {e : TypeId} (he : P.underlying e = some .bool) {v : Value} {z : DataW H × List MemPlace} (h : plainElem P e v = some z) : ∃ c, v = .bool c ∧ z = (.lit (.bool c), []) := by
  unfold plainElem at h
  rw [he] at h
  cases v <;> simp at h
  subst h
  exact ⟨_, rfl, rfl⟩
theorem ilaw : Keyed Try.prog 3 := int_keyed Try.underlying3
theorem zeroB (w : World) : (zeroValue 4).run Try.prog w = .ok (.bool false) w := by kernel_rfl
/-- the set of those that came -/
def SetIs (w : World) (b n : Nat) (l : List Int) : Prop := ∃ D : DataW Unit, w.ownsMap Try.prog 3 (plainElem Try.prog 4) b n D ∧ IsMap D ∧ ∀ z : Int, D.atKey (.int .i64 z) (.lit (.bool false)) = .lit (.bool (decide (z ∈ l)))
theorem SetIs.made (w : World) : SetIs (w.alloc (.map #[] 0)) w.heap.size 0 [] := ⟨.map [], World.ownsMap_made _ _ _ _, isMap_empty, fun z => by simp; rfl⟩
theorem SetIs.look {w : World} {b n : Nat} {l : List Int} (h : SetIs w b n l) {z : Int} (hz : I64 z) : (Instr.lookup 118 (.map (some b)) (.int .i64 z) false).run Try.prog w = .ok (.bool (decide (z ∈ l))) w := by
  obtain ⟨D, h1, _, h3⟩ := h
  obtain ⟨v, ps, hrun, hv⟩ := h1.lookup ilaw Try.underlying118 (zeroB w) (plainElem_bool Try.underlying4 false) (keyOf_int_mk Try.underlying3 (WalkArith.wf_i64 (by unfold I64 at hz; omega)))
  obtain ⟨c, rfl, hc⟩ := plainElem_bool_inv Try.underlying4 hv
  rw [h3 z] at hc
  simp only [Prod.mk.injEq, DataW.lit.injEq, Lit.bool.injEq] at hc
  rw [hrun, hc.1]
theorem SetIs.put {w w' : World} {b n : Nat} {l : List Int} {D : DataW Unit} (_h : w.ownsMap Try.prog 3 (plainElem Try.prog 4) b n D) (hm : IsMap D) (hD : ∀ z : Int, D.atKey (.int .i64 z) (.lit (.bool false)) = .lit (.bool (decide (z ∈ l)))) {z : Int}
    (h' : w'.ownsMap Try.prog 3 (plainElem Try.prog 4) b (n + 1) (D.put (.int .i64 z) (.lit (.bool true)))) : SetIs w' b (n + 1) (l ++ [z]) := by
  refine ⟨_, h', hm.put _ _, fun y => ?_⟩
  by_cases hy : y = z
  · subst hy
    rw [atKey_put_same hm (show WideAt.IsKeyLit (.int .i64 y) from trivial)]; simp
  · rw [atKey_put_other (by intro e; injection e with _ e; exact hy e), hD y]
    simp [hy]
theorem partyB_true {zs : List Int} : partyB zs = true ↔ (∀ z ∈ zs, 1 ≤ z ∧ z ≤ 9) ∧ zs.Nodup := by unfold partyB; exact decide_eq_true_iff
theorem partyB_next {zs : List Int} {k : Nat} {z : Int} (h : zs[k]? = some z) : partyB (zs.take (k + 1)) = (partyB (zs.take k) && (decide (1 ≤ z ∧ z ≤ 9) && !decide (z ∈ zs.take k))) := by
  rw [List.take_add_one, h, Bool.eq_iff_iff, Bool.and_eq_true, Bool.and_eq_true, partyB_true, partyB_true, decide_eq_true_iff, Bool.not_eq_true', decide_eq_false_iff_not]
  simp only [Option.toList, List.mem_append, List.mem_singleton, List.nodup_append]
  constructor
  · rintro ⟨h1, h2, _, h3⟩
    exact ⟨⟨fun y hy => h1 y (.inl hy), h2⟩, h1 z (.inr rfl), fun hm => h3 z hm z rfl rfl⟩
  · rintro ⟨⟨h1, h2⟩, h3, h4⟩
    refine ⟨fun y hy => ?_, h2, by simp, fun a ha b hb e => ?_⟩
    · rcases hy with hy | rfl
      · exact h1 y hy
      · exact h3
    · subst hb e; exact h4 ha
theorem partyB_mono {zs : List Int} (k : Nat) (h : partyB (zs.take k) = false) : partyB zs = false := by
  unfold partyB at *
  rw [decide_eq_false_iff_not] at *
  intro hh
  exact h ⟨fun z hz => hh.1 z (List.mem_of_mem_take hz), hh.2.sublist (List.take_sublist _ _)⟩
def whoE (zs : List Int) : Int := if partyB zs = true then 0 else 5
set_option maxRecDepth 100000 in
set_option maxHeartbeats 1000000 in
theorem hForm_any (va : Value) (zs : List Int) (w : World) (h1 : IsInts w va zs) :
    Calls Try.prog 58 #[va] w fun e w' => e = .returned (.int .i64 (whoE zs)) ∧ Below w.heap.size w w' := by
  have KA := Lib.hid h1
  obtain ⟨A1, c1, rfl, hc1, hm1, hl1, hu1, hr1⟩ := h1
  clear hu1 hr1 hm1
  have hmm := @run_makeMap Try.prog
  go_enter Try.func58, Try.ntmps58
  go_wp2_with fail
  clear hmm
  go_loopw [9] (fun i wr => ∃ k : Nat, k ≤ zs.length ∧ i = .int .i64 k ∧ SetIs wr w.heap.size k (zs.take k) ∧ partyB (zs.take k) = true ∧ Below w.heap.size w wr) (fun i _ => zs.length - (intOf i).toNat)
  case atStart => exact ⟨0, Nat.zero_le _, rfl, SetIs.made _, by simp [partyB], (Below.refl _ _).alloc (Nat.le_refl _) _⟩
  case round =>
    obtain ⟨k, hk, rfl, hset, hpb, hbel⟩ := hrel
    have HS := Lib.hid hset
    have HPB := Lib.hid hpb
    have BEL := Lib.hid hbel
    have hsz := hbel.size
    clear hset hpb hbel
    by_cases hlt : k < zs.length
    · obtain ⟨A, c, hA, _, _, _, hu, hr⟩ := KA.out.below BEL.out
      injection hA with hA1 hA2 hA3
      subst hA1 hA3
      obtain ⟨b1, o1, z, rfl, hb1, hgk, hz64, hca⟩ := ints_at hr hu hlt
      have HN := Lib.hid (partyB_next hgk)
      have HG := Lib.hid hgk
      have hlook := HS.out.look hz64
      clear hr hu hgk hb1
      by_cases hin : 1 ≤ z ∧ z ≤ 9
      · obtain ⟨hz1, hz9⟩ := hin
        have hd1 : decide (z < 1) = false := by simp; omega
        have hd2 : decide (z > 9) = false := by simp; omega
        by_cases hmem : z ∈ zs.take k
        · have hF := Lib.hid (show whoE zs = 5 from by
            unfold whoE
            rw [if_neg]
            rw [partyB_mono (k + 1) (by rw [HN.out]; simp [hmem])]
            simp)
          rw [decide_eq_true hmem] at hlook
          clear hmem
          go_wp2_with fail
          go_ret
          exact ⟨by rw [hF.out]; rfl, BEL.out⟩
        · have HM := Lib.hid (show partyB (zs.take (k + 1)) = true by rw [HN.out, HPB.out]; simp [hmem, hz1, hz9])
          have HT := Lib.hid (show zs.take (k + 1) = zs.take k ++ [z] by rw [List.take_add_one, HG.out]; rfl)
          rw [decide_eq_false hmem] at hlook
          obtain ⟨D, hown, hmap, hat⟩ := HS.out
          have HD := Lib.hid hat
          have HMAP := Lib.hid hmap
          clear hmem hat hmap HS
          go_wp2_with (at_mapUpdate; refine wpList_mapUpdate_own _ rfl _ _ _ 118 rfl 3 4 ilaw Try.underlying118 _ w.heap.size k D rfl hown (by unfold maxLen; omega) _ _ (.int .i64 z) rfl rfl (keyOf_int_mk Try.underlying3 (WalkArith.wf_i64 (by omega))) (.lit (.bool true)) [] (plainElem_bool Try.underlying4 true) ?_)
          intro w1 hown1 hgrow1
          have HS1 := Lib.hid (SetIs.put hown HMAP.out HD.out hown1)
          have B1 := Lib.hid (BEL.out.grown hgrow1 hsz (fun j hj => by cases hj; exact Nat.le_refl _))
          clear hown hown1 hgrow1 hlook
          go_wp2_with fail
          exact ⟨⟨k + 1, by omega, by go_num, by rw [HT.out]; exact HS1.out, HM.out, B1.out⟩, by simp [intOf] <;> omega⟩
      · have hF := Lib.hid (show whoE zs = 5 from by
          unfold whoE
          rw [if_neg]
          rw [partyB_mono (k + 1) (by rw [HN.out, decide_eq_false hin]; simp)]
          simp)
        by_cases hz1 : z < 1
        · clear hin hlook
          go_wp2_with fail
          go_ret
          exact ⟨by rw [hF.out]; rfl, BEL.out⟩
        · have hd1 : decide (z < 1) = false := by simp; omega
          have hz9 : z > 9 := by omega
          clear hin hlook
          go_wp2_with fail
          go_ret
          exact ⟨by rw [hF.out]; rfl, BEL.out⟩
    · obtain rfl : k = zs.length := by omega
      have hF := Lib.hid (show whoE zs = 0 from by
        unfold whoE
        have := HPB.out
        rw [List.take_length] at this
        rw [if_pos this])
      go_wp2_with fail
      go_ret
      exact ⟨by rw [hF.out]; rfl, BEL.out⟩
end Go.Proofs.Ytknjcdlknnfhaaa
namespace Croft
theorem snoc_ind {α : Type} {p : List α → Prop} (h0 : p []) (h1 : ∀ l a, p l → p (l ++ [a])) : ∀ l, p l := by
  intro l
  have h : ∀ r : List α, p r.reverse := by
    intro r
    induction r with
    | nil => exact h0
    | cons a r ih => rw [List.reverse_cons]; exact h1 _ _ ih
  have := h l.reverse
  rwa [List.reverse_reverse] at this
def blF (k : Int) : List F := [1, - inv (toF k)]
def blindP (ks : List Int) : List F := ks.foldl (fun p k => pmulS p (blF k)) [1]
theorem blindP_snoc (ks : List Int) (k : Int) : blindP (ks ++ [k]) = pmulS (blindP ks) (blF k) := by simp [blindP]
theorem small_ne {k : Int} (h : 1 ≤ k ∧ k ≤ 9) : toF k ≠ 0 := by
  intro e
  rw [toF_eq_zero] at e
  omega
theorem blF_ne (k : Int) : blF k ≠ [] := by simp [blF]
theorem blF_normal {k : Int} (h : toF k ≠ 0) : pnorm (blF k) = blF k := by
  apply normal_of_co
  right
  show - inv (toF k) ≠ 0
  intro e
  exact inv_ne h (by grind)
theorem blindP_facts : ∀ ks : List Int, (∀ k ∈ ks, toF k ≠ 0) → pnorm (blindP ks) = blindP ks ∧ (blindP ks).length = ks.length + 1 := by
  refine snoc_ind ?_ ?_
  · intro _; exact ⟨normal_of_co (.inr one_ne), rfl⟩
  · intro ks k ih h
    obtain ⟨h1, h2⟩ := ih (fun x hx => h x (List.mem_append.2 (.inl hx)))
    rw [blindP_snoc]
    refine ⟨pmulS_normal h1 (blF_normal (h k (by simp))), ?_⟩
    rw [pmulS_length, if_neg (by
      rintro (e | e)
      · rw [e] at h2; simp at h2
      · exact blF_ne k e), h2]
    simp [blF]
theorem blF_eval (k : Int) (x : F) : peval (blF k) x = 1 - x * inv (toF k) := by simp only [blF, peval, F_mz, F_az]; grind
theorem blindP_zero : ∀ ks : List Int, peval (blindP ks) 0 = 1 := by
  refine snoc_ind ?_ ?_
  · simp only [blindP, List.foldl_nil, peval, F_mz, F_az]
  · intro ks k ih
    rw [blindP_snoc, peval_mulS, ih, blF_eval, F_zm, F_om, F_sz]
theorem blindP_at : ∀ ks : List Int, (∀ k ∈ ks, toF k ≠ 0) → ∀ k ∈ ks, peval (blindP ks) (toF k) = 0 := by
  refine snoc_ind ?_ ?_
  · intro _ k hk; simp at hk
  · intro ks k ih h j hj
    rw [blindP_snoc, peval_mulS]
    rcases List.mem_append.1 hj with h1 | h1
    · rw [ih (fun x hx => h x (List.mem_append.2 (.inl hx))) j h1, F_zm]
    · simp at h1
      subst h1
      rw [blF_eval, mul_inv (h j (by simp)), F_ss, F_mz]
theorem blindP_co0 (ks : List Int) : co (blindP ks) 0 = 1 := by
  have h := blindP_zero ks
  generalize blindP ks = p at *
  cases p with
  | nil => exact absurd h.symm one_ne
  | cons a p => rw [co_cons_zero]; simp only [peval, F_zm, F_az] at h; exact h
theorem F_move (x y : F) : y = x + (y - x) * 1 := by grind
theorem F_back (a b x y : F) : a + (y - x) * b + (x - y) * b = a := by grind
/-- the draws, turned -/
def shiftL (B ds : List F) (d : F) : List F := (List.range ds.length).map fun i => co ds i + d * co B (i + 1)
theorem shiftL_length (B ds : List F) (d : F) : (shiftL B ds d).length = ds.length := by simp [shiftL]
theorem shiftL_co (B ds : List F) (d : F) {i : Nat} (h : i < ds.length) : co (shiftL B ds d) i = co ds i + d * co B (i + 1) := co_get (by simp [shiftL, h])
/-- the turned polynomial -/
theorem shift_eval {B ds : List F} {x y : F} (h0 : co B 0 = 1) (hl : B.length ≤ ds.length + 1) (z : F) : peval (y :: shiftL B ds (y - x)) z = peval (x :: ds) z + (y - x) * peval B z := by
  rw [← peval_scale, ← peval_add]
  apply peval_ext
  intro i
  rw [co_add, co_scale]
  cases i with
  | zero =>
    rw [co_cons_zero, co_cons_zero, h0]
    exact F_move x y
  | succ i =>
    rw [co_cons_succ, co_cons_succ]
    rcases Nat.lt_or_ge i ds.length with h | h
    · rw [shiftL_co _ _ _ h]
    · rw [co_of_le (by rw [shiftL_length]; exact h), co_of_le (l := ds) h, co_of_le (l := B) (by omega), F_mz, F_az]
theorem shift_back (B ds : List F) (x y : F) : shiftL B (shiftL B ds (y - x)) (x - y) = ds := by
  apply list_ext_co (by rw [shiftL_length, shiftL_length])
  intro i
  rcases Nat.lt_or_ge i ds.length with h | h
  · rw [shiftL_co _ _ _ (by rw [shiftL_length]; exact h), shiftL_co _ _ _ h, F_back]
  · rw [co_of_le (by rw [shiftL_length, shiftL_length]; exact h), co_of_le h]
end Croft
namespace Go.Proofs.Ytknjcdlknnfhaaa
open Go.RowKit Croft

theorem party_in {zs : List Int} (h : partyB zs = true) : ∀ z ∈ zs, 1 ≤ z ∧ z ≤ 9 := (partyB_true.1 h).1
theorem party_ne {zs : List Int} (h : partyB zs = true) : ∀ z ∈ zs, toF z ≠ 0 := fun z hz => small_ne (party_in h z hz)
theorem party_len {zs : List Int} (h : partyB zs = true) : zs.length ≤ 9 := by
  have h1 : AtsOk (zs.map fun z => (z, 0)) 9 := by
    unfold AtsOk
    obtain ⟨h2, h3⟩ := partyB_true.1 h
    refine ⟨fun s hs => ?_, by rw [List.map_map]; simpa [Function.comp_def] using h3⟩
    obtain ⟨z, hz, rfl⟩ := List.mem_map.1 hs
    exact h2 z hz
  have := h1.few
  simpa using this
theorem blind_take {zs : List Int} {k : Nat} {z : Int} (hg : zs[k]? = some z) : blindP (zs.take (k + 1)) = pmulS (blindP (zs.take k)) (blF z) := by
  rw [List.take_add_one, hg]
  exact blindP_snoc _ _
theorem F_zsub (x : F) : (0 : F) - x = - x := by grind
theorem bl_lit (z : Int) : toFs [1, ofF (toF 0 - inv (toF z))] = blF z := by
  simp only [toFs, List.map, toF_ofF, toF_one, toF_zero, blF, F_zsub]
set_option maxRecDepth 100000 in
set_option maxHeartbeats 1000000 in
theorem hBlind_any (va : Value) (zs : List Int) (n : Nat) (w : World) (h1 : IsInts w va zs) (hp : partyB zs = true) (hn : n ≤ 1000) :
    Calls Try.prog 59 #[va, .int .i64 n] w fun e w' => ∃ v, e = .returned v ∧ OwnNums w' w.heap.size v (fillL (ofFs (blindP zs)) n) ∧ Below w.heap.size w w' := by
  have KA := Lib.hid h1
  have HP := Lib.hid hp
  have HL := Lib.hid (party_len hp)
  suffices hgoal : ∀ Post : Ending → World → Prop, (∀ e w', (∃ v, e = .returned v ∧ OwnNums w' w.heap.size v (fillL (ofFs (blindP zs)) n) ∧ Below w.heap.size w w') → Post e w') → Calls Try.prog 59 #[va, .int .i64 n] w Post from hgoal _ fun e w' h => h
  intro Post hpost
  have HPO := Lib.hid hpost
  obtain ⟨A1, c1, rfl, hc1, hm1, hl1, hu1, hr1⟩ := h1
  clear hu1 hr1 hm1 hp hpost
  have LO := Lib.hid (lit_own w w.heap.size [1] (by simp [U64]) (by simp) (Nat.le_refl _))
  go_enter Try.func59, Try.ntmps59
  go_wp2_with fail
  go_loopw [5, 14] (fun v i wr => ∃ k : Nat, k ≤ zs.length ∧ i = .int .i64 k ∧ OwnNums wr w.heap.size v (ofFs (blindP (zs.take k))) ∧ Below w.heap.size w wr) (fun _ i _ => zs.length - (intOf i).toNat)
  case atStart => exact ⟨0, Nat.zero_le _, rfl, LO.out, (Below.refl _ _).alloc (Nat.le_refl _) _⟩
  case round =>
    obtain ⟨k, hk, rfl, hown, hbel⟩ := hrel
    have KO := Lib.hid hown
    have BEL := Lib.hid hbel
    have hsz := hbel.size
    clear hown hbel LO
    by_cases hlt : k < zs.length
    · obtain ⟨A, c, hA, _, _, _, hu, hr⟩ := KA.out.below BEL.out
      injection hA with hA1 hA2 hA3
      subst hA1 hA3
      obtain ⟨b1, o1, z, rfl, hb1, hgk, hz64, hca⟩ := ints_at hr hu hlt
      have hz := party_in HP.out z (List.mem_of_getElem? hgk)
      have HT := Lib.hid (blind_take hgk)
      have HNZ := Lib.hid (small_ne hz)
      have HF := Lib.hid (blindP_facts (zs.take k) (fun y hy => party_ne HP.out y (List.mem_of_mem_take hy)))
      have hbl : (blindP (zs.take k)).length ≤ 10 := by rw [HF.out.2, List.length_take]; have := HL.out; omega
      have HBL := Lib.hid hbl
      obtain ⟨hz1, hz9⟩ := hz
      clear hu hr hgk hb1 hbl
      go_wp2_with fail
      refine (fInv_any _ _ (by omega)).mono ?_
      rintro e w' ⟨rfl, rfl⟩
      try dsimp only
      go_wp2_with fail
      refine (fSub_any _ _ _ (by omega) (ofF_nonneg _)).mono ?_
      rintro e w' ⟨rfl, rfl⟩
      rw [toF_ofF]
      try dsimp only
      go_wp2_with fail
      have L1 := Lib.hid (lit_nums wr [1, ofF (toF 0 - inv (toF z))] (by intro y hy; simp only [List.mem_cons, List.not_mem_nil, or_false] at hy; rcases hy with rfl | rfl <;> first | exact ⟨by omega, by omega⟩ | exact U64.of_ofF _) (by simp))
      have hb := (Below.refl wr.heap.size wr).alloc (Nat.le_refl _) (.cells (u64s [1, ofF (toF 0 - inv (toF z))]).toArray 39)
      have KO2 := Lib.hid (KO.out.is.below hb)
      have B2 := Lib.hid (below_trans BEL.out hb hsz)
      clear hb
      change Calls _ _ _ (wr.alloc (.cells (u64s [1, ofF (toF 0 - inv (toF z))]).toArray 39)) _
      generalize hW : wr.alloc (.cells (u64s [1, ofF (toF 0 - inv (toF z))]).toArray 39) = W5 at *
      clear hW
      refine (pMul_small _ _ _ _ _ KO2.out L1.out (by rw [ofFs_length]; have := HBL.out; omega) (by simp)).mono ?_
      rintro e W6 ⟨v6, rfl, ho, hb⟩
      rw [toFs_ofFs, bl_lit, HF.out.1, blF_normal HNZ.out, ← HT.out] at ho
      have HF2 := (blindP_facts (zs.take (k + 1)) (fun y hy => party_ne HP.out y (List.mem_of_mem_take hy))).2
      have hl40 : (blindP (zs.take (k + 1))).length ≤ 40 := by rw [HF2, List.length_take]; have := HL.out; omega
      unfold mulRes at ho
      rw [if_neg (by omega)] at ho
      rw [toFs_ofFs, bl_lit, HF.out.1, blF_normal HNZ.out, ← HT.out, show mulErr (blindP (zs.take (k + 1))) = 0 from if_neg (by omega)]
      have K6 := Lib.hid (ho.less B2.out.size)
      have B6 := Lib.hid (below_trans B2.out hb B2.out.size)
      clear ho hb HF2 hl40
      try dsimp only
      go_wp2_with fail
      exact ⟨⟨k + 1, by omega, by go_num, K6.out, B6.out⟩, by simp [intOf] <;> omega⟩
    · obtain rfl : k = zs.length := by omega
      have HTE := Lib.hid (show zs.take zs.length = zs from List.take_length)
      rw [HTE.out] at KO
      have HF := Lib.hid (blindP_facts zs (party_ne HP.out))
      obtain ⟨xs, hxs⟩ : ∃ xs, xs = ofFs (blindP zs) := ⟨_, rfl⟩
      rw [← hxs] at KO HPO
      have hxl : xs.length = zs.length + 1 := by rw [hxs, ofFs_length]; exact HF.out.2
      have hzl := HL.out
      obtain ⟨gp, cp, hv, hgp1, hgp2⟩ := own_slice KO.out.1 (by omega)
      subst hv
      have HXS := Lib.hid hxs
      have HXL := Lib.hid hxl
      clear hxs hgp1 hgp2 hxl hzl
      go_wp2_with (refine wpList_make_nums rfl _ _ rfl wr.heap.size _ n rfl rfl rfl (by omega) (Nat.le_refl _) ?_)
      intro W1 ho hb
      have BX := Lib.hid ho.box
      have B1 := Lib.hid hb
      have KA1 := Lib.hid (KO.out.is.below hb)
      obtain ⟨Z, hZ⟩ : ∃ Z, Z = u64s (List.replicate n 0) := ⟨_, rfl⟩
      obtain ⟨C, hC⟩ : ∃ C, C = u64s (xs.take n) := ⟨_, rfl⟩
      rw [← hZ] at BX
      have HZ := Lib.hid hZ
      have HC := Lib.hid hC
      have HCL := Lib.hid (show C.length = Nat.min xs.length n by rw [hC, u64s_length, List.length_take]; exact Nat.min_comm _ _)
      clear ho hb hZ hC
      go_wp2_with (refine wpList_copy_splice (o := ⟨some 37, _, _, _, _, _⟩) rfl _ _ _ _ rfl 39 Try.underlying26 size_one (some ⟨wr.heap.size, 0, none⟩) (some ⟨gp, 0, none⟩) n n xs.length cp rfl rfl wr.heap.size 0 Z 39 BX.out C HCL.out ?c1 ?c2 ?c3 wr.heap.size wr B1.out (Nat.le_refl _) ?_)
      case c1 =>
        intro h0
        obtain ⟨A, c, hA, _, _, _, hu, hr⟩ := KA1.out
        injection hA with hA1 hA2 hA3
        subst hA1
        obtain ⟨b, o, hbo, hb, hc⟩ := hr.at_ (j := 0) (by rw [u64s_length, HXL.out]; omega)
        intro j v hj
        have hj2 := (List.getElem?_eq_some_iff.1 hj).1
        rw [HCL.out] at hj2
        have hjx : j < xs.length := Nat.lt_of_lt_of_le hj2 (Nat.min_le_left _ _)
        have hjn : j < n := Nat.lt_of_lt_of_le hj2 (Nat.min_le_right _ _)
        injection hbo with hbo
        injection hbo with hb1 hb2
        subst hb1 hb2
        have hcj := hc j (by rw [u64s_length]; exact hjx)
        rw [Nat.zero_add] at hcj
        rw [hcj, ← hj, HC.out, u64s_get, u64s_get, List.getElem?_take, if_pos hjn]
      case c2 => rw [HCL.out, HZ.out, u64s_length, List.length_replicate, Nat.zero_add]; exact Nat.min_le_right _ _
      case c3 => rw [HC.out]; exact u64s_one _
      intro W2 hB hBel
      have KB := Lib.hid (show Box W2 wr.heap.size 39 (u64s (fillL xs n)) from by
        have h := hB.out
        rw [HZ.out, HC.out, splice_fill] at h
        exact h)
      have B2 := Lib.hid (below_trans BEL.out hBel hsz)
      clear hB hBel
      go_wp2_with fail
      have h := KB.out.own (Nat.le_refl _) (by rw [fillL_length]; omega) (fillL_u64 (by rw [HXS.out]; exact ofF_u64s _) n)
      rw [fillL_length] at h
      exact HPO.out _ _ ⟨_, rfl, h.less hsz, B2.out⟩
end Go.Proofs.Ytknjcdlknnfhaaa
namespace Go.Proofs.Ytknjcdlknnfhaaa
open Go.RowKit Croft

theorem fillL_co (B : List F) {n j : Nat} (h : j < n) : (fillL (ofFs B) n)[j]? = some (ofF (co B j)) := by
  unfold fillL
  rcases Nat.lt_or_ge j B.length with h1 | h1
  · rw [List.getElem?_append_left (by simp [ofFs]; omega), List.getElem?_take, if_pos h]
    exact ofFs_get (get_co h1)
  · rw [List.getElem?_append_right (by simp [ofFs]; omega), List.getElem?_replicate, if_pos (by simp [ofFs]; omega), co_of_le h1, ofF_zero]
theorem shiftL_next (B D : List F) (d : F) {k : Nat} (h : k < D.length) : ofFs ((shiftL B D d).take (k + 1)) = ofFs ((shiftL B D d).take k) ++ [ofF (co D k + d * co B (k + 1))] := by
  rw [List.take_add_one, get_co (by rw [shiftL_length]; exact h), shiftL_co _ _ _ h]
  simp [ofFs]
theorem hShift_form (va vd : Value) (zs : List Int) (frm to : Int) (w : World) (h1 : IsInts w va zs) (hp : partyB zs = false) :
    Calls Try.prog 23 #[va, .int .u64 frm, .int .u64 to, vd] w fun e w' => ListRes w e w' [] 5 := by
  have KA := Lib.hid h1
  have HE := Lib.hid (show whoE zs = 5 by unfold whoE; rw [hp]; rfl)
  clear h1 hp
  go_enter Try.func23, Try.ntmps23
  go_wp2_with fail
  refine (hForm_any _ _ _ KA.out).mono ?_
  rintro e w' ⟨rfl, hb⟩
  rw [HE.out]
  have BEL := Lib.hid hb
  clear hb
  try dsimp only
  go_wp2_with fail
  go_ret2
  exact ⟨_, rfl, OwnNums.nil _ _, BEL.out⟩
theorem hShift_arg (va vd : Value) (zs ds : List Int) (frm to : Int) (w : World) (h1 : IsInts w va zs) (h2 : IsNums w vd ds) (hp : partyB zs = true) (hb : ¬ (ds.length ≤ 4 ∧ zs.length ≤ ds.length)) :
    Calls Try.prog 23 #[va, .int .u64 frm, .int .u64 to, vd] w fun e w' => ListRes w e w' [] 1 := by
  have KA := Lib.hid h1
  have HE := Lib.hid (show whoE zs = 0 by unfold whoE; rw [hp]; rfl)
  obtain ⟨A1, c1, rfl, hc1, hm1, hl1, hu1, hr1⟩ := h1
  obtain ⟨A2, c2, rfl, hc2, hm2, hl2, hu2, hr2⟩ := h2
  clear hp hu1 hr1 hm1 hu2 hr2 hm2
  by_cases h4 : (ds.length : Int) > 4
  · clear hb
    go_enter Try.func23, Try.ntmps23
    go_wp2_with fail
    refine (hForm_any _ _ _ KA.out).mono ?_
    rintro e w' ⟨rfl, hb⟩
    rw [HE.out]
    have BEL := Lib.hid hb
    clear hb
    try dsimp only
    go_wp2_with fail
    go_ret2
    exact ⟨_, rfl, OwnNums.nil _ _, BEL.out⟩
  · have hd1 : decide ((ds.length : Int) > 4) = false := by simpa using h4
    have hlt : (ds.length : Int) < zs.length := by omega
    clear hb
    go_enter Try.func23, Try.ntmps23
    go_wp2_with fail
    refine (hForm_any _ _ _ KA.out).mono ?_
    rintro e w' ⟨rfl, hb⟩
    rw [HE.out]
    have BEL := Lib.hid hb
    clear hb
    try dsimp only
    go_wp2_with fail
    go_ret2
    exact ⟨_, rfl, OwnNums.nil _ _, BEL.out⟩
set_option maxRecDepth 100000 in
set_option maxHeartbeats 1000000 in
theorem hShift_ok (va vd : Value) (zs ds : List Int) (frm to : Int) (w : World) (h1 : IsInts w va zs) (h2 : IsNums w vd ds) (hp : partyB zs = true) (hd : ds.length ≤ 4) (hz : zs.length ≤ ds.length) (hf : 0 ≤ frm) (ht : 0 ≤ to) :
    Calls Try.prog 23 #[va, .int .u64 frm, .int .u64 to, vd] w fun e w' => ListRes w e w' (ofFs (shiftL (blindP zs) (toFs ds) (toF to - toF frm))) 0 := by
  have KA := Lib.hid h1
  have KD := Lib.hid h2
  have HP := Lib.hid hp
  have HE := Lib.hid (show whoE zs = 0 by unfold whoE; rw [hp]; rfl)
  suffices hgoal : ∀ Post : Ending → World → Prop, (∀ e w', ListRes w e w' (ofFs (shiftL (blindP zs) (toFs ds) (toF to - toF frm))) 0 → Post e w') → Calls Try.prog 23 #[va, .int .u64 frm, .int .u64 to, vd] w Post from hgoal _ fun e w' h => h
  intro Post hpost
  have HPO := Lib.hid hpost
  obtain ⟨A1, c1, rfl, hc1, hm1, hl1, hu1, hr1⟩ := h1
  obtain ⟨A2, c2, rfl, hc2, hm2, hl2, hu2, hr2⟩ := h2
  have hd1 : decide ((ds.length : Int) > 4) = false := by simp; omega
  have hd2 : decide (ds.length < zs.length) = false := by simp; omega
  clear hp hu1 hr1 hm1 hu2 hr2 hm2 hpost
  go_enter Try.func23, Try.ntmps23
  go_wp2_with fail
  refine (hForm_any _ _ _ KA.out).mono ?_
  rintro e W1 ⟨rfl, hb⟩
  rw [HE.out]
  have BEL := Lib.hid hb
  have KA1 := Lib.hid (KA.out.below hb)
  have KD1 := Lib.hid (KD.out.below hb)
  clear hb KA KD
  try dsimp only
  go_wp2_with fail
  refine (hBlind_any _ zs (ds.length + 1) _ KA1.out HP.out (by omega)).mono ?_
  rintro e W2 ⟨vp, rfl, ho, hb⟩
  obtain ⟨gp, cp, hv, _, _⟩ := own_slice ho.1 (by rw [fillL_length]; omega)
  rw [fillL_length] at hv
  subst hv
  have KP := Lib.hid ho
  have KD2 := Lib.hid (KD1.out.below hb)
  have B2 := Lib.hid (below_trans BEL.out hb BEL.out.size)
  clear ho hb KA1 KD1 BEL
  try dsimp only
  go_wp2_with fail
  refine (fSub_any _ _ _ ht hf).mono ?_
  rintro e w' ⟨rfl, rfl⟩
  obtain ⟨d, hdd⟩ : ∃ d, d = toF to - toF frm := ⟨_, rfl⟩
  rw [← hdd]
  replace HPO := Lib.hid (show ∀ e w', ListRes w e w' (ofFs (shiftL (blindP zs) (toFs ds) d)) 0 → Post e w' from by rw [hdd]; exact HPO.out)
  clear hdd
  try dsimp only
  go_wp2_with fail
  obtain ⟨B, hB⟩ : ∃ B, B = blindP zs := ⟨_, rfl⟩
  rw [← hB] at KP HPO
  clear hB hd1 hd2
  go_loopw [13, 41] (fun v i wr => ∃ k : Nat, k ≤ ds.length ∧ i = .int .i64 k ∧ OwnNums wr W2.heap.size v (ofFs ((shiftL B (toFs ds) d).take k)) ∧ Below W2.heap.size W2 wr) (fun _ i _ => ds.length - (intOf i).toNat)
  case atStart => exact ⟨0, Nat.zero_le _, rfl, OwnNums.nil _ _, Below.refl _ _⟩
  case round =>
    obtain ⟨k, hk, rfl, hown, hbel⟩ := hrel
    have KO := Lib.hid hown
    have BEL := Lib.hid hbel
    have hsz := hbel.size
    clear hown hbel
    by_cases hlt : k < ds.length
    · obtain ⟨A, c, hA, _, _, _, hu, hr⟩ := KD2.out.below BEL.out
      injection hA with hA1 hA2 hA3
      subst hA1 hA3
      obtain ⟨b1, o1, x, rfl, hb1, hgk, hx64, hcx⟩ := nums_at hr hu hlt
      have hcp := (KP.out.below BEL.out).cell (fillL_co B (show k + 1 < ds.length + 1 by omega))
      have HT := Lib.hid (shiftL_next B (toFs ds) d (by rw [toFs_length]; exact hlt))
      have HX := Lib.hid (co_toFs hgk)
      have hx0 := hx64.1
      have HLN := Lib.hid (show (ofFs ((shiftL B (toFs ds) d).take k)).length ≤ 4 by rw [ofFs_length, List.length_take, shiftL_length, toFs_length]; omega)
      clear hu hr hgk hb1
      go_wp2_with fail
      refine (fMul_any _ _ _ (ofF_nonneg _) (ofF_nonneg _)).mono ?_
      rintro e w' ⟨rfl, rfl⟩
      rw [toF_ofF, toF_ofF]
      try dsimp only
      go_wp2_with fail
      refine (fAdd_any _ _ _ hx0 (ofF_nonneg _)).mono ?_
      rintro e w' ⟨rfl, rfl⟩
      rw [toF_ofF]
      try dsimp only
      go_wp2_with (at_builtin; go_loud (refine wpList_push rfl _ _ rfl W2.heap.size _ _ (ofF (toF x + d * co B (k + 1))) wr.heap.size 1 rfl (KO.out.alloc _) rfl (new_cell _ _ _) (U64.of_ofF _) (by have := HLN.out; omega) (by rw [size_alloc]; omega) ?_))
      intro v' w5 hown' hbel'
      have K5 := Lib.hid (show OwnNums w5 W2.heap.size v' (ofFs ((shiftL B (toFs ds) d).take (k + 1))) by rw [HT.out, HX.out]; exact hown')
      have B5 := Lib.hid ((BEL.out.alloc hsz (.cells #[.int .u64 (ofF (toF x + d * co B (k + 1)))] 39)).trans hbel')
      clear hown' hbel'
      go_wp2_with fail
      exact ⟨⟨k + 1, by omega, by go_num, K5.out, B5.out⟩, by simp [intOf] <;> omega⟩
    · obtain rfl : k = ds.length := by omega
      have HTE := Lib.hid (show (shiftL B (toFs ds) d).take ds.length = shiftL B (toFs ds) d from List.take_of_length_le (by rw [shiftL_length, toFs_length]; exact Nat.le_refl _))
      rw [HTE.out] at KO
      go_wp2_with fail
      exact HPO.out _ _ ⟨_, rfl, KO.out.less B2.out.size, below_trans B2.out BEL.out B2.out.size⟩
end Go.Proofs.Ytknjcdlknnfhaaa
namespace Go.Proofs.Ytknjcdlknnfhaaa
open Go.RowKit Croft

def prs (t : Nat) : List (Nat × Nat) := (List.range (t + 1)).flatMap fun i => (List.range (t + 1 - i)).map fun m => (i, i + m)
theorem prs_at' (t : Nat) (ht : t < 5) (i : Nat) (hi : i < 5) (m : Nat) (hm : m < 5) (h : i + m ≤ t) : (prs t)[off t i + m]? = some (i, i + m) := by
  have h5 : ∀ t i m : Fin 5, i.1 + m.1 ≤ t.1 → (prs t.1)[off t.1 i.1 + m.1]? = some (i.1, i.1 + m.1) := by decide
  exact h5 ⟨t, ht⟩ ⟨i, hi⟩ ⟨m, hm⟩ h
theorem off_need' (t : Nat) (ht : t < 5) : needN (t : Int) + 1 = (off t (t + 1) : Int) := by
  have h5 : ∀ t : Fin 5, needN (t.1 : Int) + 1 = (off t.1 (t.1 + 1) : Int) := by decide
  exact h5 ⟨t, ht⟩
theorem off_lt' (t : Nat) (ht : t < 5) (i : Nat) (hi : i < 5) (m : Nat) (hm : m < 5) (h : i + m ≤ t) : off t i + m + 1 ≤ off t (t + 1) := by
  have h5 : ∀ t i m : Fin 5, i.1 + m.1 ≤ t.1 → off t.1 i.1 + m.1 + 1 ≤ off t.1 (t.1 + 1) := by decide
  exact h5 ⟨t, ht⟩ ⟨i, hi⟩ ⟨m, hm⟩ h
theorem off_le' (t : Nat) (ht : t < 5) : off t (t + 1) ≤ 15 := by
  have h5 : ∀ t : Fin 5, off t.1 (t.1 + 1) ≤ 15 := by decide
  exact h5 ⟨t, ht⟩
theorem off_next (t k : Nat) : off t (k + 1) = off t k + (t + 1 - k) := rfl
def twVal (B D : List F) (d : F) (a : Nat) (ij : Nat × Nat) : Int := ofF (co D a + d * (co B ij.1 * co B ij.2))
def twL (B D : List F) (d : F) (t q : Nat) : List Int := (List.range (q - 1)).map fun a => twVal B D d a ((prs t).getD (a + 1) (0, 0))
theorem twL_length (B D : List F) (d : F) (t q : Nat) : (twL B D d t q).length = q - 1 := by simp [twL]
theorem twL_next (B D : List F) (d : F) {t i m a : Nat} (ht : t ≤ 4) (him : i + m ≤ t) (ha : off t i + m = a + 1) : twL B D d t (a + 2) = twL B D d t (a + 1) ++ [ofF (co D a + d * (co B i * co B (i + m)))] := by
  have h := prs_at' t (by omega) i (by omega) m (by omega) him
  rw [ha] at h
  unfold twL
  rw [show a + 2 - 1 = a + 1 by omega, show a + 1 - 1 = a by omega, List.range_succ, List.map_append]
  congr 1
  simp [List.getD, h, twVal]
theorem ListRes.none (w w' : World) (err : Int) (hb : Below w.heap.size w w') : ListRes w (.returned (.tuple #[.slice none 0 0, .int .i64 err])) w' [] err := ⟨_, rfl, OwnNums.nil _ _, hb⟩
end Go.Proofs.Ytknjcdlknnfhaaa
namespace Go.Proofs.Ytknjcdlknnfhaaa
open Go.RowKit Croft

/-- parties, none twice, at most so many -/
structure Some_ (T N : Nat) (who : List Int) : Prop where
  len : who.length ≤ T
  in_ : ∀ k ∈ who, 1 ≤ k ∧ k ≤ (N : Int)
  nodup : who.Nodup
theorem Some_.nil (T N : Nat) : Some_ T N [] := ⟨by simp, by simp, by simp⟩
theorem Some_.add {T N : Nat} {who : List Int} (h : Some_ T N who) {k : Int} (hl : who.length < T) (h1 : 1 ≤ k ∧ k ≤ (N : Int)) (h2 : k ∉ who) : Some_ T N (who ++ [k]) := by
  refine ⟨by simp; omega, fun y hy => ?_, ?_⟩
  · rcases List.mem_append.1 hy with h3 | h3
    · exact h.in_ y h3
    · simp at h3; subst h3; exact h1
  · rw [List.nodup_append]
    refine ⟨h.nodup, by simp, fun a ha b hb e => ?_⟩
    simp at hb
    subst hb e
    exact h2 ha
theorem Some_.party {T N : Nat} {who : List Int} (h : Some_ T N who) (hN : N ≤ 9) : partyB who = true := by
  unfold partyB
  exact decide_eq_true ⟨fun z hz => by have := h.in_ z hz; omega, h.nodup⟩
end Go.Proofs.Ytknjcdlknnfhaaa
