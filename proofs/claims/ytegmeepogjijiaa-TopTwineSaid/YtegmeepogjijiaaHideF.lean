/- Package hide: parties, none twice, by a set: what the call returns. -/
import Derived.Test.YtegmeepogjijiaaParties
import Derived.Maps.OwnOps
import Derived.Maps.Views
namespace Go.Proofs.Ytegmeepogjijiaa
open Go.RowKit Go.Maps Croft

theorem plainElem_bool_inv {H : Type} {P : Program} {e : TypeId} (he : P.underlying e = some .bool) {v : Value} {z : DataW H × List MemPlace} (h : plainElem P e v = some z) : ∃ c, v = .bool c ∧ z = (.lit (.bool c), []) := by
  unfold plainElem at h
  rw [he] at h
  cases v <;> simp at h
  subst h
  exact ⟨_, rfl, rfl⟩
theorem ilaw : Keyed Try.prog 3 := int_keyed Try.underlying3
theorem zeroB (w : World) : (zeroValue 4).run Try.prog w = .ok (.bool false) w := by kernel_rfl
/-- the set of those that came -/
def SetIs (w : World) (b n : Nat) (l : List Int) : Prop := ∃ D : DataW Unit, w.ownsMap Try.prog 3 (plainElem Try.prog 4) b n D ∧ IsMap D ∧ ∀ z : Int, D.atKey (.int .i64 z) (.lit (.bool false)) = .lit (.bool (decide (z ∈ l)))
theorem SetIs.made (w : World) : SetIs (w.alloc (.map #[] 0)) w.heap.size 0 [] := ⟨.map [], World.ownsMap_made _ _ _ _, isMap_empty, fun z => by simp; rfl⟩
theorem SetIs.look {w : World} {b n : Nat} {l : List Int} (h : SetIs w b n l) {z : Int} (hz : I64 z) : (Instr.lookup 169 (.map (some b)) (.int .i64 z) false).run Try.prog w = .ok (.bool (decide (z ∈ l))) w := by
  obtain ⟨D, h1, _, h3⟩ := h
  obtain ⟨v, ps, hrun, hv⟩ := h1.lookup ilaw Try.underlying169 (zeroB w) (plainElem_bool Try.underlying4 false) (keyOf_int_mk Try.underlying3 (WalkArith.wf_i64 (by unfold I64 at hz; omega)))
  obtain ⟨c, rfl, hc⟩ := plainElem_bool_inv Try.underlying4 hv
  rw [h3 z] at hc
  simp only [Prod.mk.injEq, DataW.lit.injEq, Lit.bool.injEq] at hc
  rw [hrun, hc.1]
theorem SetIs.put {w w' : World} {b n : Nat} {l : List Int} {D : DataW Unit} (_h : w.ownsMap Try.prog 3 (plainElem Try.prog 4) b n D) (hm : IsMap D) (hD : ∀ z : Int, D.atKey (.int .i64 z) (.lit (.bool false)) = .lit (.bool (decide (z ∈ l)))) {z : Int}
    (h' : w'.ownsMap Try.prog 3 (plainElem Try.prog 4) b (n + 1) (D.put (.int .i64 z) (.lit (.bool true)))) : SetIs w' b (n + 1) (l ++ [z]) := by
  refine ⟨_, h', hm.put _ _, fun y => ?_⟩
  by_cases hy : y = z
  · subst hy
    rw [atKey_put_same hm (show WideAt.IsKeyLit (.int .i64 y) from trivial)]; simp
  · rw [atKey_put_other (by intro e; injection e with _ e; exact hy e), hD y]
    simp [hy]
theorem partyB_true {zs : List Int} : partyB zs = true ↔ (∀ z ∈ zs, 1 ≤ z ∧ z ≤ 9) ∧ zs.Nodup := by unfold partyB; exact decide_eq_true_iff
theorem partyB_next {zs : List Int} {k : Nat} {z : Int} (h : zs[k]? = some z) : partyB (zs.take (k + 1)) = (partyB (zs.take k) && (decide (1 ≤ z ∧ z ≤ 9) && !decide (z ∈ zs.take k))) := by
  rw [List.take_add_one, h, Bool.eq_iff_iff, Bool.and_eq_true, Bool.and_eq_true, partyB_true, partyB_true, decide_eq_true_iff, Bool.not_eq_true', decide_eq_false_iff_not]
  simp only [Option.toList, List.mem_append, List.mem_singleton, List.nodup_append]
  constructor
  · rintro ⟨h1, h2, _, h3⟩
    exact ⟨⟨fun y hy => h1 y (.inl hy), h2⟩, h1 z (.inr rfl), fun hm => h3 z hm z rfl rfl⟩
  · rintro ⟨⟨h1, h2⟩, h3, h4⟩
    refine ⟨fun y hy => ?_, h2, by simp, fun a ha b hb e => ?_⟩
    · rcases hy with hy | rfl
      · exact h1 y hy
      · exact h3
    · subst hb e; exact h4 ha
theorem partyB_mono {zs : List Int} (k : Nat) (h : partyB (zs.take k) = false) : partyB zs = false := by
  unfold partyB at *
  rw [decide_eq_false_iff_not] at *
  intro hh
  exact h ⟨fun z hz => hh.1 z (List.mem_of_mem_take hz), hh.2.sublist (List.take_sublist _ _)⟩
def whoE (zs : List Int) : Int := if partyB zs = true then 0 else 5
set_option maxRecDepth 100000 in
set_option maxHeartbeats 1000000 in
theorem hForm_any (va : Value) (zs : List Int) (w : World) (h1 : IsInts w va zs) :
    Calls Try.prog 93 #[va] w fun e w' => e = .returned (.int .i64 (whoE zs)) ∧ Below w.heap.size w w' := by
  have KA := Lib.hid h1
  obtain ⟨A1, c1, rfl, hc1, hm1, hl1, hu1, hr1⟩ := h1
  clear hu1 hr1 hm1
  have hmm := @run_makeMap Try.prog
  go_enter Try.func93, Try.ntmps93
  go_wp2_with fail
  clear hmm
  go_loopw [9] (fun i wr => ∃ k : Nat, k ≤ zs.length ∧ i = .int .i64 k ∧ SetIs wr w.heap.size k (zs.take k) ∧ partyB (zs.take k) = true ∧ Below w.heap.size w wr) (fun i _ => zs.length - (intOf i).toNat)
  case atStart => exact ⟨0, Nat.zero_le _, rfl, SetIs.made _, by simp [partyB], (Below.refl _ _).alloc (Nat.le_refl _) _⟩
  case round =>
    obtain ⟨k, hk, rfl, hset, hpb, hbel⟩ := hrel
    have HS := Lib.hid hset
    have HPB := Lib.hid hpb
    have BEL := Lib.hid hbel
    have hsz := hbel.size
    clear hset hpb hbel
    by_cases hlt : k < zs.length
    · obtain ⟨A, c, hA, _, _, _, hu, hr⟩ := KA.out.below BEL.out
      injection hA with hA1 hA2 hA3
      subst hA1 hA3
      obtain ⟨b1, o1, z, rfl, hb1, hgk, hz64, hca⟩ := ints_at hr hu hlt
      have HN := Lib.hid (partyB_next hgk)
      have HG := Lib.hid hgk
      have hlook := HS.out.look hz64
      clear hr hu hgk hb1
      by_cases hin : 1 ≤ z ∧ z ≤ 9
      · obtain ⟨hz1, hz9⟩ := hin
        have hd1 : decide (z < 1) = false := by simp; omega
        have hd2 : decide (z > 9) = false := by simp; omega
        by_cases hmem : z ∈ zs.take k
        · have hF := Lib.hid (show whoE zs = 5 from by
            unfold whoE
            rw [if_neg]
            rw [partyB_mono (k + 1) (by rw [HN.out]; simp [hmem])]
            simp)
          rw [decide_eq_true hmem] at hlook
          clear hmem
          go_wp2_with fail
          go_ret
          exact ⟨by rw [hF.out]; rfl, BEL.out⟩
        · have HM := Lib.hid (show partyB (zs.take (k + 1)) = true by rw [HN.out, HPB.out]; simp [hmem, hz1, hz9])
          have HT := Lib.hid (show zs.take (k + 1) = zs.take k ++ [z] by rw [List.take_add_one, HG.out]; rfl)
          rw [decide_eq_false hmem] at hlook
          obtain ⟨D, hown, hmap, hat⟩ := HS.out
          have HD := Lib.hid hat
          have HMAP := Lib.hid hmap
          clear hmem hat hmap HS
          go_wp2_with (at_mapUpdate; refine wpList_mapUpdate_own _ rfl _ _ _ 169 rfl 3 4 ilaw Try.underlying169 _ w.heap.size k D rfl hown (by unfold maxLen; omega) _ _ (.int .i64 z) rfl rfl (keyOf_int_mk Try.underlying3 (WalkArith.wf_i64 (by omega))) (.lit (.bool true)) [] (plainElem_bool Try.underlying4 true) ?_)
          intro w1 hown1 hgrow1
          have HS1 := Lib.hid (SetIs.put hown HMAP.out HD.out hown1)
          have B1 := Lib.hid (BEL.out.grown hgrow1 hsz (fun j hj => by cases hj; exact Nat.le_refl _))
          clear hown hown1 hgrow1 hlook
          go_wp2_with fail
          exact ⟨⟨k + 1, by omega, by go_num, by rw [HT.out]; exact HS1.out, HM.out, B1.out⟩, by simp [intOf] <;> omega⟩
      · have hF := Lib.hid (show whoE zs = 5 from by
          unfold whoE
          rw [if_neg]
          rw [partyB_mono (k + 1) (by rw [HN.out, decide_eq_false hin]; simp)]
          simp)
        by_cases hz1 : z < 1
        · clear hin hlook
          go_wp2_with fail
          go_ret
          exact ⟨by rw [hF.out]; rfl, BEL.out⟩
        · have hd1 : decide (z < 1) = false := by simp; omega
          have hz9 : z > 9 := by omega
          clear hin hlook
          go_wp2_with fail
          go_ret
          exact ⟨by rw [hF.out]; rfl, BEL.out⟩
    · obtain rfl : k = zs.length := by omega
      have hF := Lib.hid (show whoE zs = 0 from by
        unfold whoE
        have := HPB.out
        rw [List.take_length] at this
        rw [if_pos this])
      go_wp2_with fail
      go_ret
      exact ⟨by rw [hF.out]; rfl, BEL.out⟩
end Go.Proofs.Ytegmeepogjijiaa
