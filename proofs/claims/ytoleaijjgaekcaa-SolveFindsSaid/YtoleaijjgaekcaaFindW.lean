/- Lists of lists, cloned. -/
import Derived.Test.YtoleaijjgaekcaaFindP
import Derived.Test.YtoleaijjgaekcaaPushW
import Derived.Test.YtoleaijjgaekcaaKeepW
namespace Go.Proofs.Ytoleaijjgaekcaa
open Go.RowKit Croft

theorem lit_rows0 (w : World) (base : Nat) (hb : base ≤ w.heap.size) : (w.alloc (.cells #[] 23)).ownsRow base 23 1 (.slice (some ⟨w.heap.size, 0, none⟩) 0 0) 0 [] := by
  refine ⟨rfl, .inr ⟨w.heap.size, 0, #[], rfl, hb, heap_alloc_new w _, Nat.le_refl _, by unfold maxLen; omega, by simp, rfl⟩⟩
/-- append of all of a list of lists, to an empty one -/
theorem wpList_join_rows {ops : Array Oper} {rest : List Oper} {o : Oper} {a : Act} {Q : Exit → Act → World → Prop} {w : World} (hgd : o.guard = none) (s x : Operand)
    (ho : o.op = .call { callee := .builtin .append, args := #[s, x], argTypes := #[22, 22] })
    (base base2 : Nat) (v : Value) (g c m : Nat) (vs : List Value) (rows : List (List Int)) (hs : a.eval s = v) (hown : w.ownsRow base2 23 1 v 0 []) (hx : a.eval x = .slice (some ⟨g, 0, none⟩) m c) (hy : Grid w base (.slice (some ⟨g, 0, none⟩) m c) vs rows) (hm : m = rows.length) (hb : base2 ≤ w.heap.size) (hbb : base ≤ base2)
    (h : ∀ v' w', Grid w' base v' vs rows → Below base2 w w' → (∀ b, v'.ownBlock = some b → base2 ≤ b) → wpList Try.prog ops Q rest (a.put o.dst v') w') : wpList Try.prog ops Q (o :: rest) a w := by
  obtain ⟨i0, hi, hz0, hz1, hz2⟩ := info_parts linfo
  have hvl := hy.vlen
  have hl := hy.len
  refine wpList_append_own w hgd s x 22 ho base2 23 i0 (.slice none 0 0) 1 24 Try.underlying22 hi hz0 hz1 hz2 rfl (by decide) v 0 [] hs hown ⟨g, 0, none⟩ m c vs hx (by omega) ?_ ?_ ?_ ?_ hb ?_
  · intro j u hu
    rw [add_addr, Nat.zero_add]
    exact hy.cell hu
  · intro u hu
    obtain ⟨j, hj⟩ := List.getElem?_of_mem hu
    have hjl := (List.getElem?_eq_some_iff.1 hj).1
    rw [hvl] at hjl
    obtain ⟨A, cap, rfl, _, _⟩ := own_form (hy.row j u _ hj (List.getElem?_eq_getElem hjl)).1
    rfl
  · unfold maxLen; omega
  · omega
  · intro v' w' h1 h2 _
    have e : 0 + m = rows.length := by omega
    rw [e, List.nil_append] at h1
    refine h v' w' ⟨?_, hl, fun k z q hz hq => ?_, hy.apart⟩ ((Below.refl _ _).grown h2 hb (fun k hk => (hown.lt k hk).1)) (fun b hbv => (h1.lt b hbv).1)
    · refine ⟨h1.1, ?_⟩
      rcases h1.2 with h3 | ⟨g', cap, cur, hv, hbg, r⟩
      · exact .inl h3
      · exact .inr ⟨g', cap, cur, hv, by omega, r⟩
    · have hrow := hy.row k z q hz hq
      exact hrow.kept h2 (by
        cases hzb : z.ownBlock with
        | none => exact .inl rfl
        | some b => exact .inr fun hvb => kinds_apart hrow.1 hown (by decide) hzb hvb.symm)
set_option maxRecDepth 100000 in
theorem gClone_any (base g c m : Nat) (vs : List Value) (rows : List (List Int)) (w : World) (h1 : Grid w base (.slice (some ⟨g, 0, none⟩) m c) vs rows) (hm : m = rows.length) (hb : base ≤ w.heap.size) :
    Calls Try.prog 23 #[.slice (some ⟨g, 0, none⟩) m c] w fun e w' => ∃ v, e = .returned v ∧ Grid w' base v vs rows ∧ Below w.heap.size w w' ∧ (∀ b, v.ownBlock = some b → w.heap.size ≤ b) := by
  have KA := Lib.hid h1
  have KO := Lib.hid (lit_rows0 w w.heap.size (Nat.le_refl _))
  have hnil : ∀ W, (binOp .eql 22 (.slice (some ⟨g, 0, none⟩) m c) (.slice none 0 0)).run Try.prog W = .ok (.bool false) W := fun W => Lib.run_eql_slice_nil W _ _ _ _ _ _ _ Try.underlying22
  have HM := Lib.hid hm
  clear h1 hm
  go_enter Try.func23, Try.ntmps23
  go_wp2_with (at_builtin; go_loud (refine wpList_join_rows rfl _ _ rfl base w.heap.size _ g c m vs rows rfl KO.out rfl (KA.out.alloc _) HM.out (by rw [size_alloc]; omega) hb ?_))
  intro v' w' ho hbel hov
  have K := Lib.hid ho
  have B := Lib.hid (((Below.refl w.heap.size w).alloc (Nat.le_refl _) (.cells #[] 23)).trans hbel)
  have HOV := Lib.hid hov
  clear ho hbel hov
  go_wp2_with fail
  go_ret
  exact ⟨_, rfl, K.out, B.out, HOV.out⟩
end Go.Proofs.Ytoleaijjgaekcaa
