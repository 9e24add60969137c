/- Appending, to what the call has made: with all that is left alone. -/
import Derived.Test.YtljpangeodgbkaaDoorMulW
namespace Go.Proofs.YtljpangeodgbkaaDoor
open Go.RowKit Croft

/-- two lists that lie in different blocks -/
def Far (u v : Value) : Prop := ∀ b, u.ownBlock = some b → v.ownBlock ≠ some b
theorem Far.symm {u v : Value} (h : Far u v) : Far v u := fun b h1 h2 => h b h2 h1
theorem Far.nil (u : Value) : Far u (.slice none 0 0) := fun b _ h => by simp [Value.ownBlock] at h
theorem Far.nil_ (u : Value) : Far (.slice none 0 0) u := (Far.nil u).symm
theorem Far.grow {u v v' : Value} {N : Nat} (h : Far u v) (hu : ∀ b, u.ownBlock = some b → b < N) (h4 : v'.ownBlock = v.ownBlock ∨ v'.ownBlock = some N) : Far u v' := fun b h1 h2 => by
  rcases h4 with h4 | h4
  · rw [h4] at h2; exact h b h1 h2
  · rw [h4] at h2
    have := hu b h1
    injection h2 with h2
    omega
theorem Far.kept {u v : Value} (h : Far u v) : u.ownBlock = none ∨ u.ownBlock ≠ v.ownBlock := by
  cases hu : u.ownBlock with
  | none => exact .inl rfl
  | some b => exact .inr fun e => h b hu e.symm
theorem OwnInts.kept {w w' : World} {base : Nat} {v : Value} {zs : List Int} {row : Option Nat} (h : OwnInts w base v zs) (hg : w.grownBy w' row) (hne : v.ownBlock = none ∨ v.ownBlock ≠ row) : OwnInts w' base v zs := ⟨h.1.kept hg hne, h.2⟩
theorem OwnInts.under {w : World} {base : Nat} {v : Value} {zs : List Int} (h : OwnInts w base v zs) (b : Nat) (hb : v.ownBlock = some b) : b < w.heap.size := (h.1.lt b hb).2
theorem OwnNums.under {w : World} {base : Nat} {v : Value} {zs : List Int} (h : OwnNums w base v zs) (b : Nat) (hb : v.ownBlock = some b) : b < w.heap.size := (h.1.lt b hb).2
theorem wpList_push_int4 {ops : Array Oper} {rest : List Oper} {o : Oper} {a : Act} {Q : Exit → Act → World → Prop} {w : World} (hgd : o.guard = none) (s x : Operand)
    (ho : o.op = .call { callee := .builtin .append, args := #[s, x], argTypes := #[23, 23] })
    (base : Nat) (v : Value) (zs : List Int) (z : Int) (g c : Nat) (hs : a.eval s = v) (hown : OwnInts w base v zs) (hx : a.eval x = .slice (some ⟨g, 0, none⟩) 1 c)
    (hc : w.cell? ⟨g, 0, none⟩ = some (.int .i64 z)) (hz : I64 z) (hl : zs.length + 1 ≤ 17592186043904) (hb : base ≤ w.heap.size)
    (h : ∀ v' w', OwnInts w' base v' (zs ++ [z]) → Below base w w' → w.grownBy w' v.ownBlock → (v'.ownBlock = v.ownBlock ∨ v'.ownBlock = some w.heap.size) → wpList Tryd.prog ops Q rest (a.put o.dst v') w') : wpList Tryd.prog ops Q (o :: rest) a w := by
  obtain ⟨i0, hi, hz0, hz1, hz2⟩ := info_parts iinfo
  refine wpList_append_own_at w hgd s x 23 ho base 3 i0 (.int .i64 0) 1 8 Tryd.underlying23 hi hz0 hz1 hz2 rfl (by decide) v zs.length (i64s zs) hs hown.1 ⟨g, 0, none⟩ 1 c [.int .i64 z] hx rfl ?_ ?_ ?_ ?_ hb ?_
  · intro j u hu
    match j, hu with
    | 0, hu =>
      simp at hu
      subst hu
      rw [add_addr]; exact hc
  · intro u hu
    simp at hu
    subst hu; rfl
  · unfold maxLen; omega
  · omega
  · intro v' w' h1 h2 _ h4
    refine h v' w' ⟨?_, ?_, ?_⟩ ((Below.refl _ _).grown h2 hb (fun k hk => (hown.1.lt k hk).1)) h2 h4
    · have e : (zs ++ [z]).length = zs.length + 1 := by simp
      have e2 : i64s (zs ++ [z]) = i64s zs ++ [.int .i64 z] := by simp [i64s]
      rw [e, e2]; exact h1
    · simpa using hl
    · intro y hy
      rcases List.mem_append.1 hy with h3 | h3
      · exact hown.2.2 y h3
      · simp at h3; subst h3; exact hz
/-- append of one row, to what the call has built -/
theorem wpList_push_row4 {ops : Array Oper} {rest : List Oper} {o : Oper} {a : Act} {Q : Exit → Act → World → Prop} {w : World} (hgd : o.guard = none) (s x : Operand)
    (ho : o.op = .call { callee := .builtin .append, args := #[s, x], argTypes := #[41, 41] })
    (base : Nat) (v : Value) (vs : List Value) (rows : List (List Int)) (y : Value) (r : List Int) (g c : Nat) (hs : a.eval s = v) (hown : Grid w base v vs rows) (hx : a.eval x = .slice (some ⟨g, 0, none⟩) 1 c)
    (hc : w.cell? ⟨g, 0, none⟩ = some y) (hy : OwnNums w base y r) (hfar : ∀ (k : Nat) (z : Value) (b : Nat), vs[k]? = some z → z.ownBlock = some b → y.ownBlock ≠ some b) (hl : rows.length + 1 ≤ 5864062014805) (hb : base ≤ w.heap.size)
    (h : ∀ v' w', Grid w' base v' (vs ++ [y]) (rows ++ [r]) → Below base w w' → w.grownBy w' v.ownBlock → (v'.ownBlock = v.ownBlock ∨ v'.ownBlock = some w.heap.size) → wpList Tryd.prog ops Q rest (a.put o.dst v') w') : wpList Tryd.prog ops Q (o :: rest) a w := by
  obtain ⟨i0, hi, hz0, hz1, hz2⟩ := info_parts linfo
  refine wpList_append_own_at w hgd s x 41 ho base 35 i0 (.slice none 0 0) 1 24 Tryd.underlying41 hi hz0 hz1 hz2 rfl (by decide) v rows.length vs hs hown.outer ⟨g, 0, none⟩ 1 c [y] hx rfl ?_ ?_ ?_ ?_ hb ?_
  · intro j u hu
    match j, hu with
    | 0, hu =>
      simp at hu
      subst hu
      rw [add_addr]; exact hc
  · intro u hu
    simp at hu
    subst hu
    obtain ⟨A, cap, rfl, _, _⟩ := own_form hy.1
    rfl
  · unfold maxLen; omega
  · omega
  · intro v' w' h1 h2 _ h4
    have kept : ∀ (z : Value) (q : List Int), OwnNums w base z q → OwnNums w' base z q := fun z q hz => hz.kept h2 (by
      cases hzb : z.ownBlock with
      | none => exact .inl rfl
      | some b => exact .inr fun hvb => kinds_apart hz.1 hown.outer (by decide) hzb hvb.symm)
    refine h v' w' ⟨?_, by simpa using hl, fun k z q hz hq => ?_, fun k l z z' b hz hz' hzb hzb' => ?_⟩ ((Below.refl _ _).grown h2 hb (fun k hk => (hown.outer.lt k hk).1)) h2 h4
    · have e : (rows ++ [r]).length = rows.length + 1 := by simp
      rw [e]; exact h1
    · have hvl := hown.vlen
      rcases Nat.lt_or_ge k vs.length with hk | hk
      · rw [List.getElem?_append_left hk] at hz
        rw [List.getElem?_append_left (by omega)] at hq
        exact kept z q (hown.row k z q hz hq)
      · rw [List.getElem?_append_right hk] at hz
        rw [List.getElem?_append_right (by omega), ← hvl] at hq
        have h0 : k - vs.length = 0 := by
          have := (List.getElem?_eq_some_iff.1 hz).1
          simpa using this
        rw [h0] at hz hq
        simp at hz hq
        subst hz hq
        exact kept _ _ hy
    · have at_ : ∀ {k : Nat} {z : Value}, (vs ++ [y])[k]? = some z → vs[k]? = some z ∨ k = vs.length ∧ z = y := fun {k z} hz => by
        rcases Nat.lt_or_ge k vs.length with hk | hk
        · rw [List.getElem?_append_left hk] at hz; exact .inl hz
        · rw [List.getElem?_append_right hk] at hz
          have h0 : k - vs.length = 0 := by
            have := (List.getElem?_eq_some_iff.1 hz).1
            simpa using this
          rw [h0] at hz
          simp at hz
          exact .inr ⟨by omega, hz.symm⟩
      rcases at_ hz with h3 | ⟨h3, rfl⟩
      · rcases at_ hz' with h4 | ⟨h4, rfl⟩
        · exact hown.apart k l z z' b h3 h4 hzb hzb'
        · exact absurd hzb' (hfar k z b h3 hzb)
      · rcases at_ hz' with h4 | ⟨h4, rfl⟩
        · exact absurd hzb (hfar l z' b h4 hzb')
        · omega
end Go.Proofs.YtljpangeodgbkaaDoor
