/- Lists of lists: a row appended to, in its place. -/
import Derived.Test.YtljpangeodgbkaaDoorGrid
import Derived.Maps.AppendAt
import Derived.Deep.AppendLies
namespace Go.Proofs.YtljpangeodgbkaaDoor
open Go.RowKit Croft
theorem Grid.pushed {w w' : World} {base g n c i : Nat} {x x' : Value} {r ds : List Int} {vs : List Value} {rows : List (List Int)} (h : Grid w base (.slice (some ⟨g, 0, none⟩) n c) vs rows) (hv : vs[i]? = some x) (hr : rows[i]? = some r)
    (h1 : OwnNums w' base x' (r ++ ds)) (h2 : w.grownBy w' x.ownBlock) (h3 : x'.ownBlock = x.ownBlock ∨ x'.ownBlock = some w.heap.size) :
    w'.cell? ⟨g, i, none⟩ = some x ∧ w'.frozen? ⟨g, i, none⟩ = false ∧ Grid (w'.setCell ⟨g, i, none⟩ x') base (.slice (some ⟨g, 0, none⟩) n c) (vs.set i x') (rows.set i (r ++ ds)) := by
  have hn : n = rows.length := by
    rcases h.outer.2 with ⟨hv, _⟩ | ⟨g', cap, cur, hv, _⟩
    · simp at hv
    · injection hv
  subst hn
  have hvl := h.vlen
  have hil := (List.getElem?_eq_some_iff.1 hv).1
  have hneq : x.ownBlock ≠ some g := fun hx => kinds_apart (h.row i x r hv hr).1 h.outer (by decide) hx rfl
  have hout := h.outer.kept h2 (.inr (fun e => hneq e.symm))
  have hoth : ∀ (k : Nat) (y : Value) (s : List Int), k ≠ i → vs[k]? = some y → rows[k]? = some s → OwnNums w' base y s := fun k y s hk hy hs =>
    (h.row k y s hy hs).kept h2 (by
      cases hyb : y.ownBlock with
      | none => exact .inl rfl
      | some b => exact .inr fun e => hk (h.apart k i y x b hy hv hyb e.symm))
  have hg := set_grown w' g i x'
  refine ⟨by rw [hout.cellAt i (by omega), hv], hout.frozenAt i, ?_⟩
  refine ⟨by rw [List.length_set]; exact (hout.stored i x').1, by simpa using h.len, fun k y s hy hs => ?_, fun k l y z b hy hz hyb hzb => ?_⟩
  · by_cases hk : k = i
    · subst hk
      rw [List.getElem?_set_self hil] at hy
      rw [List.getElem?_set_self (by omega)] at hs
      obtain rfl := Option.some.inj hy
      obtain rfl := Option.some.inj hs
      exact h1.kept hg (.inr fun hb => kinds_apart h1.1 hout (by decide) hb rfl)
    · rw [List.getElem?_set_ne (Ne.symm hk)] at hy hs
      have ho := hoth k y s hk hy hs
      exact ho.kept hg (.inr fun hb => kinds_apart ho.1 hout (by decide) hb rfl)
  · have far : ∀ (k : Nat) (y : Value) (b : Nat), k ≠ i → vs[k]? = some y → y.ownBlock = some b → x'.ownBlock ≠ some b := fun k y b hk hy hyb hxb => by
      have hkl := (List.getElem?_eq_some_iff.1 hy).1
      rcases h3 with h3 | h3
      · rw [h3] at hxb
        exact hk (h.apart k i y x b hy hv hyb hxb)
      · rw [h3] at hxb
        have := ((h.row k y _ hy (List.getElem?_eq_getElem (by omega))).1.lt b hyb).2
        injection hxb with hxb
        omega
    by_cases hk : k = i
    · subst hk
      rw [List.getElem?_set_self hil] at hy
      obtain rfl := Option.some.inj hy
      by_cases hl : l = k
      · exact hl.symm
      · rw [List.getElem?_set_ne (Ne.symm hl)] at hz
        exact absurd hyb (far l z b hl hz hzb)
    · rw [List.getElem?_set_ne (Ne.symm hk)] at hy
      by_cases hl : l = i
      · subst hl
        rw [List.getElem?_set_self hil] at hz
        obtain rfl := Option.some.inj hz
        exact absurd hzb (far k y b hk hy hyb)
      · rw [List.getElem?_set_ne (Ne.symm hl)] at hz
        exact h.apart k l y z b hy hz hyb hzb
/-- append of one number to a row, before it is stored back -/
theorem wpList_push_grid {ops : Array Oper} {rest : List Oper} {o : Oper} {a : Act} {Q : Exit → Act → World → Prop} {w : World} (hgd : o.guard = none) (s x : Operand)
    (ho : o.op = .call { callee := .builtin .append, args := #[s, x], argTypes := #[35, 35] })
    (base g n c i : Nat) (v : Value) (vs : List Value) (rows : List (List Int)) (r : List Int) (z : Int) (gg cc : Nat) (hs : a.eval s = v) (hgr : Grid w base (.slice (some ⟨g, 0, none⟩) n c) vs rows) (hv : vs[i]? = some v) (hr : rows[i]? = some r) (hx : a.eval x = .slice (some ⟨gg, 0, none⟩) 1 cc)
    (hc : w.cell? ⟨gg, 0, none⟩ = some (.int .u64 z)) (hz : U64 z) (hl : r.length + 1 ≤ 17592186043904) (hb : base ≤ w.heap.size)
    (h : ∀ A cap w', w'.cell? ⟨g, i, none⟩ = some v → w'.frozen? ⟨g, i, none⟩ = false → Grid (w'.setCell ⟨g, i, none⟩ (.slice A (r.length + 1) cap)) base (.slice (some ⟨g, 0, none⟩) n c) (vs.set i (.slice A (r.length + 1) cap)) (rows.set i (r ++ [z])) → Below base w w' → w.grownBy w' v.ownBlock → ((Value.slice A (r.length + 1) cap).ownBlock = v.ownBlock ∨ (Value.slice A (r.length + 1) cap).ownBlock = some w.heap.size) → wpList Tryd.prog ops Q rest (a.put o.dst (.slice A (r.length + 1) cap)) w') : wpList Tryd.prog ops Q (o :: rest) a w := by
  obtain ⟨i0, hi, hz0, hz1, hz2⟩ := info_parts uinfo
  have hown := hgr.row i v r hv hr
  refine wpList_append_own_at (w := w) hgd s x 35 ho base 46 i0 (.int .u64 0) 1 8 Tryd.underlying35 hi hz0 hz1 hz2 rfl (by decide) v r.length (u64s r) hs hown.1 ⟨gg, 0, none⟩ 1 cc [.int .u64 z] hx rfl ?_ ?_ ?_ ?_ hb ?_
  · intro j u hu
    match j, hu with
    | 0, hu =>
      simp at hu
      subst hu
      rw [add_addr]; exact hc
  · intro u hu
    simp at hu
    subst hu; rfl
  · unfold maxLen; omega
  · omega
  · intro v' w' h1 h2 _ h4
    obtain ⟨A, cap, rfl, _, _⟩ := own_form h1
    have hown' : OwnNums w' base (.slice A (r.length + 1) cap) (r ++ [z]) := by
      refine ⟨?_, by simpa using hl, fun y hy => ?_⟩
      · have e : (r ++ [z]).length = r.length + 1 := by simp
        have e2 : u64s (r ++ [z]) = u64s r ++ [.int .u64 z] := by simp [u64s]
        rw [e, e2]; exact h1
      · rcases List.mem_append.1 hy with h5 | h5
        · exact hown.2.2 y h5
        · simp at h5; subst h5; exact hz
    obtain ⟨k1, k2, k3⟩ := hgr.pushed hv hr hown' h2 h4
    exact h A cap w' k1 k2 k3 ((Below.refl _ _).grown h2 hb (fun k hk => (hown.1.lt k hk).1)) h2 h4
/-- the same at a step of a region that draws -/
theorem step_push_grid {ops : Array Oper} {o : Oper} {a : Act} {K : Act → World → Prop} {Q : Exit → Act → World → Prop} {E : Prop} {w : World} (hgd : o.guard = none) (s x : Operand)
    (ho : o.op = .call { callee := .builtin .append, args := #[s, x], argTypes := #[35, 35] })
    (base g n c i : Nat) (v : Value) (vs : List Value) (rows : List (List Int)) (r : List Int) (z : Int) (gg cc : Nat) (hs : a.eval s = v) (hgr : Grid w base (.slice (some ⟨g, 0, none⟩) n c) vs rows) (hv : vs[i]? = some v) (hr : rows[i]? = some r) (hx : a.eval x = .slice (some ⟨gg, 0, none⟩) 1 cc)
    (hc : w.cell? ⟨gg, 0, none⟩ = some (.int .u64 z)) (hz : U64 z) (hl : r.length + 1 ≤ 17592186043904) (hb : base ≤ w.heap.size)
    (h : ∀ b cap w', w'.cell? ⟨g, i, none⟩ = some v → w'.frozen? ⟨g, i, none⟩ = false → Grid (w'.setCell ⟨g, i, none⟩ (.slice (some ⟨b, 0, none⟩) (r.length + 1) cap)) base (.slice (some ⟨g, 0, none⟩) n c) (vs.set i (.slice (some ⟨b, 0, none⟩) (r.length + 1) cap)) (rows.set i (r ++ [z])) → Below base w w' → w.grownBy w' v.ownBlock → K (a.put o.dst (.slice (some ⟨b, 0, none⟩) (r.length + 1) cap)) w') : if Region.wanted o (yielded ops a.tmps) = true then Oper.wp Tryd.prog o a w K Q else E := by
  obtain ⟨i0, hi, hz0, hz1, hz2⟩ := info_parts uinfo
  have hown := hgr.row i v r hv hr
  refine step_append_lies w hgd s x 35 ho base 46 i0 (.int .u64 0) 1 8 Tryd.underlying35 hi hz0 hz1 hz2 rfl (by decide) v r.length (u64s r) hs hown.1 ⟨gg, 0, none⟩ 1 cc [.int .u64 z] hx rfl ?_ ?_ (by omega) ?_ ?_ hb _ rfl ?_
  · intro j u hu
    match j, hu with
    | 0, hu =>
      simp at hu
      subst hu
      rw [add_addr]; exact hc
  · intro u hu
    simp at hu
    subst hu; rfl
  · unfold maxLen; omega
  · omega
  · intro b cap w' h1 h2 h4 _
    have hown' : OwnNums w' base (.slice (some ⟨b, 0, none⟩) (r.length + 1) cap) (r ++ [z]) := by
      refine ⟨?_, by simpa using hl, fun y hy => ?_⟩
      · have e : (r ++ [z]).length = r.length + 1 := by simp
        have e2 : u64s (r ++ [z]) = u64s r ++ [.int .u64 z] := by simp [u64s]
        rw [e, e2]; exact h1
      · rcases List.mem_append.1 hy with h5 | h5
        · exact hown.2.2 y h5
        · simp at h5; subst h5; exact hz
    obtain ⟨k1, k2, k3⟩ := hgr.pushed hv hr hown' h2 (by
      rcases h4 with h4 | h4
      · left; rw [h4]; rfl
      · right; rw [h4]; rfl)
    exact h b cap w' k1 k2 k3 ((Below.refl _ _).grown h2 hb (fun k hk => (hown.1.lt k hk).1)) h2
/-- a list of another kind is left alone -/
theorem own_apart {w w' : World} {b1 b2 : Nat} {e1 e2 : TypeId} {s1 s2 n1 n2 : Nat} {v1 v2 : Value} {x1 x2 : List Value} (h1 : w.ownsRow b1 e1 s1 v1 n1 x1) (h2 : w.ownsRow b2 e2 s2 v2 n2 x2) (hne : e1 ≠ e2) (hg : w.grownBy w' v2.ownBlock) : w'.ownsRow b1 e1 s1 v1 n1 x1 :=
  h1.kept hg (by
    cases hb : v1.ownBlock with
    | none => exact .inl rfl
    | some b => exact .inr fun e => kinds_apart h1 h2 hne hb e.symm)
theorem Grid.apart_kept {w w' : World} {base b2 : Nat} {e2 : TypeId} {s2 n2 : Nat} {v v2 : Value} {x2 : List Value} {vs : List Value} {rows : List (List Int)} (h : Grid w base v vs rows) (h2 : w.ownsRow b2 e2 s2 v2 n2 x2) (hne1 : 35 ≠ e2) (hne2 : 46 ≠ e2) (hg : w.grownBy w' v2.ownBlock) : Grid w' base v vs rows :=
  ⟨own_apart h.outer h2 hne1 hg, h.len, fun i x r hx hr => ⟨own_apart (h.row i x r hx hr).1 h2 hne2 hg, (h.row i x r hx hr).2⟩, h.apart⟩
/-- a grid, in a later world, from an earlier block on -/
theorem Grid.less_below {w a b : World} {base B : Nat} {v : Value} {vs : List Value} {rows : List (List Int)} (h : Grid a base v vs rows) (_hab : Below B w a) (hb : Below a.heap.size a b) (hbase : B ≤ base := by omega) : Grid b B v vs rows := by
  have h2 := h.below hb
  have less : ∀ {e : TypeId} {s n : Nat} {v : Value} {xs : List Value}, b.ownsRow base e s v n xs → b.ownsRow B e s v n xs := fun {e s n v xs} h => by
    refine ⟨h.1, ?_⟩
    rcases h.2 with h1 | ⟨g, cap, cur, hv, hg, r⟩
    · exact .inl h1
    · exact .inr ⟨g, cap, cur, hv, by omega, r⟩
  exact ⟨less h2.outer, h2.len, fun i x r hx hr => (h2.row i x r hx hr).less hbase, h2.apart⟩
end Go.Proofs.YtljpangeodgbkaaDoor
