/- Lists of lists of numbers: how they lie in memory, and how a call builds and changes them. -/
import Derived.Test.YtljpangeodgbkaaDoorPolyD
namespace Go.Proofs.YtljpangeodgbkaaDoor
open Go.RowKit Croft

/-- these slice values hold these lists -/
def AllNums (w : World) (vs : List Value) (rows : List (List Int)) : Prop := vs.length = rows.length ∧ ∀ (i : Nat) (x : Value) (r : List Int), vs[i]? = some x → rows[i]? = some r → IsNums w x r
theorem AllNums.below {w w' : World} {vs : List Value} {rows : List (List Int)} (h : AllNums w vs rows) (hb : Below w.heap.size w w') : AllNums w' vs rows := ⟨h.1, fun i x r hx hr => (h.2 i x r hx hr).below hb⟩
theorem AllNums.drewN {w : World} {vs : List Value} {rows : List (List Int)} (h : AllNums w vs rows) (n : Nat) : AllNums (w.drewN n) vs rows := h
theorem AllNums.nil (w : World) : AllNums w [] [] := ⟨rfl, fun i x r hx => by simp at hx⟩
theorem AllNums.snoc {w : World} {vs : List Value} {rows : List (List Int)} {x : Value} {r : List Int} (h : AllNums w vs rows) (hx : IsNums w x r) : AllNums w (vs ++ [x]) (rows ++ [r]) := by
  refine ⟨by simp [h.1], fun i y s hy hs => ?_⟩
  rcases Nat.lt_or_ge i vs.length with hi | hi
  · rw [List.getElem?_append_left hi] at hy
    rw [List.getElem?_append_left (by rw [← h.1]; exact hi)] at hs
    exact h.2 i y s hy hs
  · rw [List.getElem?_append_right hi] at hy
    rw [List.getElem?_append_right (by rw [← h.1]; exact hi), ← h.1] at hs
    have h0 : i - vs.length = 0 := by
      have := (List.getElem?_eq_some_iff.1 hy).1
      simpa using this
    rw [h0] at hy hs
    simp at hy hs
    subst hy hs
    exact hx
def IsNumss (w : World) (v : Value) (rows : List (List Int)) : Prop :=
  ∃ A cap vs, v = .slice A rows.length cap ∧ rows.length ≤ cap ∧ cap ≤ maxLen ∧ rows.length ≤ 5864062014805 ∧ Cells w A vs ∧ AllNums w vs rows
theorem IsNumss.below {w w' : World} {v : Value} {rows : List (List Int)} (h : IsNumss w v rows) (hb : Below w.heap.size w w') : IsNumss w' v rows := by
  obtain ⟨A, cap, vs, h1, h2, h3, h4, h5, h6⟩ := h
  exact ⟨A, cap, vs, h1, h2, h3, h4, h5.below hb, h6.below hb⟩
theorem IsNumss.drewN {w : World} {v : Value} {rows : List (List Int)} (h : IsNumss w v rows) (n : Nat) : IsNumss (w.drewN n) v rows := h
theorem numss_at {w : World} {A : Option Addr} {vs : List Value} {rows : List (List Int)} (h : Cells w A vs) (h2 : AllNums w vs rows) {k : Nat} (hk : k < rows.length) :
    ∃ b o x r, A = some ⟨b, o, none⟩ ∧ b < w.heap.size ∧ vs[k]? = some x ∧ rows[k]? = some r ∧ IsNums w x r ∧ w.cell? ⟨b, o + k, none⟩ = some x := by
  have hk2 : k < vs.length := by rw [h2.1]; exact hk
  obtain ⟨b, o, rfl, hb, hc⟩ := h.at_ hk2
  refine ⟨b, o, vs[k], rows[k], rfl, hb, List.getElem?_eq_getElem hk2, List.getElem?_eq_getElem hk, h2.2 k _ _ (List.getElem?_eq_getElem hk2) (List.getElem?_eq_getElem hk), ?_⟩
  rw [hc k hk2, List.getElem?_eq_getElem hk2]
/-- a list of lists that the call has made: rows in blocks of their own -/
structure Grid (w : World) (base : Nat) (v : Value) (vs : List Value) (rows : List (List Int)) : Prop where
  outer : w.ownsRow base 35 1 v rows.length vs
  len : rows.length ≤ 5864062014805
  row : ∀ (i : Nat) (x : Value) (r : List Int), vs[i]? = some x → rows[i]? = some r → OwnNums w base x r
  apart : ∀ (i j : Nat) (x y : Value) (b : Nat), vs[i]? = some x → vs[j]? = some y → x.ownBlock = some b → y.ownBlock = some b → i = j
theorem Grid.below {w w' : World} {base : Nat} {v : Value} {vs : List Value} {rows : List (List Int)} (h : Grid w base v vs rows) (hb : Below w.heap.size w w') : Grid w' base v vs rows :=
  ⟨own_kept h.outer hb, h.len, fun i x r hx hr => (h.row i x r hx hr).below hb, h.apart⟩
theorem Grid.drewN {w : World} {base : Nat} {v : Value} {vs : List Value} {rows : List (List Int)} (h : Grid w base v vs rows) (n : Nat) : Grid (w.drewN n) base v vs rows := ⟨h.outer, h.len, h.row, h.apart⟩
theorem Grid.alloc {w : World} {base : Nat} {v : Value} {vs : List Value} {rows : List (List Int)} (h : Grid w base v vs rows) (o : Obj) : Grid (w.alloc o) base v vs rows :=
  h.below ((Below.refl _ _).alloc (Nat.le_refl _) o)
theorem Grid.nil (w : World) (base : Nat) : Grid w base (.slice none 0 0) [] [] :=
  ⟨World.ownsRow_nil _ _ _ _, by simp, fun i x r hx => by simp at hx, fun i j x y b hx => by simp at hx⟩
theorem Grid.vlen {w : World} {base : Nat} {v : Value} {vs : List Value} {rows : List (List Int)} (h : Grid w base v vs rows) : vs.length = rows.length := by
  have := h.outer.1; omega
theorem Grid.is {w : World} {base : Nat} {v : Value} {vs : List Value} {rows : List (List Int)} (h : Grid w base v vs rows) : IsNumss w v rows := by
  obtain ⟨A, cap, rfl, h4, h5⟩ := own_form h.outer
  exact ⟨A, cap, vs, rfl, h4, h5, h.len, Cells.of_own h.outer, h.vlen, fun i x r hx hr => (h.row i x r hx hr).is⟩
theorem own_block_form {w : World} {base : Nat} {e : TypeId} {size n : Nat} {v : Value} {xs : List Value} {g : Nat} (h : w.ownsRow base e size v n xs) (hg : v.ownBlock = some g) : ∃ cur, w.heap[g]? = some (.cells cur e (0, 0)) := by
  rcases h.2 with ⟨rfl, _⟩ | ⟨g', cap, cur, rfl, _, hgg, _⟩
  · simp [Value.ownBlock] at hg
  · simp [Value.ownBlock] at hg
    subst hg
    exact ⟨cur, hgg⟩
/-- rows of different kinds lie apart -/
theorem kinds_apart {w : World} {b1 b2 : Nat} {e1 e2 : TypeId} {s1 s2 n1 n2 : Nat} {v1 v2 : Value} {x1 x2 : List Value} {g : Nat} (h1 : w.ownsRow b1 e1 s1 v1 n1 x1) (h2 : w.ownsRow b2 e2 s2 v2 n2 x2) (hne : e1 ≠ e2) (hg : v1.ownBlock = some g) : v2.ownBlock ≠ some g := by
  intro hg2
  obtain ⟨c1, k1⟩ := own_block_form h1 hg
  obtain ⟨c2, k2⟩ := own_block_form h2 hg2
  rw [k1] at k2
  injection k2 with k2
  injection k2 with _ k2
  exact hne k2
theorem set_grown (w : World) (g j : Nat) (u : Value) : w.grownBy (w.setCell ⟨g, j, none⟩ u) (some g) :=
  ⟨rfl, rfl, rfl, by simp [World.setCell], fun i _ hi => Below.heap_setCell _ _ _ _ (by rintro rfl; exact hi rfl)⟩
theorem OwnNums.kept {w w' : World} {base : Nat} {v : Value} {zs : List Int} {row : Option Nat} (h : OwnNums w base v zs) (hg : w.grownBy w' row) (hne : v.ownBlock = none ∨ v.ownBlock ≠ row) : OwnNums w' base v zs := ⟨h.1.kept hg hne, h.2⟩
section
variable {w : World} {base : Nat} {v : Value} {vs : List Value} {rows : List (List Int)}
theorem Grid.cell {g n c : Nat} (h : Grid w base (.slice (some ⟨g, 0, none⟩) n c) vs rows) {i : Nat} {x : Value} (hx : vs[i]? = some x) : w.cell? ⟨g, i, none⟩ = some x := by
  have hn : n = rows.length := by
    rcases h.outer.2 with ⟨hv, _⟩ | ⟨g', cap, cur, hv, _⟩
    · simp at hv
    · injection hv
  subst hn
  have hi := (List.getElem?_eq_some_iff.1 hx).1
  have hl := h.vlen
  rw [h.outer.cellAt i (by omega), hx]
theorem Grid.frozen {g n c : Nat} (h : Grid w base (.slice (some ⟨g, 0, none⟩) n c) vs rows) (i : Nat) : w.frozen? ⟨g, i, none⟩ = false := by
  have hn : n = rows.length := by
    rcases h.outer.2 with ⟨hv, _⟩ | ⟨g', cap, cur, hv, _⟩
    · simp at hv
    · injection hv
  subst hn
  exact h.outer.frozenAt i
/-- a row of some length, in its block -/
theorem Grid.at_ (h : Grid w base v vs rows) {i : Nat} {r : List Int} (hr : rows[i]? = some r) (hp : 0 < r.length) : ∃ b c, vs[i]? = some (.slice (some ⟨b, 0, none⟩) r.length c) ∧ OwnNums w base (.slice (some ⟨b, 0, none⟩) r.length c) r ∧ r.length ≤ c ∧ c ≤ maxLen ∧ base ≤ b ∧ b < w.heap.size := by
  have hi : i < vs.length := by rw [h.vlen]; exact (List.getElem?_eq_some_iff.1 hr).1
  have hv : vs[i]? = some vs[i] := List.getElem?_eq_getElem hi
  have ho := h.row i _ _ hv hr
  obtain ⟨b, c, hf, hb1, hb2, hc1, hc2⟩ := ho.form hp
  rw [hf] at ho
  exact ⟨b, c, by rw [hv, hf], ho, hc1, hc2, hb1, hb2⟩
/-- a number of a row set -/
theorem Grid.setNum (h : Grid w base v vs rows) {i g n c : Nat} {r : List Int} (hv : vs[i]? = some (.slice (some ⟨g, 0, none⟩) n c)) (hr : rows[i]? = some r) (j : Nat) {z : Int} (hz : U64 z) :
    Grid (w.setCell ⟨g, j, none⟩ (.int .u64 z)) base v vs (rows.set i (r.set j z)) := by
  have hg := set_grown w g j (.int .u64 z)
  have hi := h.row i _ _ hv hr
  refine ⟨?_, by simpa using h.len, fun k x s hx hs => ?_, h.apart⟩
  · rw [List.length_set]
    refine h.outer.kept hg ?_
    exact .inr (kinds_apart hi.1 h.outer (by decide) rfl)
  · by_cases hk : k = i
    · subst hk
      obtain rfl := Option.some.inj (hv.symm.trans hx)
      rw [List.getElem?_set_self (by exact (List.getElem?_eq_some_iff.1 hr).1)] at hs
      obtain rfl := Option.some.inj hs
      exact hi.set_ j hz
    · rw [List.getElem?_set_ne (Ne.symm hk)] at hs
      refine (h.row k x s hx hs).kept hg (.inr fun hb => hk ?_)
      exact h.apart k i x _ g hx hv hb rfl
/-- a row put in place of another -/
theorem Grid.setRow (h : Grid w base v vs rows) {g n c : Nat} (hv : v = .slice (some ⟨g, 0, none⟩) n c) (i : Nat) {x : Value} {r : List Int} (hx : OwnNums w base x r) (hfar : ∀ (k : Nat) (y : Value) (b : Nat), k ≠ i → vs[k]? = some y → y.ownBlock = some b → x.ownBlock ≠ some b) :
    Grid (w.setCell ⟨g, i, none⟩ x) base v (vs.set i x) (rows.set i r) := by
  subst hv
  have hg := set_grown w g i x
  have hlen := h.vlen
  have hn : n = rows.length := by
    rcases h.outer.2 with ⟨hv, _⟩ | ⟨g', cap, cur, hv, _⟩
    · simp at hv
    · injection hv
  subst hn
  refine ⟨by rw [List.length_set]; exact (h.outer.stored i x).1, by simpa using h.len, fun k y s hy hs => ?_, fun k l y z b hy hz hyb hzb => ?_⟩
  · by_cases hk : k = i
    · subst hk
      have hlt : k < vs.length := by have := (List.getElem?_eq_some_iff.1 hy).1; simpa using this
      rw [List.getElem?_set_self hlt] at hy
      rw [List.getElem?_set_self (by omega)] at hs
      obtain rfl := Option.some.inj hy
      obtain rfl := Option.some.inj hs
      exact hx.kept hg (.inr fun hb => kinds_apart hx.1 h.outer (by decide) hb rfl)
    · rw [List.getElem?_set_ne (Ne.symm hk)] at hy hs
      have ho := h.row k y s hy hs
      exact ho.kept hg (.inr fun hb => kinds_apart ho.1 h.outer (by decide) hb rfl)
  · by_cases hk : k = i
    · subst hk
      have hlt : k < vs.length := by have := (List.getElem?_eq_some_iff.1 hy).1; simpa using this
      rw [List.getElem?_set_self hlt] at hy
      obtain rfl := Option.some.inj hy
      by_cases hl : l = k
      · exact hl.symm
      · rw [List.getElem?_set_ne (Ne.symm hl)] at hz
        exact absurd hyb (hfar l z b hl hz hzb)
    · rw [List.getElem?_set_ne (Ne.symm hk)] at hy
      by_cases hl : l = i
      · subst hl
        have hlt : l < vs.length := by have := (List.getElem?_eq_some_iff.1 hz).1; simpa using this
        rw [List.getElem?_set_self hlt] at hz
        obtain rfl := Option.some.inj hz
        exact absurd hzb (hfar k y b hk hy hyb)
      · rw [List.getElem?_set_ne (Ne.symm hl)] at hz
        exact h.apart k l y z b hy hz hyb hzb
end
theorem linfo : (Tryd.prog.info? 35).map (fun i => (i.zero, i.size, i.bytes)) = some (some (.slice none 0 0), 1, 24) := by kernel_rfl
/-- append of one row, to what the call has built -/
theorem wpList_push_row {ops : Array Oper} {rest : List Oper} {o : Oper} {a : Act} {Q : Exit → Act → World → Prop} {w : World} (hgd : o.guard = none) (s x : Operand)
    (ho : o.op = .call { callee := .builtin .append, args := #[s, x], argTypes := #[41, 41] })
    (base : Nat) (v : Value) (vs : List Value) (rows : List (List Int)) (y : Value) (r : List Int) (g c : Nat) (hs : a.eval s = v) (hown : Grid w base v vs rows) (hx : a.eval x = .slice (some ⟨g, 0, none⟩) 1 c)
    (hc : w.cell? ⟨g, 0, none⟩ = some y) (hy : OwnNums w base y r) (hfar : ∀ (k : Nat) (z : Value) (b : Nat), vs[k]? = some z → z.ownBlock = some b → y.ownBlock ≠ some b) (hl : rows.length + 1 ≤ 5864062014805) (hb : base ≤ w.heap.size)
    (h : ∀ v' w', Grid w' base v' (vs ++ [y]) (rows ++ [r]) → Below base w w' → wpList Tryd.prog ops Q rest (a.put o.dst v') w') : wpList Tryd.prog ops Q (o :: rest) a w := by
  obtain ⟨i0, hi, hz0, hz1, hz2⟩ := info_parts linfo
  refine wpList_append_own w hgd s x 41 ho base 35 i0 (.slice none 0 0) 1 24 Tryd.underlying41 hi hz0 hz1 hz2 rfl (by decide) v rows.length vs hs hown.outer ⟨g, 0, none⟩ 1 c [y] hx rfl ?_ ?_ ?_ ?_ hb ?_
  · intro j u hu
    match j, hu with
    | 0, hu =>
      simp at hu
      subst hu
      rw [add_addr]; exact hc
  · intro u hu
    simp at hu
    subst hu
    obtain ⟨A, cap, rfl, _, _⟩ := own_form hy.1
    rfl
  · unfold maxLen; omega
  · omega
  · intro v' w' h1 h2 _
    have kept : ∀ (z : Value) (q : List Int), OwnNums w base z q → OwnNums w' base z q := fun z q hz => hz.kept h2 (by
      cases hzb : z.ownBlock with
      | none => exact .inl rfl
      | some b => exact .inr fun hvb => kinds_apart hz.1 hown.outer (by decide) hzb hvb.symm)
    refine h v' w' ⟨?_, by simpa using hl, fun k z q hz hq => ?_, fun k l z z' b hz hz' hzb hzb' => ?_⟩ ((Below.refl _ _).grown h2 hb (fun k hk => (hown.outer.lt k hk).1))
    · have e : (rows ++ [r]).length = rows.length + 1 := by simp
      rw [e]; exact h1
    · have hvl := hown.vlen
      rcases Nat.lt_or_ge k vs.length with hk | hk
      · rw [List.getElem?_append_left hk] at hz
        rw [List.getElem?_append_left (by omega)] at hq
        exact kept z q (hown.row k z q hz hq)
      · rw [List.getElem?_append_right hk] at hz
        rw [List.getElem?_append_right (by omega), ← hvl] at hq
        have h0 : k - vs.length = 0 := by
          have := (List.getElem?_eq_some_iff.1 hz).1
          simpa using this
        rw [h0] at hz hq
        simp at hz hq
        subst hz hq
        exact kept _ _ hy
    · have at_ : ∀ {k : Nat} {z : Value}, (vs ++ [y])[k]? = some z → vs[k]? = some z ∨ k = vs.length ∧ z = y := fun {k z} hz => by
        rcases Nat.lt_or_ge k vs.length with hk | hk
        · rw [List.getElem?_append_left hk] at hz; exact .inl hz
        · rw [List.getElem?_append_right hk] at hz
          have h0 : k - vs.length = 0 := by
            have := (List.getElem?_eq_some_iff.1 hz).1
            simpa using this
          rw [h0] at hz
          simp at hz
          exact .inr ⟨by omega, hz.symm⟩
      rcases at_ hz with h3 | ⟨h3, rfl⟩
      · rcases at_ hz' with h4 | ⟨h4, rfl⟩
        · exact hown.apart k l z z' b h3 h4 hzb hzb'
        · exact absurd hzb' (hfar k z b h3 hzb)
      · rcases at_ hz' with h4 | ⟨h4, rfl⟩
        · exact absurd hzb (hfar l z' b h4 hzb')
        · omega
/-- make([][]uint64, m) -/
theorem wpList_make_grid {ops : Array Oper} {rest : List Oper} {o : Oper} {a : Act} {Q : Exit → Act → World → Prop} {w : World} (hgd : o.guard = none) (l c : Operand)
    (ho : o.op = Op.makeSlice 41 l c) (base : Nat) (L : Int) (m : Nat) (hl : a.eval l = .int .i64 L) (hc : a.eval c = .int .i64 L) (hL : L = (m : Int)) (hm : m ≤ 5864062014805) (hb : base ≤ w.heap.size)
    (h : ∀ w', Grid w' base (.slice (some ⟨w.heap.size, 0, none⟩) m m) (List.replicate m (.slice none 0 0)) (List.replicate m []) → Below base w w' → wpList Tryd.prog ops Q rest (a.put o.dst (.slice (some ⟨w.heap.size, 0, none⟩) m m)) w') : wpList Tryd.prog ops Q (o :: rest) a w := by
  obtain ⟨i0, hi, hz0, hz1, hz2⟩ := info_parts linfo
  refine wpList_make_full w hgd l c 41 ho base 35 i0 (.slice none 0 0) 1 Tryd.underlying41 hi hz0 hz1 .i64 .i64 L L m hl hc hL hL (by rw [hz2]; omega) (by unfold maxLen; omega) hb ?_
  intro w' h1 h2
  refine h w' ⟨?_, by simpa using hm, fun i x r hx hr => ?_, fun i j x y b hx hy hxb => ?_⟩ ((Below.refl _ _).grown h2 hb (fun k hk => by cases hk))
  · have e : (madeCells (Value.cells (.slice none 0 0)) (m * 1)).toList = List.replicate m (.slice none 0 0) := by
      apply List.ext_getElem
      · simp [madeCells]
      · intro j h1 h2
        simp [madeCells, Value.cells, Nat.mod_one]
    rw [List.length_replicate, ← e]
    exact h1
  · rw [List.getElem?_replicate] at hx hr
    by_cases hi : i < m
    · rw [if_pos hi] at hx hr
      obtain rfl := Option.some.inj hx
      obtain rfl := Option.some.inj hr
      exact OwnNums.nil _ _
    · rw [if_neg hi] at hx
      simp at hx
  · rw [List.getElem?_replicate] at hx
    split at hx
    · obtain rfl := Option.some.inj hx
      simp [Value.ownBlock] at hxb
    · simp at hx
end Go.Proofs.YtljpangeodgbkaaDoor
