/- Rows of a dealing in two variables: how they lie in memory. -/
import Derived.Test.YtegmeepogjijiaaGrid
import Derived.Test.YtegmeepogjijiaaShareW
namespace Go.Proofs.Ytegmeepogjijiaa
open Go.RowKit Croft

/-- the cells of rows: whose each is, and its list -/
def rcs (ats : List Int) (vs : List Value) : List Value := (ats.zip vs).flatMap fun p => [Value.int .i64 p.1, p.2]
theorem pairs_length {α : Type} (l : List α) (f g : α → Value) : (l.flatMap fun p => [f p, g p]).length = l.length * 2 := by
  induction l with
  | nil => rfl
  | cons s l ih => simp only [List.flatMap_cons, List.length_append, List.length_cons, List.length_nil] at *; omega
theorem pairs_get {α : Type} (f g : α → Value) (l : List α) : ∀ (k : Nat) (s : α), l[k]? = some s → (l.flatMap fun p => [f p, g p])[k * 2]? = some (f s) ∧ (l.flatMap fun p => [f p, g p])[k * 2 + 1]? = some (g s) := by
  induction l with
  | nil => intro k s h; simp at h
  | cons a l ih =>
    intro k s h
    cases k with
    | zero => simp at h; subst h; exact ⟨rfl, rfl⟩
    | succ k =>
      have := ih k s (by simpa using h)
      rw [show (k + 1) * 2 = k * 2 + 1 + 1 by omega]
      simpa using this
theorem rcs_length {ats : List Int} {vs : List Value} (h : ats.length = vs.length) : (rcs ats vs).length = vs.length * 2 := by
  unfold rcs
  rw [pairs_length]
  simp [h]
theorem rcs_get {ats : List Int} {vs : List Value} {k : Nat} {a : Int} {v : Value} (ha : ats[k]? = some a) (hv : vs[k]? = some v) : (rcs ats vs)[k * 2]? = some (.int .i64 a) ∧ (rcs ats vs)[k * 2 + 1]? = some v :=
  pairs_get (fun p : Int × Value => Value.int .i64 p.1) (fun p => p.2) _ k (a, v) (by rw [List.getElem?_zip_eq_some]; exact ⟨ha, hv⟩)
theorem rcs_snoc {ats : List Int} {vs : List Value} (h : ats.length = vs.length) (a : Int) (v : Value) : rcs (ats ++ [a]) (vs ++ [v]) = rcs ats vs ++ [.int .i64 a, v] := by
  unfold rcs
  rw [List.zip_append h]
  simp
def IsRows (w : World) (v : Value) (l : List (Int × List Int)) : Prop :=
  ∃ A cap vs, v = .slice A l.length cap ∧ l.length ≤ cap ∧ cap ≤ maxLen ∧ l.length ≤ 4398046511104 ∧ (∀ s ∈ l, I64 s.1) ∧ Cells w A (rcs (l.map (·.1)) vs) ∧ AllNums w vs (l.map (·.2))
theorem IsRows.below {w w' : World} {v : Value} {l : List (Int × List Int)} (h : IsRows w v l) (hb : Below w.heap.size w w') : IsRows w' v l := by
  obtain ⟨A, cap, vs, h1, h2, h3, h4, h5, h6, h7⟩ := h
  exact ⟨A, cap, vs, h1, h2, h3, h4, h5, h6.below hb, h7.below hb⟩
theorem IsRows.nil (w : World) : IsRows w (.slice none 0 0) [] := ⟨none, 0, [], rfl, Nat.le_refl _, by simp [maxLen], by simp, by simp, .inl rfl, rfl, fun i x r hx => by simp at hx⟩
theorem row_at {w : World} {A : Option Addr} {vs : List Value} {l : List (Int × List Int)} (h : Cells w A (rcs (l.map (·.1)) vs)) (h2 : AllNums w vs (l.map (·.2))) (h5 : ∀ s ∈ l, I64 s.1) {k : Nat} (hk : k < l.length) :
    ∃ b o a x r, A = some ⟨b, o, none⟩ ∧ b < w.heap.size ∧ vs[k]? = some x ∧ l[k]? = some (a, r) ∧ I64 a ∧ IsNums w x r ∧ w.cell? ⟨b, o + k * 2, none⟩ = some (.int .i64 a) ∧ w.cell? ⟨b, o + k * 2 + 1, none⟩ = some x := by
  have hvl : vs.length = l.length := by rw [h2.1]; simp
  have hk2 : k < vs.length := by omega
  have hl : (rcs (l.map (·.1)) vs).length = vs.length * 2 := rcs_length (by simp [hvl])
  obtain ⟨b, o, rfl, hb, hc⟩ := h.at_ (j := k * 2) (by omega)
  have hg : l[k]? = some l[k] := List.getElem?_eq_getElem hk
  have hv : vs[k]? = some vs[k] := List.getElem?_eq_getElem hk2
  obtain ⟨g1, g2⟩ := rcs_get (ats := l.map (·.1)) (vs := vs) (k := k) (a := l[k].1) (v := vs[k]) (by rw [List.getElem?_map, hg]; rfl) hv
  refine ⟨b, o, l[k].1, vs[k], l[k].2, rfl, hb, hv, hg, h5 _ (List.getElem_mem hk), h2.2 k _ _ hv (by rw [List.getElem?_map, hg]; rfl), ?_, ?_⟩
  · rw [hc _ (by omega), g1]
  · rw [Nat.add_assoc, hc _ (by omega), g2]
/-- rows that the call has made: their lists in blocks of their own -/
structure OwnRows (w : World) (base : Nat) (v : Value) (vs : List Value) (l : List (Int × List Int)) : Prop where
  outer : w.ownsRow base 106 2 v l.length (rcs (l.map (·.1)) vs)
  len : l.length ≤ 4398046511104
  vlen : vs.length = l.length
  i64 : ∀ s ∈ l, I64 s.1
  row : ∀ (i : Nat) (x : Value) (s : Int × List Int), vs[i]? = some x → l[i]? = some s → OwnNums w base x s.2
  apart : ∀ (i j : Nat) (x y : Value) (b : Nat), vs[i]? = some x → vs[j]? = some y → x.ownBlock = some b → y.ownBlock = some b → i = j
section
variable {w w' : World} {base : Nat} {v : Value} {vs : List Value} {l : List (Int × List Int)}
theorem OwnRows.below (h : OwnRows w base v vs l) (hb : Below w.heap.size w w') : OwnRows w' base v vs l :=
  ⟨own_kept h.outer hb, h.len, h.vlen, h.i64, fun i x r hx hr => (h.row i x r hx hr).below hb, h.apart⟩
theorem OwnRows.drewN (h : OwnRows w base v vs l) (n : Nat) : OwnRows (w.drewN n) base v vs l := ⟨h.outer, h.len, h.vlen, h.i64, h.row, h.apart⟩
theorem OwnRows.alloc (h : OwnRows w base v vs l) (o : Obj) : OwnRows (w.alloc o) base v vs l := h.below ((Below.refl _ _).alloc (Nat.le_refl _) o)
theorem OwnRows.nil (w : World) (base : Nat) : OwnRows w base (.slice none 0 0) [] [] :=
  ⟨World.ownsRow_nil _ _ _ _, by simp, rfl, by simp, fun i x r hx => by simp at hx, fun i j x y b hx => by simp at hx⟩
theorem OwnRows.is (h : OwnRows w base v vs l) : IsRows w v l := by
  obtain ⟨A, cap, rfl, h4, h5⟩ := own_form h.outer
  refine ⟨A, cap, vs, rfl, h4, h5, h.len, h.i64, Cells.of_own h.outer, by rw [h.vlen]; simp, fun i x r hx hr => ?_⟩
  rw [List.getElem?_map] at hr
  cases hs : l[i]? with
  | none => rw [hs] at hr; simp at hr
  | some s =>
    rw [hs] at hr
    obtain rfl := Option.some.inj hr
    exact (h.row i x s hx hs).is
theorem OwnRows.less {base' : Nat} (h : OwnRows w base v vs l) (hb : base' ≤ base) : OwnRows w base' v vs l := by
  refine ⟨⟨h.outer.1, ?_⟩, h.len, h.vlen, h.i64, fun i x r hx hr => (h.row i x r hx hr).less hb, h.apart⟩
  rcases h.outer.2 with h1 | ⟨g, cap, cur, hv, hg, r⟩
  · exact .inl h1
  · exact .inr ⟨g, cap, cur, hv, by omega, r⟩
end
theorem rinfo : (Try.prog.info? 106).map (fun i => (i.zero, i.size, i.bytes)) = some (some (.agg #[.int .i64 0, .slice none 0 0]), 2, 32) := by kernel_rfl
/-- append of one row, to what the call has built -/
theorem wpList_push_arow {ops : Array Oper} {rest : List Oper} {o : Oper} {a : Act} {Q : Exit → Act → World → Prop} {w : World} (hgd : o.guard = none) (s x : Operand)
    (ho : o.op = .call { callee := .builtin .append, args := #[s, x], argTypes := #[83, 83] })
    (base : Nat) (v : Value) (vs : List Value) (l : List (Int × List Int)) (n : Int) (y : Value) (r : List Int) (g c : Nat) (hs : a.eval s = v) (hown : OwnRows w base v vs l) (hx : a.eval x = .slice (some ⟨g, 0, none⟩) 1 c)
    (hc : w.cell? ⟨g, 0, none⟩ = some (.int .i64 n)) (hc2 : w.cell? ⟨g, 1, none⟩ = some y) (hn : I64 n) (hy : OwnNums w base y r) (hfar : ∀ (k : Nat) (z : Value) (b : Nat), vs[k]? = some z → z.ownBlock = some b → y.ownBlock ≠ some b) (hl : l.length + 1 ≤ 4398046511104) (hb : base ≤ w.heap.size)
    (h : ∀ v' w', OwnRows w' base v' (vs ++ [y]) (l ++ [(n, r)]) → Below base w w' → wpList Try.prog ops Q rest (a.put o.dst v') w') : wpList Try.prog ops Q (o :: rest) a w := by
  obtain ⟨i0, hi, hz0, hz1, hz2⟩ := info_parts rinfo
  refine wpList_append_own w hgd s x 83 ho base 106 i0 (.agg #[.int .i64 0, .slice none 0 0]) 2 32 Try.underlying83 hi hz0 hz1 hz2 rfl (by decide) v l.length (rcs (l.map (·.1)) vs) hs hown.outer ⟨g, 0, none⟩ 1 c [.int .i64 n, y] hx rfl ?_ ?_ ?_ ?_ hb ?_
  · intro j u hu
    match j, hu with
    | 0, hu =>
      simp at hu
      subst hu
      rw [add_addr]; exact hc
    | 1, hu =>
      simp at hu
      subst hu
      rw [add_addr]; exact hc2
  · intro u hu
    simp at hu
    rcases hu with rfl | rfl
    · rfl
    · obtain ⟨A, cap, rfl, _, _⟩ := own_form hy.1
      rfl
  · unfold maxLen; omega
  · omega
  · intro v' w' h1 h2 _
    have kept : ∀ (z : Value) (q : List Int), OwnNums w base z q → OwnNums w' base z q := fun z q hz => hz.kept h2 (by
      cases hzb : z.ownBlock with
      | none => exact .inl rfl
      | some b => exact .inr fun hvb => kinds_apart hz.1 hown.outer (by decide) hzb hvb.symm)
    have hvl := hown.vlen
    refine h v' w' ⟨?_, by simpa using hl, by simp [hvl], fun s hs => ?_, fun k z q hz hq => ?_, fun k l' z z' b hz hz' hzb hzb' => ?_⟩ ((Below.refl _ _).grown h2 hb (fun k hk => (hown.outer.lt k hk).1))
    · have e : (l ++ [(n, r)]).length = l.length + 1 := by simp
      rw [e, List.map_append, List.map_cons, List.map_nil, rcs_snoc (by simp [hvl])]; exact h1
    · rcases List.mem_append.1 hs with h3 | h3
      · exact hown.i64 s h3
      · simp at h3; subst h3; exact hn
    · rcases Nat.lt_or_ge k vs.length with hk | hk
      · rw [List.getElem?_append_left hk] at hz
        rw [List.getElem?_append_left (by omega)] at hq
        exact kept z q.2 (hown.row k z q hz hq)
      · rw [List.getElem?_append_right hk] at hz
        rw [List.getElem?_append_right (by omega), ← hvl] at hq
        have h0 : k - vs.length = 0 := by
          have := (List.getElem?_eq_some_iff.1 hz).1
          simpa using this
        rw [h0] at hz hq
        simp at hz hq
        subst hz hq
        exact kept _ _ hy
    · have at_ : ∀ {k : Nat} {z : Value}, (vs ++ [y])[k]? = some z → vs[k]? = some z ∨ k = vs.length ∧ z = y := fun {k z} hz => by
        rcases Nat.lt_or_ge k vs.length with hk | hk
        · rw [List.getElem?_append_left hk] at hz; exact .inl hz
        · rw [List.getElem?_append_right hk] at hz
          have h0 : k - vs.length = 0 := by
            have := (List.getElem?_eq_some_iff.1 hz).1
            simpa using this
          rw [h0] at hz
          simp at hz
          exact .inr ⟨by omega, hz.symm⟩
      rcases at_ hz with h3 | ⟨h3, rfl⟩
      · rcases at_ hz' with h4 | ⟨h4, rfl⟩
        · exact hown.apart k l' z z' b h3 h4 hzb hzb'
        · exact absurd hzb' (hfar k z b h3 hzb)
      · rcases at_ hz' with h4 | ⟨h4, rfl⟩
        · exact absurd hzb (hfar l' z' b h4 hzb')
        · omega
end Go.Proofs.Ytegmeepogjijiaa
