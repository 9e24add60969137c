/- Lists of texts, and of gates: how they lie in memory, and how a call builds them. -/
import Derived.Test.YtljpangeodgbkaaDoorTextW
import Derived.Test.YtljpangeodgbkaaDoorReadQ
namespace Go.Proofs.YtljpangeodgbkaaDoor
open Go.RowKit Go.Sort Croft

def sts (l : List (List UInt8)) : List Value := l.map fun x => .string (bs x)
theorem sts_length (l : List (List UInt8)) : (sts l).length = l.length := by simp [sts]
theorem sts_get (l : List (List UInt8)) (j : Nat) : (sts l)[j]? = (l[j]?).map fun x => Value.string (bs x) := by simp [sts]
def IsStrs (w : World) (v : Value) (l : List (List UInt8)) : Prop :=
  ∃ A cap, v = .slice A l.length cap ∧ l.length ≤ cap ∧ cap ≤ maxLen ∧ l.length ≤ 8796093022208 ∧ Cells w A (sts l)
theorem IsStrs.below {w w' : World} {v : Value} {l : List (List UInt8)} (h : IsStrs w v l) (hb : Below w.heap.size w w') : IsStrs w' v l := by
  obtain ⟨A, cap, h1, h2, h3, h4, h6⟩ := h
  exact ⟨A, cap, h1, h2, h3, h4, h6.below hb⟩
theorem IsStrs.drewN {w : World} {v : Value} {l : List (List UInt8)} (h : IsStrs w v l) (n : Nat) : IsStrs (w.drewN n) v l := h
theorem IsStrs.alloc {w : World} {v : Value} {l : List (List UInt8)} (h : IsStrs w v l) (o : Obj) : IsStrs (w.alloc o) v l := h.below ((Below.refl _ _).alloc (Nat.le_refl _) o)
theorem IsStrs.nil (w : World) : IsStrs w (.slice none 0 0) [] := ⟨none, 0, rfl, Nat.le_refl _, by simp [maxLen], by simp, .inl rfl⟩
theorem strs_at {w : World} {A : Option Addr} {l : List (List UInt8)} (h : Cells w A (sts l)) {k : Nat} (hk : k < l.length) :
    ∃ b o x, A = some ⟨b, o, none⟩ ∧ b < w.heap.size ∧ l[k]? = some x ∧ w.cell? ⟨b, o + k, none⟩ = some (.string (bs x)) := by
  obtain ⟨b, o, rfl, hb, hc⟩ := h.at_ (j := k) (by rw [sts_length]; exact hk)
  have hg : l[k]? = some l[k] := List.getElem?_eq_getElem hk
  exact ⟨b, o, l[k], rfl, hb, hg, by rw [hc k (by rw [sts_length]; exact hk), sts_get, hg]; rfl⟩
/-- texts from number k on -/
theorem cells_from {w : World} {b o : Nat} {cs : List Value} (h : Cells w (some ⟨b, o, none⟩) cs) (k : Nat) : Cells w (some ⟨b, o + k, none⟩) (cs.drop k) := by
  rcases h with h | ⟨b', o', hA, hb, hc⟩
  · subst h; exact .inl (by simp)
  · injection hA with hA
    injection hA with h1 h2 h3
    subst h1 h2
    refine .inr ⟨b, o + k, rfl, hb, fun j hj => ?_⟩
    rw [List.length_drop] at hj
    rw [Nat.add_assoc, hc (k + j) (by omega), List.getElem?_drop]
def OwnStrs (w : World) (base : Nat) (v : Value) (l : List (List UInt8)) : Prop :=
  w.ownsRow base 9 1 v l.length (sts l) ∧ l.length ≤ 8796093022208
theorem OwnStrs.is {w : World} {base : Nat} {v : Value} {l : List (List UInt8)} (h : OwnStrs w base v l) : IsStrs w v l := by
  obtain ⟨h1, h2⟩ := h
  obtain ⟨A, cap, rfl, h4, h5⟩ := own_form h1
  exact ⟨A, cap, rfl, h4, h5, h2, Cells.of_own h1⟩
theorem OwnStrs.nil (w : World) (base : Nat) : OwnStrs w base (.slice none 0 0) [] := ⟨World.ownsRow_nil _ _ _ _, by simp⟩
theorem OwnStrs.alloc {w : World} {base : Nat} {v : Value} {l : List (List UInt8)} (h : OwnStrs w base v l) (o : Obj) : OwnStrs (w.alloc o) base v l := ⟨h.1.alloc o, h.2⟩
theorem OwnStrs.drewN {w : World} {base : Nat} {v : Value} {l : List (List UInt8)} (h : OwnStrs w base v l) (n : Nat) : OwnStrs (w.drewN n) base v l := h
theorem OwnStrs.below {w w' : World} {base : Nat} {v : Value} {l : List (List UInt8)} (h : OwnStrs w base v l) (hb : Below w.heap.size w w') : OwnStrs w' base v l := ⟨own_kept h.1 hb, h.2⟩
theorem OwnStrs.less {w : World} {base base' : Nat} {v : Value} {l : List (List UInt8)} (h : OwnStrs w base v l) (hb : base' ≤ base) : OwnStrs w base' v l := by
  refine ⟨⟨h.1.1, ?_⟩, h.2⟩
  rcases h.1.2 with h1 | ⟨g, cap, cur, hv, hg, r⟩
  · exact .inl h1
  · exact .inr ⟨g, cap, cur, hv, by omega, r⟩
theorem stinfo : (Tryd.prog.info? 9).map (fun i => (i.zero, i.size, i.bytes)) = some (some (.string ⟨#[]⟩), 1, 16) := by kernel_rfl
/-- texts written out are the call's own -/
theorem lit_strs (w : World) (base : Nat) (l : List (List UInt8)) (hl : l.length ≤ 8796093022208) (hb : base ≤ w.heap.size) : OwnStrs (w.alloc (.cells (sts l).toArray 9)) base (.slice (some ⟨w.heap.size, 0, none⟩) l.length l.length) l := by
  refine ⟨⟨by rw [sts_length]; omega, .inr ⟨w.heap.size, l.length, (sts l).toArray, rfl, hb, heap_alloc_new w _, Nat.le_refl _, by unfold maxLen; omega, by simp [sts_length], ?_⟩⟩, hl⟩
  exact List.take_of_length_le (by simp [sts_length])
/-- append of one text, to what the call has built -/
theorem wpList_push_str {ops : Array Oper} {rest : List Oper} {o : Oper} {a : Act} {Q : Exit → Act → World → Prop} {w : World} (hgd : o.guard = none) (s x : Operand)
    (ho : o.op = .call { callee := .builtin .append, args := #[s, x], argTypes := #[53, 53] })
    (base : Nat) (v : Value) (l : List (List UInt8)) (z : List UInt8) (g c : Nat) (hs : a.eval s = v) (hown : OwnStrs w base v l) (hx : a.eval x = .slice (some ⟨g, 0, none⟩) 1 c)
    (hc : w.cell? ⟨g, 0, none⟩ = some (.string (bs z))) (hl : l.length + 1 ≤ 8796093022208) (hb : base ≤ w.heap.size)
    (h : ∀ v' w', OwnStrs w' base v' (l ++ [z]) → Below base w w' → wpList Tryd.prog ops Q rest (a.put o.dst v') w') : wpList Tryd.prog ops Q (o :: rest) a w := by
  obtain ⟨i0, hi, hz0, hz1, hz2⟩ := info_parts stinfo
  refine wpList_append_own w hgd s x 53 ho base 9 i0 (.string ⟨#[]⟩) 1 16 Tryd.underlying53 hi hz0 hz1 hz2 rfl (by decide) v l.length (sts l) hs hown.1 ⟨g, 0, none⟩ 1 c [.string (bs z)] hx rfl ?_ ?_ ?_ ?_ hb ?_
  · intro j u hu
    match j, hu with
    | 0, hu =>
      simp at hu
      subst hu
      rw [add_addr]; exact hc
  · intro u hu
    simp at hu
    subst hu; rfl
  · unfold maxLen; omega
  · omega
  · intro v' w' h1 h2 _
    refine h v' w' ⟨?_, ?_⟩ ((Below.refl _ _).grown h2 hb (fun k hk => (hown.1.lt k hk).1))
    · have e : (l ++ [z]).length = l.length + 1 := by simp
      have e2 : sts (l ++ [z]) = sts l ++ [.string (bs z)] := by simp [sts]
      rw [e, e2]; exact h1
    · simpa using hl
section
variable {w : World} {base g n c : Nat} {l : List (List UInt8)}
theorem OwnStrs.len (h : OwnStrs w base (.slice (some ⟨g, 0, none⟩) n c) l) : n = l.length := by
  rcases h.1.2 with ⟨hv, _⟩ | ⟨g', cap, cur, hv, _⟩
  · simp at hv
  · injection hv
theorem OwnStrs.cell (h : OwnStrs w base (.slice (some ⟨g, 0, none⟩) n c) l) {j : Nat} {x : List UInt8} (hj : l[j]? = some x) : w.cell? ⟨g, j, none⟩ = some (.string (bs x)) := by
  have hn := h.len
  subst hn
  obtain ⟨hlt, hz⟩ := List.getElem?_eq_some_iff.1 hj
  rw [h.1.cellAt j (by omega), sts_get, hj]; rfl
theorem OwnStrs.frozen (h : OwnStrs w base (.slice (some ⟨g, 0, none⟩) n c) l) (j : Nat) : w.frozen? ⟨g, j, none⟩ = false := by
  have hn := h.len
  subst hn
  exact h.1.frozenAt j
theorem OwnStrs.base_le (h : OwnStrs w base (.slice (some ⟨g, 0, none⟩) n c) l) : base ≤ g ∧ g < w.heap.size := h.1.lt g rfl
theorem OwnStrs.set_ (h : OwnStrs w base (.slice (some ⟨g, 0, none⟩) n c) l) (j : Nat) (x : List UInt8) : OwnStrs (w.setCell ⟨g, j, none⟩ (.string (bs x))) base (.slice (some ⟨g, 0, none⟩) n c) (l.set j x) := by
  have hn := h.len
  subst hn
  refine ⟨?_, by simpa using h.2⟩
  have h1 := (h.1.stored j (.string (bs x))).1
  have e : sts (l.set j x) = (sts l).set j (.string (bs x)) := by simp [sts, List.map_set]
  rw [List.length_set, e]; exact h1
end
theorem IsStrs.cut {w : World} {A : Option Addr} {len c : Nat} {l : List (List UInt8)} (h : IsStrs w (.slice A len c) l) (lo hi : Nat) (h1 : lo ≤ hi) (h2 : hi ≤ l.length) : IsStrs w (.slice (if c = lo then A else A.map (·.add (lo * 1))) (hi - lo) (c - lo)) ((l.drop lo).take (hi - lo)) := by
  obtain ⟨A1, c1, e1, e2, e3, e4, e6⟩ := h
  injection e1 with e1a e1b e1c
  subst e1a e1b e1c
  have hl : ((l.drop lo).take (hi - lo)).length = hi - lo := by simp; omega
  refine ⟨_, _, by rw [hl], by rw [hl]; omega, by omega, by rw [hl]; omega, ?_⟩
  rcases Nat.lt_or_ge lo hi with hlt | hge
  · obtain ⟨b, o, rfl, hb, hc⟩ := e6.at_ (j := lo) (by rw [sts_length]; omega)
    rw [if_neg (by omega)]
    refine .inr ⟨b, o + lo, by simp [add_addr], hb, fun j hj => ?_⟩
    rw [sts_length, hl] at hj
    rw [Nat.add_assoc, hc _ (by rw [sts_length]; omega), sts_get, sts_get, List.getElem?_take, if_pos hj, List.getElem?_drop]
  · have h0 : hi - lo = 0 := by omega
    rw [h0]; exact .inl (by simp [sts])
theorem IsStrs.from_ {w : World} {A : Option Addr} {c : Nat} {l : List (List UInt8)} (h : IsStrs w (.slice A l.length c) l) (lo : Nat) (h1 : lo ≤ l.length) : IsStrs w (.slice (if c = lo then A else A.map (·.add (lo * 1))) (l.length - lo) (c - lo)) (l.drop lo) := by
  have h2 := h.cut lo l.length h1 (Nat.le_refl _)
  rwa [List.take_of_length_le (by rw [List.length_drop]; exact Nat.le_refl _)] at h2
/-- a slice of a list of texts, as an equation -/
theorem sslice_run (A : Option Addr) (m c lo hi : Nat) (x y : Int) (hx : x = lo) (hy : y = hi) (h1 : lo ≤ hi) (h2 : hi ≤ c) (W : World) :
    (Instr.slice 53 (.slice A m c) (some (.int .i64 x)) (some (.int .i64 y)) none).run Tryd.prog W = .ok (.slice (if c = lo then A else A.map (·.add (lo * 1))) (hi - lo) (c - lo)) W := by
  subst hx hy
  have hU : Program.underlying Tryd.prog 53 = some (.slice (Program.elem Tryd.prog 53)) := by kernel_rfl
  have hs : ∀ W, (sizeOf (Program.elem Tryd.prog 53)).run Tryd.prog W = .ok 1 W := fun W => by kernel_rfl
  rw [run_slice_lh W _ A m c hU .i64 .i64 _ _ (by omega) (by omega) (by omega), hs]
  simp [Result.andThen, sliced]
theorem sslice_from (A : Option Addr) (m c lo : Nat) (x : Int) (hx : x = lo) (h1 : lo ≤ m) (W : World) :
    (Instr.slice 53 (.slice A m c) (some (.int .i64 x)) none none).run Tryd.prog W = .ok (.slice (if c = lo then A else A.map (·.add (lo * 1))) (m - lo) (c - lo)) W := by
  subst hx
  have hU : Program.underlying Tryd.prog 53 = some (.slice (Program.elem Tryd.prog 53)) := by kernel_rfl
  have hs : ∀ W, (sizeOf (Program.elem Tryd.prog 53)).run Tryd.prog W = .ok 1 W := fun W => by kernel_rfl
  rw [run_slice_l W _ A m c hU .i64 _ (by omega) (by omega), hs]
  simp [Result.andThen, sliced]
/-! ### gates -/
def OwnGates (w : World) (base : Nat) (v : Value) (gs : List Gt) : Prop :=
  w.ownsRow base 62 4 v gs.length (gcs gs) ∧ gs.length ≤ 4398046511104 ∧ (∀ g ∈ gs, GateOk g)
theorem OwnGates.is {w : World} {base : Nat} {v : Value} {gs : List Gt} (h : OwnGates w base v gs) : IsGates w v gs := by
  obtain ⟨h1, h2, h3⟩ := h
  obtain ⟨A, cap, rfl, h4, h5⟩ := own_form h1
  exact ⟨A, cap, rfl, h4, h5, h2, h3, Cells.of_own h1⟩
theorem OwnGates.nil (w : World) (base : Nat) : OwnGates w base (.slice none 0 0) [] := ⟨World.ownsRow_nil _ _ _ _, by simp, by simp⟩
theorem OwnGates.below {w w' : World} {base : Nat} {v : Value} {gs : List Gt} (h : OwnGates w base v gs) (hb : Below w.heap.size w w') : OwnGates w' base v gs := ⟨own_kept h.1 hb, h.2⟩
theorem ginfo : (Tryd.prog.info? 62).map (fun i => (i.zero, i.size, i.bytes)) = some (some (.agg #[.int .i64 0, .int .i64 0, .int .i64 0, .int .u64 0]), 4, 32) := by kernel_rfl
theorem gcs_snoc (gs : List Gt) (g : Gt) : gcs (gs ++ [g]) = gcs gs ++ genc g := by simp [gcs]
/-- append of one gate, to what the call has built -/
theorem wpList_push_gate {ops : Array Oper} {rest : List Oper} {o : Oper} {a : Act} {Q : Exit → Act → World → Prop} {w : World} (hgd : o.guard = none) (s x : Operand)
    (ho : o.op = .call { callee := .builtin .append, args := #[s, x], argTypes := #[22, 22] })
    (base : Nat) (v : Value) (gs : List Gt) (y : Gt) (g c : Nat) (hs : a.eval s = v) (hown : OwnGates w base v gs) (hx : a.eval x = .slice (some ⟨g, 0, none⟩) 1 c)
    (hc : Box w g 62 (genc y)) (hy : GateOk y) (hl : gs.length + 1 ≤ 4398046511104) (hb : base ≤ w.heap.size)
    (h : ∀ v' w', OwnGates w' base v' (gs ++ [y]) → w.grownBy w' v.ownBlock → wpList Tryd.prog ops Q rest (a.put o.dst v') w') : wpList Tryd.prog ops Q (o :: rest) a w := by
  obtain ⟨i0, hi, hz0, hz1, hz2⟩ := info_parts ginfo
  refine wpList_append_own w hgd s x 22 ho base 62 i0 (.agg #[.int .i64 0, .int .i64 0, .int .i64 0, .int .u64 0]) 4 32 Tryd.underlying22 hi hz0 hz1 hz2 rfl (by decide) v gs.length (gcs gs) hs hown.1 ⟨g, 0, none⟩ 1 c (genc y) hx rfl ?_ ?_ ?_ ?_ hb ?_
  · intro j u hu
    rw [add_addr, Nat.zero_add]
    exact hc.cell hu
  · intro u hu
    simp [genc] at hu
    rcases hu with rfl | rfl | rfl | rfl <;> rfl
  · unfold maxLen; omega
  · omega
  · intro v' w' h1 h2 _
    refine h v' w' ⟨?_, ?_, ?_⟩ h2
    · have e : (gs ++ [y]).length = gs.length + 1 := by simp
      rw [e, gcs_snoc]; exact h1
    · simpa using hl
    · intro z hz
      rcases List.mem_append.1 hz with h3 | h3
      · exact hown.2.2 z h3
      · simp at h3; subst h3; exact hy
theorem push_int_grown {ops : Array Oper} {rest : List Oper} {o : Oper} {a : Act} {Q : Exit → Act → World → Prop} {w : World} (hgd : o.guard = none) (s x : Operand)
    (ho : o.op = .call { callee := .builtin .append, args := #[s, x], argTypes := #[23, 23] })
    (base : Nat) (v : Value) (zs : List Int) (z : Int) (g c : Nat) (hs : a.eval s = v) (hown : OwnInts w base v zs) (hx : a.eval x = .slice (some ⟨g, 0, none⟩) 1 c)
    (hc : w.cell? ⟨g, 0, none⟩ = some (.int .i64 z)) (hz : I64 z) (hl : zs.length + 1 ≤ 17592186043904) (hb : base ≤ w.heap.size)
    (h : ∀ v' w', OwnInts w' base v' (zs ++ [z]) → w.grownBy w' v.ownBlock → wpList Tryd.prog ops Q rest (a.put o.dst v') w') : wpList Tryd.prog ops Q (o :: rest) a w := by
  obtain ⟨i0, hi, hz0, hz1, hz2⟩ := info_parts iinfo
  refine wpList_append_own w hgd s x 23 ho base 3 i0 (.int .i64 0) 1 8 Tryd.underlying23 hi hz0 hz1 hz2 rfl (by decide) v zs.length (i64s zs) hs hown.1 ⟨g, 0, none⟩ 1 c [.int .i64 z] hx rfl ?_ ?_ ?_ ?_ hb ?_
  · intro j u hu
    match j, hu with
    | 0, hu =>
      simp at hu
      subst hu
      rw [add_addr]; exact hc
  · intro u hu
    simp at hu
    subst hu; rfl
  · unfold maxLen; omega
  · omega
  · intro v' w' h1 h2 _
    refine h v' w' ⟨?_, ?_, ?_⟩ h2
    · have e : (zs ++ [z]).length = zs.length + 1 := by simp
      have e2 : i64s (zs ++ [z]) = i64s zs ++ [.int .i64 z] := by simp [i64s]
      rw [e, e2]; exact h1
    · simpa using hl
    · intro y hy
      rcases List.mem_append.1 hy with h3 | h3
      · exact hown.2.2 y h3
      · simp at h3; subst h3; exact hz
end Go.Proofs.YtljpangeodgbkaaDoor
