/- A store of keys: how it lies in memory, and what its map tells. -/
import Derived.Test.YtknjcdlknnfhaaaSomeW
import Derived.Test.YtknjcdlknnfhaaaShamW
import Derived.Test.YtknjcdlknnfhaaaShamK
import Derived.Maps.OwnSet
namespace Go.Proofs.Ytknjcdlknnfhaaa
open Go.RowKit Go.Maps Croft

/-- an element reads as itself -/
def heldR (v : Value) : Option (DataW Value × List MemPlace) := some (.held v, [])
theorem ownsMap_tight {w : World} {P : Program} {k : TypeId} {b n : Nat} {D : DataW Value} (h : w.ownsMap P k heldR b n D) : w.ownsMap P k heldR b (Maps.size D) D := by
  obtain ⟨es, clock, hb, F, hs, hD⟩ := h
  refine ⟨es, clock, hb, F, ?_, hD⟩
  have := length_read (P := P) (k := k) (R0 := heldR) es
  rw [hD]
  simp only [Maps.size]
  omega
/-- block mb is the map of the keys: S says which handles have which shares, V where these lie -/
structure StoreIs (w : World) (base mb sz : Nat) (S : Int → Option (List Int)) (V : Int → Value) : Prop where
  map : ∃ D, w.ownsMap Try.prog 3 heldR mb sz D ∧ Maps.size D = sz ∧ (∀ z : Int, Maps.has D (.int .i64 z) = (S z).isSome) ∧ (∀ (z : Int) (d : DataW Value), (S z).isSome = true → D.atKey (.int .i64 z) d = .held (V z))
  rows : ∀ z zs, S z = some zs → OwnNums w base (V z) zs
  le : base ≤ mb
theorem zeroNums (w : World) : (zeroValue 26).run Try.prog w = .ok (.slice none 0 0) w := by kernel_rfl
theorem keyOf_i64 {z : Int} (hz : I64 z) : keyOf Try.prog 3 (.int .i64 z) = some (.int .i64 z) := keyOf_int_mk Try.underlying3 (WalkArith.wf_i64 (by unfold I64 at hz; omega))
theorem StoreIs.lt {w : World} {base mb sz : Nat} {S : Int → Option (List Int)} {V : Int → Value} (h : StoreIs w base mb sz S V) : mb < w.heap.size := by
  obtain ⟨D, h1, _⟩ := h.map
  exact h1.lt
theorem StoreIs.below {w w' : World} {base mb sz : Nat} {S : Int → Option (List Int)} {V : Int → Value} (h : StoreIs w base mb sz S V) (hb : Below w.heap.size w w') : StoreIs w' base mb sz S V := by
  obtain ⟨D, h1, h2⟩ := h.map
  exact ⟨⟨D, h1.kept (row := none) ⟨hb.os, hb.tape, hb.output, hb.size, fun k hk _ => hb.block k hk⟩ (by simp), h2⟩, fun z zs hz => (h.rows z zs hz).below hb, h.le⟩
theorem StoreIs.drewN {w : World} {base mb sz : Nat} {S : Int → Option (List Int)} {V : Int → Value} (h : StoreIs w base mb sz S V) (n : Nat) : StoreIs (w.drewN n) base mb sz S V := h.below (below_drewN (Below.refl _ _) n)
theorem StoreIs.look {w : World} {base mb sz : Nat} {S : Int → Option (List Int)} {V : Int → Value} (h : StoreIs w base mb sz S V) {z : Int} (hz : I64 z) (hs : (S z).isSome = true) :
    (Instr.lookup 98 (.map (some mb)) (.int .i64 z) false).run Try.prog w = .ok (V z) w := by
  obtain ⟨D, h1, _, _, h4⟩ := h.map
  obtain ⟨v, ps, hrun, hv⟩ := h1.lookup ilaw Try.underlying98 (zeroNums w) (zd := .held (.slice none 0 0)) (zp := []) rfl (keyOf_i64 hz)
  have e : heldR v = some (.held (V z), ps) := hv.trans (by rw [h4 z _ hs])
  have e2 : v = V z := by
    have := congrArg (fun o => o.map (·.1)) e
    simp only [heldR, Option.map_some, Option.some.injEq, DataW.held.injEq] at this
    exact this
  rw [hrun, e2]
theorem StoreIs.lookOk {w : World} {base mb sz : Nat} {S : Int → Option (List Int)} {V : Int → Value} (h : StoreIs w base mb sz S V) {z : Int} (hz : I64 z) :
    ∃ v, (Instr.lookup 98 (.map (some mb)) (.int .i64 z) true).run Try.prog w = .ok (.tuple #[v, .bool (S z).isSome]) w := by
  obtain ⟨D, h1, _, h3, _⟩ := h.map
  obtain ⟨v, ps, hrun, hv⟩ := h1.look_ok ilaw Try.underlying98 (zeroNums w) (zd := .held (.slice none 0 0)) (zp := []) rfl (keyOf_i64 hz)
  rw [h3 z] at hrun
  exact ⟨v, hrun⟩
theorem StoreIs.len {w : World} {base mb sz : Nat} {S : Int → Option (List Int)} {V : Int → Value} (h : StoreIs w base mb sz S V) (ty : TypeId) : (Builtin.len_ #[98] ty #[.map (some mb)]).run Try.prog w = .ok (.int .i64 sz) w := by
  obtain ⟨D, h1, h2, _⟩ := h.map
  rw [h1.len Try.underlying98 ty, h2]
def upd (S : Int → Option (List Int)) (z : Int) (l : Option (List Int)) : Int → Option (List Int) := fun y => if y = z then l else S y
def updV (V : Int → Value) (z : Int) (v : Value) : Int → Value := fun y => if y = z then v else V y
theorem map_block_ne {w : World} {b : Nat} {P : Program} {k : TypeId} {n : Nat} {D : DataW Value} (h : w.ownsMap P k heldR b n D) {base : Nat} {e : TypeId} {size m : Nat} {v : Value} {xs : List Value} (ho : w.ownsRow base e size v m xs) : v = .slice none 0 0 ∨ ∃ g c, v = .slice (some ⟨g, 0, none⟩) m c ∧ g ≠ b := by
  obtain ⟨es, clock, hb, _⟩ := h
  rcases ho.2 with ⟨rfl, _⟩ | ⟨g, cap, cur, rfl, _, hg, _⟩
  · exact .inl rfl
  · refine .inr ⟨g, cap, rfl, fun e => ?_⟩
    subst e
    rw [hb] at hg
    cases hg
theorem own_turned {w w' : World} {b : Nat} {P : Program} {k : TypeId} {n : Nat} {D : DataW Value} (h : w.ownsMap P k heldR b n D) (hg : w.grownBy w' (some b)) {base : Nat} {v : Value} {zs : List Int} (ho : OwnNums w base v zs) : OwnNums w' base v zs := by
  obtain ⟨es, clock, hb, _⟩ := h
  refine ⟨⟨ho.1.1, ?_⟩, ho.2⟩
  rcases ho.1.2 with h0 | ⟨g, cap, cur, rfl, h1, h2, h3⟩
  · exact .inl h0
  · refine .inr ⟨g, cap, cur, rfl, h1, ?_, h3⟩
    have hlt : g < w.heap.size := (Array.getElem?_eq_some_iff.1 h2).1
    rw [hg.block g hlt (fun e => ?_)]
    · exact h2
    · injection e with e
      subst e
      rw [hb] at h2
      cases h2
theorem StoreIs.put {w w' : World} {base mb sz : Nat} {S : Int → Option (List Int)} {V : Int → Value} (hr : ∀ z zs, S z = some zs → OwnNums w base (V z) zs) (hle : base ≤ mb) {D : DataW Value} (h1 : w.ownsMap Try.prog 3 heldR mb sz D) (h2 : Maps.size D = sz) (h3 : ∀ z : Int, Maps.has D (.int .i64 z) = (S z).isSome) (h4 : ∀ (z : Int) (d : DataW Value), (S z).isSome = true → D.atKey (.int .i64 z) d = .held (V z))
    {z : Int} {v : Value} {zs : List Int} (hv : OwnNums w base v zs) {n : Nat} (h' : w'.ownsMap Try.prog 3 heldR mb n (D.put (.int .i64 z) (.held v))) (hg : w.grownBy w' (some mb)) : StoreIs w' base mb (if (S z).isSome = true then sz else sz + 1) (upd S z (some zs)) (updV V z v) := by
  have hm : IsMap D := h1.isMap
  have ht : Tidy D := h1.tidy ilaw
  have hk : WideAt.IsKeyLit (.int .i64 z) := trivial
  have hsz : Maps.size (D.put (.int .i64 z) (.held v)) = if (S z).isSome = true then sz else sz + 1 := by
    rw [size_put ht, h3 z, h2]
  refine ⟨⟨_, by rw [← hsz]; exact ownsMap_tight h', hsz, fun y => ?_, fun y d hy => ?_⟩, fun y ys hy => ?_, hle⟩
  · unfold upd
    by_cases he : y = z
    · subst he; rw [has_put_same hm hk, if_pos rfl]; rfl
    · rw [has_put_other (by intro e; injection e with _ e; exact he e), if_neg he, h3 y]
  · unfold upd at hy
    unfold updV
    by_cases he : y = z
    · subst he; rw [atKey_put_same hm hk, if_pos rfl]
    · rw [atKey_put_other (by intro e; injection e with _ e; exact he e), if_neg he]
      rw [if_neg he] at hy
      exact h4 y d hy
  · unfold upd at hy
    unfold updV
    by_cases he : y = z
    · subst he
      rw [if_pos rfl] at hy ⊢
      injection hy with hy
      subst hy
      exact own_turned h1 hg hv
    · rw [if_neg he] at hy ⊢
      exact own_turned h1 hg (hr y ys hy)
theorem StoreIs.del {w w' : World} {base mb sz : Nat} {S : Int → Option (List Int)} {V : Int → Value} (hr : ∀ z zs, S z = some zs → OwnNums w base (V z) zs) (hle : base ≤ mb) {D : DataW Value} (h1 : w.ownsMap Try.prog 3 heldR mb sz D) (h2 : Maps.size D = sz) (h3 : ∀ z : Int, Maps.has D (.int .i64 z) = (S z).isSome) (h4 : ∀ (z : Int) (d : DataW Value), (S z).isSome = true → D.atKey (.int .i64 z) d = .held (V z))
    {z : Int} (hz : (S z).isSome = true) {n : Nat} (h' : w'.ownsMap Try.prog 3 heldR mb n (D.del (.int .i64 z))) (hg : w.grownBy w' (some mb)) : StoreIs w' base mb (sz - 1) (upd S z none) V := by
  have ht : Tidy D := h1.tidy ilaw
  have hsz : Maps.size (D.del (.int .i64 z)) = sz - 1 := by
    have := size_del (k := .int .i64 z) ht
    rw [h3 z, if_pos hz, h2] at this
    omega
  refine ⟨⟨_, by rw [← hsz]; exact ownsMap_tight h', hsz, fun y => ?_, fun y d hy => ?_⟩, fun y ys hy => ?_, hle⟩
  · unfold upd
    by_cases he : y = z
    · subst he; rw [has_del_same, if_pos rfl]; rfl
    · rw [has_del_other (by intro e; injection e with _ e; exact he e), if_neg he, h3 y]
  · unfold upd at hy
    by_cases he : y = z
    · rw [if_pos he] at hy; cases hy
    · rw [atKey_del_other (by intro e; injection e with _ e; exact he e)]
      rw [if_neg he] at hy
      exact h4 y d hy
  · unfold upd at hy
    by_cases he : y = z
    · rw [if_pos he] at hy; cases hy
    · rw [if_neg he] at hy
      exact own_turned h1 hg (hr y ys hy)
/-- keys at block kb: for n parties and t, the last handle, how many there are, and which shares -/
structure KeysIs (w : World) (base kb mb n t last sz : Nat) (S : Int → Option (List Int)) (V : Int → Value) : Prop where
  cell : w.heap[kb]? = some (.cells #[.int .i64 n, .int .i64 t, .int .i64 last, .map (some mb)] 100 (0, 0))
  store : StoreIs w base mb sz S V
  le : base ≤ kb
  len : ∀ z zs, S z = some zs → zs.length = n ∧ 1 ≤ z ∧ z ≤ last
  sz8 : sz ≤ 8
theorem KeysIs.lt {w : World} {base kb mb n t last sz : Nat} {S : Int → Option (List Int)} {V : Int → Value} (h : KeysIs w base kb mb n t last sz S V) : kb < w.heap.size := (Array.getElem?_eq_some_iff.1 h.cell).1
theorem KeysIs.below {w w' : World} {base kb mb n t last sz : Nat} {S : Int → Option (List Int)} {V : Int → Value} (h : KeysIs w base kb mb n t last sz S V) (hb : Below w.heap.size w w') : KeysIs w' base kb mb n t last sz S V :=
  ⟨(hb.block kb h.lt).trans h.cell, h.store.below hb, h.le, h.len, h.sz8⟩
theorem KeysIs.drewN {w : World} {base kb mb n t last sz : Nat} {S : Int → Option (List Int)} {V : Int → Value} (h : KeysIs w base kb mb n t last sz S V) (m : Nat) : KeysIs (w.drewN m) base kb mb n t last sz S V := h.below (below_drewN (Below.refl _ _) m)
theorem KeysIs.cells {w : World} {base kb mb n t last sz : Nat} {S : Int → Option (List Int)} {V : Int → Value} (h : KeysIs w base kb mb n t last sz S V) :
    w.cell? ⟨kb, 0, none⟩ = some (.int .i64 n) ∧ w.cell? ⟨kb, 1, none⟩ = some (.int .i64 t) ∧ w.cell? ⟨kb, 2, none⟩ = some (.int .i64 last) ∧ w.cell? ⟨kb, 3, none⟩ = some (.map (some mb)) ∧ ∀ j, w.frozen? ⟨kb, j, none⟩ = false := by
  have hc := h.cell
  refine ⟨?_, ?_, ?_, ?_, fun j => ?_⟩
  · simp [World.cell?, hc]
  · simp [World.cell?, hc]
  · simp [World.cell?, hc]
  · simp [World.cell?, hc]
  · simp [World.frozen?, hc]
end Go.Proofs.Ytknjcdlknnfhaaa
