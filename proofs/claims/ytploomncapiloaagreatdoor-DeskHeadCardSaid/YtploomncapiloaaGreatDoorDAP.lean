/- Parts of the proof, put together by a program: Mat SomeW KeyP Clone TailM SolK. No condition. -/
import Derived.Test.YtploomncapiloaaGreatDoorDAM
import Derived.Maps.OwnOps
import Derived.Maps.OwnSet
import Derived.Maps.Views
namespace Croft
def off (t : Nat) : Nat → Nat
  | 0 => 0
  | k + 1 => off t k + (t + 1 - k)
def idx (t p q : Nat) : Nat := off t (min p q) + (max p q - min p q)
end Croft
namespace Go.Proofs.YtploomncapiloaaGreatDoor
open Go.RowKit Go.Maps Croft
theorem ilaw : Keyed Tryz.prog 3 := int_keyed Tryz.underlying3
def heldR (v : Value) : Option (DataW Value × List MemPlace) := some (.held v, [])
theorem ownsMap_tight {w : World} {P : Program} {k : TypeId} {b n : Nat} {D : DataW Value} (h : w.ownsMap P k heldR b n D) : w.ownsMap P k heldR b (Maps.size D) D := by
  obtain ⟨es, clock, hb, F, hs, hD⟩ := h
  refine ⟨es, clock, hb, F, ?_, hD⟩
  have := length_read (P := P) (k := k) (R0 := heldR) es
  rw [hD]
  simp only [Maps.size]
  omega
structure StoreIs (w : World) (base mb sz : Nat) (S : Int → Option (List Int)) (V : Int → Value) : Prop where
  map : ∃ D, w.ownsMap Tryz.prog 3 heldR mb sz D ∧ Maps.size D = sz ∧ (∀ z : Int, Maps.has D (.int .i64 z) = (S z).isSome) ∧ (∀ (z : Int) (d : DataW Value), (S z).isSome = true → D.atKey (.int .i64 z) d = .held (V z))
  rows : ∀ z zs, S z = some zs → OwnNums w base (V z) zs
  le : base ≤ mb
theorem zeroNums (w : World) : (zeroValue 64).run Tryz.prog w = .ok (.slice none 0 0) w := by kernel_rfl
theorem keyOf_i64 {z : Int} (hz : I64 z) : keyOf Tryz.prog 3 (.int .i64 z) = some (.int .i64 z) := keyOf_int_mk Tryz.underlying3 (WalkArith.wf_i64 (by unfold I64 at hz; omega))
theorem StoreIs.lt {w : World} {base mb sz : Nat} {S : Int → Option (List Int)} {V : Int → Value} (h : StoreIs w base mb sz S V) : mb < w.heap.size := by
  obtain ⟨D, h1, _⟩ := h.map
  exact h1.lt
theorem StoreIs.below {w w' : World} {base mb sz : Nat} {S : Int → Option (List Int)} {V : Int → Value} (h : StoreIs w base mb sz S V) (hb : Below w.heap.size w w') : StoreIs w' base mb sz S V := by
  obtain ⟨D, h1, h2⟩ := h.map
  exact ⟨⟨D, h1.kept (row := none) ⟨hb.os, hb.tape, hb.output, hb.size, fun k hk _ => hb.block k hk⟩ (by simp), h2⟩, fun z zs hz => (h.rows z zs hz).below hb, h.le⟩
theorem StoreIs.drewN {w : World} {base mb sz : Nat} {S : Int → Option (List Int)} {V : Int → Value} (h : StoreIs w base mb sz S V) (n : Nat) : StoreIs (w.drewN n) base mb sz S V := h.below (below_drewN (Below.refl _ _) n)
theorem StoreIs.look {w : World} {base mb sz : Nat} {S : Int → Option (List Int)} {V : Int → Value} (h : StoreIs w base mb sz S V) {z : Int} (hz : I64 z) (hs : (S z).isSome = true) :
    (Instr.lookup 117 (.map (some mb)) (.int .i64 z) false).run Tryz.prog w = .ok (V z) w := by
  obtain ⟨D, h1, _, _, h4⟩ := h.map
  obtain ⟨v, ps, hrun, hv⟩ := h1.lookup ilaw Tryz.underlying117 (zeroNums w) (zd := .held (.slice none 0 0)) (zp := []) rfl (keyOf_i64 hz)
  have e : heldR v = some (.held (V z), ps) := hv.trans (by rw [h4 z _ hs])
  have e2 : v = V z := by
    have := congrArg (fun o => o.map (·.1)) e
    simp only [heldR, Option.map_some, Option.some.injEq, DataW.held.injEq] at this
    exact this
  rw [hrun, e2]
theorem StoreIs.lookOk {w : World} {base mb sz : Nat} {S : Int → Option (List Int)} {V : Int → Value} (h : StoreIs w base mb sz S V) {z : Int} (hz : I64 z) :
    ∃ v, (Instr.lookup 117 (.map (some mb)) (.int .i64 z) true).run Tryz.prog w = .ok (.tuple #[v, .bool (S z).isSome]) w := by
  obtain ⟨D, h1, _, h3, _⟩ := h.map
  obtain ⟨v, ps, hrun, hv⟩ := h1.look_ok ilaw Tryz.underlying117 (zeroNums w) (zd := .held (.slice none 0 0)) (zp := []) rfl (keyOf_i64 hz)
  rw [h3 z] at hrun
  exact ⟨v, hrun⟩
def upd (S : Int → Option (List Int)) (z : Int) (l : Option (List Int)) : Int → Option (List Int) := fun y => if y = z then l else S y
def updV (V : Int → Value) (z : Int) (v : Value) : Int → Value := fun y => if y = z then v else V y
theorem own_turned {w w' : World} {b : Nat} {P : Program} {k : TypeId} {n : Nat} {D : DataW Value} (h : w.ownsMap P k heldR b n D) (hg : w.grownBy w' (some b)) {base : Nat} {v : Value} {zs : List Int} (ho : OwnNums w base v zs) : OwnNums w' base v zs := by
  obtain ⟨es, clock, hb, _⟩ := h
  refine ⟨⟨ho.1.1, ?_⟩, ho.2⟩
  rcases ho.1.2 with h0 | ⟨g, cap, cur, rfl, h1, h2, h3⟩
  · exact .inl h0
  · refine .inr ⟨g, cap, cur, rfl, h1, ?_, h3⟩
    have hlt : g < w.heap.size := (Array.getElem?_eq_some_iff.1 h2).1
    rw [hg.block g hlt (fun e => ?_)]
    · exact h2
    · injection e with e
      subst e
      rw [hb] at h2
      cases h2
theorem StoreIs.put {w w' : World} {base mb sz : Nat} {S : Int → Option (List Int)} {V : Int → Value} (hr : ∀ z zs, S z = some zs → OwnNums w base (V z) zs) (hle : base ≤ mb) {D : DataW Value} (h1 : w.ownsMap Tryz.prog 3 heldR mb sz D) (h2 : Maps.size D = sz) (h3 : ∀ z : Int, Maps.has D (.int .i64 z) = (S z).isSome) (h4 : ∀ (z : Int) (d : DataW Value), (S z).isSome = true → D.atKey (.int .i64 z) d = .held (V z))
    {z : Int} {v : Value} {zs : List Int} (hv : OwnNums w base v zs) {n : Nat} (h' : w'.ownsMap Tryz.prog 3 heldR mb n (D.put (.int .i64 z) (.held v))) (hg : w.grownBy w' (some mb)) : StoreIs w' base mb (if (S z).isSome = true then sz else sz + 1) (upd S z (some zs)) (updV V z v) := by
  have hm : IsMap D := h1.isMap
  have ht : Tidy D := h1.tidy ilaw
  have hk : WideAt.IsKeyLit (.int .i64 z) := trivial
  have hsz : Maps.size (D.put (.int .i64 z) (.held v)) = if (S z).isSome = true then sz else sz + 1 := by
    rw [size_put ht, h3 z, h2]
  refine ⟨⟨_, by rw [← hsz]; exact ownsMap_tight h', hsz, fun y => ?_, fun y d hy => ?_⟩, fun y ys hy => ?_, hle⟩
  · unfold upd
    by_cases he : y = z
    · subst he; rw [has_put_same hm hk, if_pos rfl]; rfl
    · rw [has_put_other (by intro e; injection e with _ e; exact he e), if_neg he, h3 y]
  · unfold upd at hy
    unfold updV
    by_cases he : y = z
    · subst he; rw [atKey_put_same hm hk, if_pos rfl]
    · rw [atKey_put_other (by intro e; injection e with _ e; exact he e), if_neg he]
      rw [if_neg he] at hy
      exact h4 y d hy
  · unfold upd at hy
    unfold updV
    by_cases he : y = z
    · subst he
      rw [if_pos rfl] at hy ⊢
      injection hy with hy
      subst hy
      exact own_turned h1 hg hv
    · rw [if_neg he] at hy ⊢
      exact own_turned h1 hg (hr y ys hy)
theorem StoreIs.del {w w' : World} {base mb sz : Nat} {S : Int → Option (List Int)} {V : Int → Value} (hr : ∀ z zs, S z = some zs → OwnNums w base (V z) zs) (hle : base ≤ mb) {D : DataW Value} (h1 : w.ownsMap Tryz.prog 3 heldR mb sz D) (h2 : Maps.size D = sz) (h3 : ∀ z : Int, Maps.has D (.int .i64 z) = (S z).isSome) (h4 : ∀ (z : Int) (d : DataW Value), (S z).isSome = true → D.atKey (.int .i64 z) d = .held (V z))
    {z : Int} (hz : (S z).isSome = true) {n : Nat} (h' : w'.ownsMap Tryz.prog 3 heldR mb n (D.del (.int .i64 z))) (hg : w.grownBy w' (some mb)) : StoreIs w' base mb (sz - 1) (upd S z none) V := by
  have ht : Tidy D := h1.tidy ilaw
  have hsz : Maps.size (D.del (.int .i64 z)) = sz - 1 := by
    have := size_del (k := .int .i64 z) ht
    rw [h3 z, if_pos hz, h2] at this
    omega
  refine ⟨⟨_, by rw [← hsz]; exact ownsMap_tight h', hsz, fun y => ?_, fun y d hy => ?_⟩, fun y ys hy => ?_, hle⟩
  · unfold upd
    by_cases he : y = z
    · subst he; rw [has_del_same, if_pos rfl]; rfl
    · rw [has_del_other (by intro e; injection e with _ e; exact he e), if_neg he, h3 y]
  · unfold upd at hy
    by_cases he : y = z
    · rw [if_pos he] at hy; cases hy
    · rw [atKey_del_other (by intro e; injection e with _ e; exact he e)]
      rw [if_neg he] at hy
      exact h4 y d hy
  · unfold upd at hy
    by_cases he : y = z
    · rw [if_pos he] at hy; cases hy
    · rw [if_neg he] at hy
      exact own_turned h1 hg (hr y ys hy)
structure KeysIs (w : World) (base kb mb n t last sz : Nat) (S : Int → Option (List Int)) (V : Int → Value) : Prop where
  cell : w.heap[kb]? = some (.cells #[.int .i64 n, .int .i64 t, .int .i64 last, .map (some mb)] 142 (0, 0))
  store : StoreIs w base mb sz S V
  le : base ≤ kb
  len : ∀ z zs, S z = some zs → zs.length = n ∧ 1 ≤ z ∧ z ≤ last
  sz8 : sz ≤ 8
theorem KeysIs.lt {w : World} {base kb mb n t last sz : Nat} {S : Int → Option (List Int)} {V : Int → Value} (h : KeysIs w base kb mb n t last sz S V) : kb < w.heap.size := (Array.getElem?_eq_some_iff.1 h.cell).1
theorem KeysIs.below {w w' : World} {base kb mb n t last sz : Nat} {S : Int → Option (List Int)} {V : Int → Value} (h : KeysIs w base kb mb n t last sz S V) (hb : Below w.heap.size w w') : KeysIs w' base kb mb n t last sz S V :=
  ⟨(hb.block kb h.lt).trans h.cell, h.store.below hb, h.le, h.len, h.sz8⟩
theorem KeysIs.drewN {w : World} {base kb mb n t last sz : Nat} {S : Int → Option (List Int)} {V : Int → Value} (h : KeysIs w base kb mb n t last sz S V) (m : Nat) : KeysIs (w.drewN m) base kb mb n t last sz S V := h.below (below_drewN (Below.refl _ _) m)
theorem KeysIs.cells {w : World} {base kb mb n t last sz : Nat} {S : Int → Option (List Int)} {V : Int → Value} (h : KeysIs w base kb mb n t last sz S V) :
    w.cell? ⟨kb, 0, none⟩ = some (.int .i64 n) ∧ w.cell? ⟨kb, 1, none⟩ = some (.int .i64 t) ∧ w.cell? ⟨kb, 2, none⟩ = some (.int .i64 last) ∧ w.cell? ⟨kb, 3, none⟩ = some (.map (some mb)) ∧ ∀ j, w.frozen? ⟨kb, j, none⟩ = false := by
  have hc := h.cell
  refine ⟨?_, ?_, ?_, ?_, fun j => ?_⟩
  · simp [World.cell?, hc]
  · simp [World.cell?, hc]
  · simp [World.cell?, hc]
  · simp [World.cell?, hc]
  · simp [World.frozen?, hc]
end Go.Proofs.YtploomncapiloaaGreatDoor
namespace Go.Proofs.YtploomncapiloaaGreatDoor
open Go.RowKit Croft
theorem shs_append (a b : List (Int × Int)) : shs (a ++ b) = shs a ++ shs b := by simp [shs]
theorem shs_one (l : List (Int × Int)) : ∀ u ∈ shs l, u.oneCell' = true := by
  intro u hu
  unfold shs at hu
  obtain ⟨s, _, hs⟩ := List.mem_flatMap.1 hu
  simp at hs
  rcases hs with rfl | rfl <;> rfl
theorem OwnShares.kept {w w' : World} {base : Nat} {v : Value} {l : List (Int × Int)} {row : Option Nat} (h : OwnShares w base v l) (hg : w.grownBy w' row) (hne : v.ownBlock = none ∨ v.ownBlock ≠ row) : OwnShares w' base v l := ⟨h.1.kept hg hne, h.2⟩
section
variable {P : Program} {ops : Array Oper} {md : Region.Mode} {C : World → Prop}
def pickT : List Bool → List Oper → List Oper
  | true :: bs, o :: l => o :: pickT bs l
  | false :: bs, _ :: l => pickT bs l
  | _, _ => []
def pickF : List Bool → List Oper → List Oper
  | true :: bs, _ :: l => pickF bs l
  | false :: bs, o :: l => o :: pickF bs l
  | _, _ => []
def cntT : List Bool → Nat
  | true :: bs => cntT bs + 1
  | false :: bs => cntT bs
  | [] => 0
def cntF : List Bool → Nat
  | true :: bs => cntF bs
  | false :: bs => cntF bs + 1
  | [] => 0
theorem cnt_all : ∀ bs : List Bool, cntT bs + cntF bs = bs.length
  | [] => rfl
  | true :: bs => by have := cnt_all bs; simp only [cntT, cntF, List.length_cons]; omega
  | false :: bs => by have := cnt_all bs; simp only [cntT, cntF, List.length_cons]; omega
def markT : List Bool → Nat → Array Bool → Array Bool
  | true :: bs, k, listed => markT bs (k + 1) (listed.setIfInBounds k true)
  | false :: bs, k, listed => markT bs (k + 1) listed
  | [], _, listed => listed
theorem markT_size : ∀ (bs : List Bool) (k : Nat) (listed : Array Bool), (markT bs k listed).size = listed.size
  | [], _, _ => rfl
  | true :: bs, k, listed => by rw [markT, markT_size]; simp
  | false :: bs, k, listed => by rw [markT, markT_size]
theorem markT_other : ∀ (bs : List Bool) (k : Nat) (listed : Array Bool) (j : Nat) (d : Bool), (j < k ∨ bs[j - k]? ≠ some true) → (markT bs k listed).getD j d = listed.getD j d
  | [], _, _, _, _, _ => rfl
  | b :: bs, k, listed, j, d, h => by
    have h' : j < k + 1 ∨ bs[j - (k + 1)]? ≠ some true := by
      rcases h with h | h
      · exact .inl (by omega)
      · rcases Nat.lt_or_ge j (k + 1) with h1 | h1
        · exact .inl h1
        · right
          rw [show j - k = (j - (k + 1)) + 1 by omega, List.getElem?_cons_succ] at h
          exact h
    cases b with
    | false => rw [markT]; exact markT_other bs (k + 1) listed j d h'
    | true =>
      rw [markT, markT_other bs (k + 1) _ j d h']
      refine getD_set_ne d ?_
      rintro rfl
      rcases h with h | h
      · omega
      · simp at h
def movesM (md : Region.Mode) (ops : Array Oper) : List Bool → List Oper → Nat → Array Bool → Bool
  | true :: bs, o :: l, k, listed => o.guard.isNone && (match o.op with | .move _ => true | _ => false) && (o.after.all fun e => !Region.binds md e) && (Region.ready md ops listed).contains k && Region.free md ops listed k && movesM md ops bs l (k + 1) (listed.setIfInBounds k true)
  | false :: bs, _ :: l, k, listed => movesM md ops bs l (k + 1) listed
  | [], _, _, _ => true
  | _, [], _, _ => false
theorem take_movesM {Q : Exit → Act → World → Prop} (hsel : Region.noSelect ops = true) (hQ : ∀ c (a : Act) d v w, Q (.panic c) (a.put (some d) v) w → Q (.panic c) a w) (fuel : Nat) (w : World) :
    ∀ (bs : List Bool) (l : List Oper) (k : Nat) (listed : Array Bool) (a : Act), (∀ j, j < l.length → l[j]? = ops[k + j]?) → movesM md ops bs l k listed = true →
    wpAny P md ops Q fuel (markT bs k listed) (putAll (pickT bs l) a) w → wpAny P md ops Q (cntT bs + fuel) listed a w
  | [], l, k, listed, a, _, _, h => by
    rw [cntT, Nat.zero_add]
    cases l <;> exact h
  | true :: bs, [], k, listed, a, _, hB, _ => by simp [movesM] at hB
  | false :: bs, [], k, listed, a, _, hB, _ => by simp [movesM] at hB
  | false :: bs, o :: l, k, listed, a, hl, hB, h => by
    rw [cntT]
    rw [movesM] at hB
    exact take_movesM hsel hQ fuel w bs l (k + 1) listed a (fun j hj => by have := hl (j + 1) (by simp; omega); simpa [Nat.add_assoc, Nat.add_comm 1 j] using this) hB h
  | true :: bs, o :: l, k, listed, a, hl, hB, h => by
    have h0 : ops[k]? = some o := by simpa using (hl 0 (by simp)).symm
    simp only [movesM, Bool.and_eq_true] at hB
    obtain ⟨⟨⟨⟨⟨hg, hmv⟩, _⟩, hr⟩, hf⟩, hB'⟩ := hB
    have hg' : o.guard = none := by simpa using hg
    rw [cntT, show cntT bs + 1 + fuel = (cntT bs + fuel) + 1 by omega]
    refine wpAny_take h0 hsel hf hr (fun c a' w h => by cases hd : o.dst with
      | none => rw [hd] at h; exact h
      | some d => rw [hd] at h; exact hQ c a' d _ w h) (v := moved o a) (.inl ⟨by simp [Region.wanted, hg'], fun w => ?_⟩) ?_
    · unfold moved
      split at hmv
      · rename_i x hx
        simp [execOp, hx]
      · cases hmv
    · exact take_movesM hsel hQ fuel w bs l (k + 1) _ _ (fun j hj => by have := hl (j + 1) (by simp; omega); simpa [Nat.add_assoc, Nat.add_comm 1 j] using this) hB' h
def sinkM (md : Region.Mode) (ops : Array Oper) (m0 : Array Bool) (n : Nat) : Bool :=
  (List.range n).all fun i => m0.getD i false || (List.range (n + 1)).any fun j => decide (i < j) && Region.waitsFor md ops j i
theorem tail_waitsM {m0 : Array Bool} {n : Nat} {listed : Array Bool} (hs : sinkM md ops m0 n = true) (hc : Region.chainB md ops n = true) (hn : n < ops.size) (inv : HeadInv md ops n listed) (hm : ∀ i, m0.getD i false = true → listed.getD i false = true) :
    ∀ (d i : Nat), n - i = d → i < n → listed.getD i true = false → ∀ t, n ≤ t → t ∉ Region.ready md ops listed := by
  intro d
  induction d using Nat.strongRecOn with
  | _ d ih =>
    intro i hd hi hun t ht hr
    obtain ⟨_, ot, hot, hall⟩ := mem_ready.1 hr
    have htlt : t < ops.size := (Array.getElem?_eq_some_iff.1 hot).1
    by_cases htn : t = n
    · subst htn
      have h1 := List.all_eq_true.1 hs i (List.mem_range.2 hi)
      simp only [Bool.or_eq_true] at h1
      have h1 := h1.resolve_left (fun h => by have := hm i h; rw [getD_both hun] at this; cases this)
      obtain ⟨j, hj, hj2⟩ := List.any_eq_true.1 h1
      simp only [Bool.and_eq_true, decide_eq_true_eq] at hj2
      obtain ⟨oj, hoj, e, he, hb, hon⟩ := Region.waitsFor_spec hj2.2
      have hjle : j ≤ t := by have := List.mem_range.1 hj; omega
      by_cases hjt : j = t
      · subst hjt
        have : oj = ot := Option.some.inj (hoj.symm.trans hot)
        subst this
        have h2 := hall e he hb
        rw [hon, getD_both hun] at h2
        cases h2
      · cases hl : listed.getD j false with
        | true =>
          have h2 := inv.closed j oj hoj hl e he hb
          rw [hon, getD_both hun] at h2
          cases h2
        | false =>
          have hjs : j < listed.size := by rw [inv.size]; omega
          exact ih (t - j) (by omega) j rfl (by omega) (getD_in hjs hl) t (Nat.le_refl _) hr
    · have h1 := List.all_eq_true.1 hc t (List.mem_range.2 htlt)
      simp only [Bool.or_eq_true, decide_eq_true_eq] at h1
      rcases h1 with h1 | h1
      · omega
      · obtain ⟨o', ho', e, he, hb, hon⟩ := Region.waitsFor_spec h1
        have : o' = ot := Option.some.inj (ho'.symm.trans hot)
        subst this
        have h2 := hall e he hb
        rw [hon, getD_both (inv.tail (t - 1) (by omega) (by omega))] at h2
        cases h2
theorem wpAnyLQ_firstM {m0 : Array Bool} {n i : Nat} {oi : Oper} {v : Value} {L : Array Bool → Act → Prop} (hi : ops[i]? = some oi) (hsel : ∀ (j : Nat) (o : Oper) cs b, ops[j]? = some o → o.op ≠ .select cs b)
    (hs : sinkM md ops m0 n = true) (hc : Region.chainB md ops n = true) (hn : n < ops.size) (hin : i < n)
    (hdone : ∀ listed a, L listed a → ∀ j ∈ Region.ready md ops listed, n ≤ j) :
    ∀ (f : Nat) (listed : Array Bool) (a : Act), HeadInv md ops n listed → (∀ i, m0.getD i false = true → listed.getD i false = true) →
      (∀ j oj, ops[j]? = some oj → j ≠ i → listed.getD j true = false → (∀ e ∈ oj.after, Region.binds md e = true → e.on ≠ i) → oi.apart ops oj = true) →
      i ∈ Region.ready md ops listed → YieldsIn P ops C oi v a →
      wpAnyLQ P md ops C n L f (listed.setIfInBounds i true) (a.put oi.dst v) → wpAnyLQ P md ops C n L (f + 1) listed a := by
  intro f
  induction f with
  | zero =>
    intro listed a inv hm _ hr hy H
    have hun := (mem_ready.1 hr).1
    refine ⟨fun h => (by rw [h] at hr; cases hr), fun j hj => ?_⟩
    have hjn : j < n := by
      rcases Nat.lt_or_ge j n with h | h
      · exact h
      · exact absurd hj (tail_waitsM hs hc hn inv hm _ i rfl hin hun j h)
    refine ⟨hjn, ?_⟩
    by_cases hji : j = i
    · subst hji; exact hy.qOp hi H
    · have := hdone _ _ H j (ready_mono hj hji)
      omega
  | succ f ih =>
    intro listed a inv hm hfree hr hy H
    have hun := (mem_ready.1 hr).1
    refine ⟨fun h => (by rw [h] at hr; cases hr), fun j hj => ?_⟩
    have hjn : j < n := by
      rcases Nat.lt_or_ge j n with h | h
      · exact h
      · exact absurd hj (tail_waitsM hs hc hn inv hm _ i rfl hin hun j h)
    refine ⟨hjn, ?_⟩
    by_cases hji : j = i
    · subst hji; exact hy.qOp hi H
    · have h1 := (H.2 j (ready_mono hj hji)).2
      obtain ⟨hjun, oj, hoj, hall⟩ := mem_ready.1 hj
      have hnot : ∀ e ∈ oj.after, Region.binds md e = true → e.on ≠ i := fun e he hb heq => by
        have h1 := hall e he hb
        rw [heq, getD_both hun] at h1
        cases h1
      have h2 := qOp_put hoj (hfree j oj hoj hji hjun hnot) (fun cs b => hsel i oi cs b hi) (fun cs b => hsel j oj cs b hoj) hy h1
      have hfree' : ∀ k ok, ops[k]? = some ok → k ≠ i → (listed.setIfInBounds j true).getD k true = false →
          (∀ e ∈ ok.after, Region.binds md e = true → e.on ≠ i) → oi.apart ops ok = true := fun k ok hk hki hun hno => by
        refine hfree k ok hk hki ?_ hno
        by_cases hjk : j = k
        · subst hjk; exact hjun
        · rw [getD_set_ne true hjk] at hun; exact hun
      refine qOp_mono (fun a' h3 => ih (listed.setIfInBounds j true) a' (inv.set hj hjn) (fun q hq => getD_set_true (hm q hq)) hfree' (ready_mono hr (Ne.symm hji)) h3.1 ?_) h2
      rw [Array.setIfInBounds_comm _ _ hji]
      exact h3.2
def lexM (md : Region.Mode) (ops : Array Oper) (g n : Nat) : List Bool → Nat → Array Bool → Bool
  | [], k, listed => decide (k = n) && Region.seqB md ops g n listed
  | true :: bs, k, listed => lexM md ops g n bs (k + 1) listed
  | false :: bs, k, listed => (Region.ready md ops listed).contains k && Region.free md ops listed k && decide (k < n) && lexM md ops g n bs (k + 1) (listed.setIfInBounds k true)
theorem wpAnyLQ_lexM {m0 : Array Bool} {n g : Nat} {Lq : Act → Prop} (hsel : Region.noSelect ops = true) (hs : sinkM md ops m0 n = true) (hc : Region.chainB md ops n = true) (hn : n < ops.size) :
    ∀ (bs : List Bool) (l : List Oper) (k : Nat) (listed : Array Bool) (a : Act), (∀ j, j < l.length → l[j]? = ops[k + j]?) → bs.length = l.length → HeadInv md ops n listed → (∀ i, m0.getD i false = true → listed.getD i false = true) →
    lexM md ops g n bs k listed = true → wpQuiet P ops C Lq (pickF bs l) a →
    wpAnyLQ P md ops C n (fun listed' a' => Region.seqB md ops g n listed' = true ∧ Lq a') (cntF bs) listed a
  | [], l, k, listed, a, _, hk, _, _, hB, h => by
    have : l = [] := List.eq_nil_of_length_eq_zero (by simpa using hk.symm)
    subst this
    simp only [lexM, Bool.and_eq_true] at hB
    exact ⟨hB.2, h⟩
  | true :: bs, [], k, listed, a, _, hk, _, _, _, _ => by simp at hk
  | false :: bs, [], k, listed, a, _, hk, _, _, _, _ => by simp at hk
  | true :: bs, o :: l, k, listed, a, hl, hk, inv, hm, hB, h => by
    rw [cntF]
    exact wpAnyLQ_lexM hsel hs hc hn bs l (k + 1) listed a (fun j hj => by have := hl (j + 1) (by simp; omega); simpa [Nat.add_assoc, Nat.add_comm 1 j] using this) (by simpa using hk) inv hm hB h
  | false :: bs, o :: l, k, listed, a, hl, hk, inv, hm, hB, h => by
    have h0 : ops[k]? = some o := by simpa using (hl 0 (by simp)).symm
    simp only [lexM, Bool.and_eq_true, decide_eq_true_eq] at hB
    obtain ⟨⟨⟨hr, hf⟩, hkn⟩, hB'⟩ := hB
    have hr' : k ∈ Region.ready md ops listed := by simpa using hr
    have hst : qOp P ops C k (wpQuiet P ops C Lq (pickF bs l)) a := by unfold qOp; simp only [h0]; exact h
    obtain ⟨v, hy, hK⟩ := yieldsIn_of_qOp h0 hst
    exact wpAnyLQ_firstM h0 (Region.noSelect_spec hsel) hs hc hn hkn (fun listed' a' hL => seqB_ready hL.1) (cntF bs) listed a inv hm (Region.free_spec h0 hf) hr' hy
      (wpAnyLQ_lexM hsel hs hc hn bs l (k + 1) _ _ (fun j hj => by have := hl (j + 1) (by simp; omega); simpa [Nat.add_assoc, Nat.add_comm 1 j] using this) (by simpa using hk) (inv.set hr' hkn) (fun q hq => getD_set_true (hm q hq)) hB' hK)
def maskOk (md : Region.Mode) (l : List Oper) (bs : List Bool) : Bool :=
  (l.zip bs).all fun p => !p.2 || p.1.after.all fun e => !Region.binds md e
def preM (md : Region.Mode) (l : List Oper) (bs : List Bool) : Bool :=
  Region.noSelect l.toArray && decide (bs.length < l.length) && movesM md l.toArray bs (l.take bs.length) 0 (Array.replicate l.length false) && maskOk md l bs &&
    sinkM md l.toArray (markT bs 0 (Array.replicate l.length false)) bs.length && Region.chainB md l.toArray bs.length && lexM md l.toArray (l.length - bs.length) bs.length bs 0 (markT bs 0 (Array.replicate l.length false))
theorem wp_region_quiet_mask {id : Nat} {Q : Exit → Act → World → Prop} {a : Act} {w : World} {l : List Oper} (bs : List Bool) (hm : P.follows .mixedOrders = true) (hB : preM .any l bs = true)
    (hQ : ∀ c (a : Act) d v w, Q (.panic c) (a.put (some d) v) w → Q (.panic c) a w)
    (h : wpQuiet P l.toArray (fun w' => ∃ n, w' = w.drewN n) (fun a' => ∀ nq, wpList P l.toArray Q (l.drop bs.length) a' (w.drewN nq)) (pickF bs (l.take bs.length)) (putAll (pickT bs (l.take bs.length)) a)) : (Code.region id l.toArray true).wp P Q a w := by
  simp only [preM, Bool.and_eq_true, decide_eq_true_eq] at hB
  obtain ⟨⟨⟨⟨⟨⟨hsel, hn⟩, hmv⟩, hemp⟩, hs⟩, hc⟩, hlex⟩ := hB
  have hn' : bs.length < l.toArray.size := by simpa using hn
  have htl : (l.take bs.length).length = bs.length := by simp; omega
  have hdl : (l.drop bs.length).length = l.length - bs.length := by simp
  have inv0 : HeadInv .any l.toArray bs.length (markT bs 0 (Array.replicate l.length false)) := by
    refine ⟨by rw [markT_size]; simp, fun j oj hj hl e he hb => ?_, fun t ht ht' => ?_⟩
    · by_cases hbj : bs[j]? = some true
      · exfalso
        have hlj : l[j]? = some oj := by simpa using hj
        have hz : (l.zip bs)[j]? = some (oj, true) := by rw [List.getElem?_zip_eq_some]; exact ⟨hlj, hbj⟩
        have h1 := List.all_eq_true.1 hemp _ (List.mem_of_getElem? hz)
        simp only [Bool.not_true, Bool.false_or] at h1
        have h2 := Array.all_eq_true'.1 h1 e he
        rw [hb] at h2
        cases h2
      · rw [markT_other bs 0 _ j _ (.inr (by simpa using hbj)), getD_replicate_false] at hl
        cases hl
    · rw [markT_other bs 0 _ t _ (.inr (by rw [Nat.sub_zero, List.getElem?_eq_none (by omega)]; simp))]
      have : t < l.length := by simpa using ht'
      simp [Array.getD, this]
  refine wp_region_any hm ?_
  have hix : ∀ j, j < (l.take bs.length).length → (l.take bs.length)[j]? = l.toArray[0 + j]? := fun j hj => by
    rw [htl] at hj
    rw [List.getElem?_take, if_pos hj]
    simp
  have H := wpAnyLQ_lexM (P := P) (C := fun w' => ∃ n, w' = w.drewN n) (md := .any) (m0 := markT bs 0 (Array.replicate l.length false)) (g := l.length - bs.length) hsel hs hc hn' bs (l.take bs.length) 0 _ (putAll (pickT bs (l.take bs.length)) a) hix (by rw [htl]) inv0 (fun _ hi => hi) hlex h
  have H2 := wpAny_of_headQ (Q' := Q) (g := l.length - bs.length) (fun listed a' w' hw' hL => by
    obtain ⟨nq, rfl⟩ := hw'
    have := wpAny_of_seq (md := .any) (Q' := Q) (l.drop bs.length) bs.length listed a' (w.drewN nq) (fun j => by simp [List.getElem?_drop]) (by rw [hdl]; exact hL.1) (hL.2 nq)
    rwa [hdl] at this) _ _ _ { w with drawn := w.drawn + 1 } ⟨1, rfl⟩ H
  have H3 := take_movesM (P := P) (md := .any) hsel hQ (cntF bs + (l.length - bs.length)) { w with drawn := w.drawn + 1 } bs (l.take bs.length) 0 (Array.replicate l.length false) a hix hmv H2
  have e : l.toArray.size = cntT bs + (cntF bs + (l.length - bs.length)) := by have := cnt_all bs; simp; omega
  rw [e]
  have e2 : cntT bs + (cntF bs + (l.length - bs.length)) = l.length := by have := cnt_all bs; omega
  rw [e2] at H3 ⊢
  exact H3
end
set_option maxRecDepth 100000 in
theorem nClone_any (va : Value) (l : List Int) (w : World) (h1 : IsNums w va l) (hp : 0 < l.length) :
    Calls Tryz.prog 197 #[va] w fun e w' => ∃ v, e = .returned v ∧ OwnNums w' w.heap.size v l ∧ Below w.heap.size w w' := by
  have KA := Lib.hid h1
  obtain ⟨A1, c1, rfl, hc1, hm1, hl1, hu1, hr1⟩ := h1
  obtain ⟨b, o, rfl, hb, _⟩ := hr1.at_ (j := 0) (by rw [u64s_length]; omega)
  have KO := Lib.hid (lit_own w w.heap.size [] (by simp) (by simp) (Nat.le_refl _))
  have hnil : ∀ W, (binOp .eql 64 (.slice (some ⟨b, o, none⟩) l.length c1) (.slice none 0 0)).run Tryz.prog W = .ok (.bool false) W := fun W => Lib.run_eql_slice_nil W _ _ _ _ _ _ _ Tryz.underlying64
  clear hu1 hr1 hm1 hb
  go_enter Tryz.func197, Tryz.ntmps197
  go_wp2_with (at_builtin; go_loud (refine wpList_join rfl _ _ rfl w.heap.size _ _ [] l rfl KO.out rfl (KA.out.below ((Below.refl _ _).alloc (Nat.le_refl _) _)) (by simp; omega) (by rw [size_alloc]; omega) ?_))
  intro v' w' ho hb
  have K := Lib.hid (show OwnNums w' w.heap.size v' l from ho)
  have B := Lib.hid (((Below.refl w.heap.size w).alloc (Nat.le_refl _) (.cells (u64s []).toArray 67)).trans hb)
  clear ho hb
  go_wp2_with fail
  go_ret
  exact ⟨_, rfl, K.out, B.out⟩
def clrL (r b : List Int) (t : Int) : List Int := List.zipWith (fun u v => ofF (toF u - toF t * toF v)) r b
theorem clrL_length {r b : List Int} (t : Int) (h : r.length = b.length) : (clrL r b t).length = r.length := by unfold clrL; rw [List.length_zipWith, h, Nat.min_self]
theorem clrL_get {r b : List Int} (t : Int) {j : Nat} {u v : Int} (hu : r[j]? = some u) (hv : b[j]? = some v) : (clrL r b t)[j]? = some (ofF (toF u - toF t * toF v)) := by
  unfold clrL
  rw [List.getElem?_zipWith, hu, hv]
def partL (T r : List Int) (j : Nat) : List Int := T.take j ++ r.drop j
theorem partL_get {T r : List Int} (h : T.length = r.length) {j : Nat} (hj : j < r.length) : (partL T r j)[j]? = r[j]? := by
  unfold partL
  rw [List.getElem?_append_right (by simp; omega), List.length_take, Nat.min_eq_left (by omega), Nat.sub_self, List.getElem?_drop, Nat.add_zero]
theorem partL_set {T r : List Int} (h : T.length = r.length) {j : Nat} {z : Int} (hz : T[j]? = some z) : (partL T r j).set j z = partL T r (j + 1) := by
  have hj : j < T.length := (List.getElem?_eq_some_iff.1 hz).1
  unfold partL
  have e : (r.drop j).set 0 z = z :: r.drop (j + 1) := by
    rw [List.drop_eq_getElem_cons (show j < r.length by omega)]; rfl
  rw [List.set_append_right _ _ (by simp; omega), List.length_take, Nat.min_eq_left (by omega), Nat.sub_self, List.take_add_one, hz, e]
  simp
theorem set_self {α : Type} {l : List α} {i : Nat} {a : α} (h : l[i]? = some a) : l.set i a = l := by
  apply List.ext_getElem?
  intro k
  by_cases hk : k = i
  · subst hk
    rw [List.getElem?_set_self (List.getElem?_eq_some_iff.1 h).1, h]
  · rw [List.getElem?_set_ne (Ne.symm hk)]
theorem partL_start (T r : List Int) : partL T r 0 = r := by simp [partL]
theorem partL_end {T r : List Int} (h : T.length = r.length) : partL T r r.length = T := by
  unfold partL
  rw [List.take_of_length_le (by omega), List.drop_length, List.append_nil]
theorem set_get_same {α : Type} {l : List α} {i : Nat} {a b : α} (h : l[i]? = some a) : (l.set i b)[i]? = some b := List.getElem?_set_self (List.getElem?_eq_some_iff.1 h).1
set_option maxRecDepth 100000 in
set_option maxHeartbeats 2000000 in
theorem sClear_any (w : World) (base : Nat) (vg x y : Value) (vs : List Value) (rows : List (List Int)) (i a : Nat) (r b : List Int) (times : Int) (hG : Grid w base vg vs rows)
    (hx : vs[i]? = some x) (hy : vs[a]? = some y) (hr : rows[i]? = some r) (hb : rows[a]? = some b) (hia : i ≠ a) (hl : r.length = b.length) (hp : 0 < r.length) (hp2 : r.length ≤ 1000) (ht : 0 ≤ times) :
    Calls Tryz.prog 223 #[x, y, .int .u64 times] w fun e w' => e = .returned (.tuple #[]) ∧ Grid w' base vg vs (rows.set i (clrL r b times)) ∧ Below base w w' ∧ w.grownBy w' x.ownBlock := by
  obtain ⟨g, c, hv1, _, _, _, hg1, hg2⟩ := hG.at_ hr hp
  obtain ⟨q, d, hv2, _, _, _, hq1, hq2⟩ := hG.at_ hb (by omega)
  obtain rfl := Option.some.inj (hx.symm.trans hv1)
  obtain rfl := Option.some.inj (hy.symm.trans hv2)
  clear hv1 hv2
  obtain ⟨n, hn⟩ : ∃ n, n = r.length := ⟨_, rfl⟩
  rw [← hl, ← hn] at hy ⊢
  rw [← hn] at hx
  have HG := Lib.hid hG
  have HX := Lib.hid hx
  have HY := Lib.hid hy
  have HR := Lib.hid hr
  have HB := Lib.hid hb
  have HN := Lib.hid hn
  have HL := Lib.hid hl
  have HTL := Lib.hid (clrL_length times hl)
  rw [← hn] at hp hp2
  clear hG hx hy hr hb hn hl
  go_enter Tryz.func223, Tryz.ntmps223
  go_wp2_with fail
  go_loopw [9] (fun idx wr => ∃ j : Nat, j ≤ n ∧ idx = .int .i64 j ∧ Grid wr base vg vs (rows.set i (partL (clrL r b times) r j)) ∧ Below base w wr ∧ w.grownBy wr (some g)) (fun idx _ => n - (intOf idx).toNat)
  case atStart => exact ⟨0, Nat.zero_le _, rfl, by rw [partL_start, set_self HR.out]; exact HG.out, Below.refl _ _, ⟨rfl, rfl, rfl, Nat.le_refl _, fun _ _ _ => rfl⟩⟩
  case round =>
    obtain ⟨j, hj, rfl, hgr, hbel, hgw⟩ := hrel
    have KG := Lib.hid hgr
    have BEL := Lib.hid hbel
    have GW := Lib.hid hgw
    clear hgr hbel hgw
    by_cases hlt : j < n
    · have hdj : decide ((j : Int) < (n : Int)) = true := by simp; omega
      have hjr : j < r.length := by rw [← HN.out]; exact hlt
      have hjb : j < b.length := by rw [← HL.out]; exact hjr
      have hu : r[j]? = some r[j] := List.getElem?_eq_getElem hjr
      have hv : b[j]? = some b[j] := List.getElem?_eq_getElem hjb
      obtain ⟨u, hue⟩ : ∃ u, u = r[j] := ⟨_, rfl⟩
      obtain ⟨v, hve⟩ : ∃ v, v = b[j] := ⟨_, rfl⟩
      rw [← hue] at hu
      rw [← hve] at hv
      clear hue hve
      have hri := set_get_same (b := partL (clrL r b times) r j) HR.out
      have hrow := KG.out.row i _ _ HX.out hri
      have hrow2 := KG.out.row a _ b HY.out (by rw [List.getElem?_set_ne hia]; exact HB.out)
      have hcu := hrow.cell (show (partL (clrL r b times) r j)[j]? = some u by rw [partL_get HTL.out hjr]; exact hu)
      have hfu := hrow.frozen j
      have hcv := hrow2.cell hv
      have hu0 := ((hrow.2.2 u (List.mem_of_getElem? (show (partL (clrL r b times) r j)[j]? = some u by rw [partL_get HTL.out hjr]; exact hu)))).1
      have hv0 := (hrow2.2.2 v (List.mem_of_getElem? hv)).1
      have HSET := Lib.hid (partL_set HTL.out (clrL_get times hu hv))
      have HRI := Lib.hid hri
      have HU := Lib.hid (show U64 (ofF (toF u - toF times * toF v)) from U64.of_ofF _)
      clear hu hv hri hrow hrow2
      go_wp2_with fail
      refine wp_region_quiet_mask [true, true, false, false, false, false, false, false, false, false, false, false, false] (by kernel_rfl) (by kernel_rfl) (fun _ _ _ _ _ h => h) ?_
      simp only [List.length_cons, List.length_nil, Nat.zero_add, Nat.reduceAdd, List.take_succ_cons, List.take_zero, List.drop_succ_cons, List.drop_zero, pickT, pickF, putAll, moved]
      simp [Act.put, Act.eval]
      repeat (go_big_quiet_step ((first | exact quietL (fMul_any _ _ _ ht hv0) | exact quietL (fSub_any _ _ _ hu0 (ofF_nonneg _)))))
      refine wpQuiet_nil ?_
      intro nq
      have KG2 := Lib.hid ((KG.out.drewN nq).setNum HX.out HRI.out j HU.out)
      have BE2 := Lib.hid ((below_drewN BEL.out nq).setCell (p := ⟨g, j, none⟩) hg1 (.int .u64 (ofF (toF u - toF times * toF v))))
      have GW2 := Lib.hid ((GW.out.trans (show wr.grownBy (wr.drewN nq) (some g) from ⟨rfl, rfl, rfl, Nat.le_refl _, fun _ _ _ => rfl⟩)).trans (set_grown (wr.drewN nq) g j (.int .u64 (ofF (toF u - toF times * toF v)))))
      go_wp2_with fail
      simp only [toF_ofF]
      refine ⟨⟨j + 1, by omega, by go_num, ?_, BE2.out, GW2.out⟩, by simp [intOf] <;> omega⟩
      have h := KG2.out
      rw [List.set_set, HSET.out] at h
      exact h
    · obtain rfl : n = j := by omega
      have HE := Lib.hid (show partL (clrL r b times) r n = clrL r b times by rw [HN.out]; exact partL_end HTL.out)
      rw [HE.out] at KG
      go_wp2_with fail
      refine bodyPost_end (results_none rfl _ _ _) rfl ?_
      exact ⟨rfl, KG.out, BEL.out, GW.out⟩
end Go.Proofs.YtploomncapiloaaGreatDoor
