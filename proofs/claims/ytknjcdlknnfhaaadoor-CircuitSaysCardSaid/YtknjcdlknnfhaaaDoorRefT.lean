/- What the document's circuit tells, wire by wire. -/
import Derived.Test.YtknjcdlknnfhaaaDoorRefV
import Derived.Test.YtknjcdlknnfhaaaDoorClone
import Derived.Maps.OwnOps
import Derived.Maps.Views
namespace Croft
/-- the circuit ahead of wire i: of the first j wires those that are no inputs are numbers -/
def gsubAt (gs : List Gt) (W : List F) (j q : Nat) : Gt := match gs[q]? with
  | some g => if q < j ∧ g.kind ≠ 1 then ⟨2, 0, 0, ofF (co W q)⟩ else g
  | none => ⟨0, 0, 0, 0⟩
def gsubG (gs : List Gt) (W : List F) (i j : Nat) : List Gt := (List.range (i + 1)).map (gsubAt gs W j)
theorem gsubG_length (gs : List Gt) (W : List F) (i j : Nat) : (gsubG gs W i j).length = i + 1 := by simp [gsubG]
theorem gsubG_get (gs : List Gt) (W : List F) (i j q : Nat) (h : q < i + 1) : (gsubG gs W i j)[q]? = some (gsubAt gs W j q) := by simp [gsubG, h]
theorem gsubAt_late {gs : List Gt} {W : List F} {j q : Nat} {g : Gt} (h : gs[q]? = some g) (hq : j ≤ q) : gsubAt gs W j q = g := by
  unfold gsubAt
  rw [h]
  exact if_neg (by omega)
theorem gsubG_start {gs : List Gt} (W : List F) {i : Nat} (h : i < gs.length) : gsubG gs W i 0 = gs.take (i + 1) := by
  apply List.ext_getElem?
  intro q
  by_cases hq : q < i + 1
  · rw [gsubG_get _ _ _ _ _ hq, List.getElem?_take, if_pos hq, List.getElem?_eq_getElem (show q < gs.length by omega)]
    rw [gsubAt_late (List.getElem?_eq_getElem (show q < gs.length by omega)) (Nat.zero_le _)]
  · rw [List.getElem?_eq_none (by rw [gsubG_length]; omega), List.getElem?_take, if_neg hq]
theorem gsubG_step {gs : List Gt} (W : List F) {i j : Nat} {g : Gt} (h : gs[j]? = some g) (hj : j < i) (hi : i < gs.length) : gsubG gs W i (j + 1) = if g.kind = 1 then gsubG gs W i j else (gsubG gs W i j).set j ⟨2, 0, 0, ofF (co W j)⟩ := by
  apply List.ext_getElem?
  intro q
  by_cases hq : q < i + 1
  · have hg : gs[q]? = some gs[q] := List.getElem?_eq_getElem (by omega)
    rw [gsubG_get _ _ _ _ _ hq]
    by_cases hk : g.kind = 1
    · rw [if_pos hk, gsubG_get _ _ _ _ _ hq]
      unfold gsubAt
      rw [hg]
      by_cases e : q = j
      · subst e
        rw [h] at hg
        obtain rfl := Option.some.inj hg
        simp [hk]
      · have : (q < j + 1 ↔ q < j) := by omega
        simp only [this]
    · rw [if_neg hk]
      by_cases e : q = j
      · subst e
        rw [List.getElem?_set_self (by rw [gsubG_length]; omega)]
        unfold gsubAt
        rw [h]
        simp [hk]
      · rw [List.getElem?_set_ne (Ne.symm e), gsubG_get _ _ _ _ _ hq]
        unfold gsubAt
        rw [hg]
        have : (q < j + 1 ↔ q < j) := by omega
        simp only [this]
  · rw [List.getElem?_eq_none (by rw [gsubG_length]; omega)]
    split
    · rw [List.getElem?_eq_none (by rw [gsubG_length]; omega)]
    · rw [List.getElem?_eq_none (by rw [List.length_set, gsubG_length]; omega)]
theorem sub_cin {gs : List Gt} (W : List F) {i : Nat} (hi : i < gs.length) : ∀ q, q ≤ i → cin (gsubG gs W i i) q = cin gs q := by
  intro q
  induction q with
  | zero => intro _; rfl
  | succ q ih =>
    intro hq
    have hg : gs[q]? = some gs[q] := List.getElem?_eq_getElem (by omega)
    rw [cin_succ hg, cin_succ (gsubG_get gs W i i q (by omega)), ih (by omega)]
    have e : ((gsubAt gs W i q).kind = 1) ↔ (gs[q].kind = 1) := by
      unfold gsubAt
      rw [hg]
      dsimp only
      split
      · next h => exact ⟨fun h2 => by simp at h2, fun h2 => absurd h2 h.2⟩
      · exact Iff.rfl
    by_cases hk : gs[q].kind = 1
    · rw [if_pos hk, if_pos (e.2 hk)]
    · rw [if_neg hk, if_neg (fun h => hk (e.1 h))]
end Croft
namespace Go.Proofs.YtknjcdlknnfhaaaDoor
open Go.RowKit Go.Maps Croft

theorem sub_leaf {gs : List Gt} {I : List F} {i : Nat} (hi : i < gs.length) (hI : I.length = (whoseL gs).length) : ∀ q, q < i → leafB (gsubG gs (cw gs I i) i i) I q ∧ lvF (gsubG gs (cw gs I i) i i) I q = co (cw gs I i) q := by
  intro q hq
  have hg : gs[q]? = some gs[q] := List.getElem?_eq_getElem (by omega)
  have hs := gsubG_get gs (cw gs I i) i i q (by omega)
  have hc := sub_cin (cw gs I i) hi q (by omega)
  by_cases hk : gs[q].kind = 1
  · have e : gsubAt gs (cw gs I i) i q = gs[q] := by unfold gsubAt; rw [hg]; exact if_neg (fun h => h.2 hk)
    rw [e] at hs
    refine ⟨⟨_, hs, .inl ⟨hk, by rw [hc, hI]; exact cin_lt hg hk⟩⟩, ?_⟩
    unfold lvF
    rw [hs]
    dsimp only
    rw [if_pos hk, hc, cw_co (show q < q + 1 by omega) (show q + 1 ≤ i by omega), cw_succ hg, co_append_at (by rw [cw_length])]
    unfold cone
    rw [if_pos hk]
  · have e : gsubAt gs (cw gs I i) i q = ⟨2, 0, 0, ofF (co (cw gs I i) q)⟩ := by unfold gsubAt; rw [hg]; exact if_pos ⟨hq, hk⟩
    rw [e] at hs
    refine ⟨⟨_, hs, .inr rfl⟩, ?_⟩
    unfold lvF
    rw [hs]
    dsimp only
    rw [if_neg (by decide), toF_ofF]
theorem vlaw : Keyed Tryd.prog 3 := int_keyed Tryd.underlying3
theorem vzero (w : World) : (zeroValue 40).run Tryd.prog w = .ok (.int .u64 0) w := by kernel_rfl
theorem vkey {z : Int} (hz : I64 z) : keyOf Tryd.prog 3 (.int .i64 z) = some (.int .i64 z) := keyOf_int_mk Tryd.underlying3 (WalkArith.wf_i64 (by unfold I64 at hz; omega))
theorem vwf (x : F) : (Lit.int .u64 (ofF x)).wf = true := by
  have h0 := ofF_nonneg x
  have h1 := ofF_lt x
  have h2 : IntKind.u64.min = 0 := rfl
  have h3 : IntKind.u64.max = 18446744073709551615 := rfl
  simp only [Lit.wf, Bool.and_eq_true, decide_eq_true_eq]
  omega
/-- block b is a map of a list's values -/
def ValsD (w : World) (b : Nat) (W : List F) (D : DataW Unit) : Prop := w.ownsMap Tryd.prog 3 (plainElem Tryd.prog 40) b W.length D ∧ ∀ (j : Nat) (d : DataW Unit), j < W.length → D.atKey (.int .i64 j) d = .lit (.int .u64 (ofF (co W j)))
def ValsIs (w : World) (b : Nat) (W : List F) : Prop := ∃ D, ValsD w b W D
theorem ValsIs.made (w : World) : ValsIs (w.alloc (.map #[] 0)) w.heap.size [] := ⟨_, World.ownsMap_made w _ _ _, fun j d h => by simp at h⟩
theorem ValsIs.lt {w : World} {b : Nat} {W : List F} (h : ValsIs w b W) : b < w.heap.size := by
  obtain ⟨D, h1, _⟩ := h
  exact h1.lt
theorem ValsIs.grown {w w' : World} {b : Nat} {W : List F} {row : Option Nat} (h : ValsIs w b W) (hg : w.grownBy w' row) (hne : row ≠ some b) : ValsIs w' b W := by
  obtain ⟨D, ⟨es, clock, hb, F⟩, h3⟩ := h
  have hlt : b < w.heap.size := (Array.getElem?_eq_some_iff.1 hb).1
  exact ⟨D, ⟨es, clock, (hg.block b hlt (fun e => hne e.symm)).trans hb, F⟩, h3⟩
theorem ValsIs.below {w w' : World} {b : Nat} {W : List F} (h : ValsIs w b W) (hb : Below w.heap.size w w') : ValsIs w' b W :=
  h.grown (row := none) ⟨hb.os, hb.tape, hb.output, hb.size, fun k hk _ => hb.block k hk⟩ (by simp)
theorem ValsIs.ne {w : World} {b : Nat} {W : List F} (h : ValsIs w b W) {base : Nat} {e : TypeId} {size m : Nat} {v : Value} {xs : List Value} (ho : w.ownsRow base e size v m xs) : v.ownBlock ≠ some b := fun hv => by
  obtain ⟨D, ⟨es, clock, hb, _⟩, _⟩ := h
  obtain ⟨c, k⟩ := own_block_form ho hv
  rw [hb] at k
  cases k
theorem ValsIs.look {w : World} {b : Nat} {W : List F} (h : ValsIs w b W) {j : Nat} (hj : j < W.length) (h1 : j ≤ 1000) :
    (Instr.lookup 63 (.map (some b)) (.int .i64 j) false).run Tryd.prog w = .ok (.int .u64 (ofF (co W j))) w := by
  obtain ⟨D, h1', h4⟩ := h
  obtain ⟨c, hrun, hat, _⟩ := h1'.lookup_int vlaw Tryd.underlying63 Tryd.underlying40 (vzero w) (vkey (z := (j : Int)) (by unfold I64; omega))
  have h9 := (h4 j (.lit (.int .u64 0)) hj).symm.trans hat
  simp only [DataW.lit.injEq, Lit.int.injEq, true_and] at h9
  rw [hrun, h9]
theorem ValsIs.put {w w' : World} {b : Nat} {W : List F} {D : DataW Unit} (hd : ValsD w b W D) {x : F}
    (h' : w'.ownsMap Tryd.prog 3 (plainElem Tryd.prog 40) b (W.length + 1) (D.put (.int .i64 (W.length : Int)) (.lit (.int .u64 (ofF x))))) : ValsIs w' b (W ++ [x]) := by
  obtain ⟨h1, h4⟩ := hd
  have hm : IsMap D := h1.isMap
  refine ⟨_, by rw [List.length_append]; exact h', fun j d hj => ?_⟩
  rw [List.length_append, List.length_singleton] at hj
  by_cases he : j = W.length
  · subst he
    rw [atKey_put_same hm (show WideAt.IsKeyLit (.int .i64 (W.length : Int)) from trivial), co_append_at rfl]
  · rw [atKey_put_other (by intro e; injection e with _ e; exact he (by omega)), h4 j d (by omega), co_append_lt (by omega)]
/-- gates in a row of the call's own -/
def OwnGates (w : World) (base : Nat) (v : Value) (gs : List Gt) : Prop := w.ownsRow base 58 4 v gs.length (gcs gs) ∧ gs.length ≤ 1000 ∧ ∀ g ∈ gs, GateOk g
theorem OwnGates.is {w : World} {base : Nat} {v : Value} {gs : List Gt} (h : OwnGates w base v gs) : IsGates w v gs := by
  obtain ⟨h1, h2, h3⟩ := h
  obtain ⟨A, cap, rfl, h4, h5⟩ := own_form h1
  exact ⟨A, cap, rfl, h4, h5, by omega, h3, Cells.of_own h1⟩
theorem OwnGates.below {w w' : World} {base : Nat} {v : Value} {gs : List Gt} (h : OwnGates w base v gs) (hb : Below w.heap.size w w') : OwnGates w' base v gs := ⟨own_kept h.1 hb, h.2⟩
theorem ginfo : (Tryd.prog.info? 58).map (fun i => (i.zero, i.size, i.bytes)) = some (some (.agg #[.int .i64 0, .int .i64 0, .int .i64 0, .int .u64 0]), 4, 32) := by kernel_rfl
theorem gcs_take (gs : List Gt) (k : Nat) : gcs (gs.take k) = (gcs gs).take (k * 4) := by
  induction gs generalizing k with
  | nil => simp [gcs]
  | cons g gs ih =>
    cases k with
    | zero => simp [gcs]
    | succ k =>
      have e1 : gcs (g :: gs) = genc g ++ gcs gs := by simp [gcs]
      have e2 : gcs (g :: gs.take k) = genc g ++ gcs (gs.take k) := by simp [gcs]
      rw [List.take_succ_cons, e1, e2, ih, show (k + 1) * 4 = (genc g).length + k * 4 by rw [genc_length]; omega, List.take_length_add_append]
theorem gcs_one (gs : List Gt) : ∀ u ∈ gcs gs, u.oneCell' = true := by
  intro u hu
  unfold gcs at hu
  obtain ⟨g, _, hg⟩ := List.mem_flatMap.1 hu
  simp [genc] at hg
  rcases hg with rfl | rfl | rfl | rfl <;> rfl
/-- a copy of some gates -/
theorem wpList_copy_gates {ops : Array Oper} {rest : List Oper} {o : Oper} {a : Act} {Q : Exit → Act → World → Prop} {w : World} (hgd : o.guard = none) (s x : Operand)
    (ho : o.op = .call { callee := .builtin .append, args := #[s, x], argTypes := #[22, 22] })
    (gs : List Gt) (n b1 o1 c : Nat) (hn : gs.length = n) (hs : a.eval s = .slice none 0 0) (hx : a.eval x = .slice (some ⟨b1, o1, none⟩) n c)
    (hg : IsGates w (.slice (some ⟨b1, o1, none⟩) n c) gs) (hl : gs.length ≤ 1000) (h1 : 1 ≤ gs.length)
    (h : ∀ g cap w', OwnGates w' w.heap.size (.slice (some ⟨g, 0, none⟩) n cap) gs → w.heap.size ≤ g → Below w.heap.size w w' → wpList Tryd.prog ops Q rest (a.put o.dst (.slice (some ⟨g, 0, none⟩) n cap)) w') : wpList Tryd.prog ops Q (o :: rest) a w := by
  subst hn
  obtain ⟨i0, hi, hz0, hz1, hz2⟩ := info_parts ginfo
  obtain ⟨A, c', hA, _, _, _, hok, hc⟩ := hg
  injection hA with e1 e2 e3
  subst e1 e3
  obtain ⟨b, off, he, hbl, hcell⟩ := hc.at_ (j := 0) (by rw [gcs_length]; omega)
  injection he with he
  injection he with he1 he2
  subst he1 he2
  refine wpList_append_own_at w hgd s x 22 ho w.heap.size 58 i0 (.agg #[.int .i64 0, .int .i64 0, .int .i64 0, .int .u64 0]) 4 32 Tryd.underlying22 hi hz0 hz1 hz2 rfl (by decide) (.slice none 0 0) 0 [] hs (World.ownsRow_nil _ _ _ _) ⟨b1, o1, none⟩ gs.length c (gcs gs) hx (gcs_length gs) ?_ (gcs_one gs) ?_ ?_ (Nat.le_refl _) ?_
  · intro j u hj
    have hjl := (List.getElem?_eq_some_iff.1 hj).1
    rw [add_addr, hcell j hjl]
    exact hj
  · unfold maxLen; omega
  · omega
  · intro v' w' q1 q2 _ q4
    rw [Nat.zero_add, List.nil_append] at q1
    obtain ⟨g, cap, rfl, hg1, hg2⟩ := own_slice q1 (by omega)
    exact h g cap w' ⟨q1, hl, hok⟩ hg1 ((Below.refl _ _).grown q2 (Nat.le_refl _) (fun k hk => by cases hk))
set_option maxRecDepth 100000 in
theorem gslice_run (A : Option Addr) (m c hi : Nat) (h2 : hi ≤ c) (W : World) :
    (Instr.sliceAt 22 (.slice A m c) none (some (.int .i64 (hi : Int))) none).run Tryd.prog W = .ok (.slice A hi c) W := by
  have hU : Program.underlying Tryd.prog 22 = some (.slice (Program.elem Tryd.prog 22)) := by kernel_rfl
  have hs : ∀ W, (sizeOf (Program.elem Tryd.prog 22)).run Tryd.prog W = .ok 4 W := fun W => by kernel_rfl
  rw [run_sliceAt_slice _ _ _ _ _ _ hU, run_slice_h W _ A m c hU .i64 _ (by omega) (by omega), hs]
  simp only [Result.andThen, sliced, Nat.zero_mul, Nat.sub_zero, Int.toNat_natCast]
  congr 2
  split
  · rfl
  · cases A with
    | none => rfl
    | some a =>
      obtain ⟨b, o, s⟩ := a
      simp [Addr.add]
theorem IsGates.first {w : World} {A : Option Addr} {len c : Nat} {gs : List Gt} (h : IsGates w (.slice A len c) gs) (k : Nat) (hk : k ≤ gs.length) : IsGates w (.slice A k c) (gs.take k) := by
  obtain ⟨A1, c1, e, h1, h2, h3, h4, h5⟩ := h
  injection e with e1 e2 e3
  subst e1 e2 e3
  have hl : (gs.take k).length = k := by simp; omega
  exact ⟨_, _, by rw [hl], by rw [hl]; omega, h2, by rw [hl]; omega, fun z hz => h4 z (List.mem_of_mem_take hz), by rw [gcs_take]; exact h5.take _⟩
theorem gcs_set {gs : List Gt} {k : Nat} (g : Gt) (hk : k < gs.length) : gcs (gs.set k g) = splice (gcs gs) (k * 4) (genc g) := by
  induction gs generalizing k with
  | nil => simp at hk
  | cons a gs ih =>
    have e1 : ∀ (x : Gt) (l : List Gt), gcs (x :: l) = genc x ++ gcs l := fun x l => by simp [gcs]
    cases k with
    | zero =>
      rw [List.set_cons_zero, e1, e1]
      unfold splice
      rw [Nat.zero_mul, List.take_zero, List.nil_append, genc_length, Nat.zero_add, List.drop_left' (genc_length a)]
    | succ k =>
      rw [List.set_cons_succ, e1, e1, ih (by simpa using hk)]
      unfold splice
      rw [show (k + 1) * 4 = (genc a).length + k * 4 by rw [genc_length]; omega, List.take_length_add_append, Nat.add_assoc, List.drop_length_add_append, List.append_assoc]
theorem OwnGates.set {w : World} {base g n c : Nat} {gs : List Gt} (h : OwnGates w base (.slice (some ⟨g, 0, none⟩) n c) gs) {k : Nat} (hk : k < gs.length) (x : Gt) (hx : GateOk x) : OwnGates (w.setCells g (k * 4) (genc x)) base (.slice (some ⟨g, 0, none⟩) n c) (gs.set k x) := by
  obtain ⟨h1, h2, h3⟩ := h
  have hn : n = gs.length := by
    rcases h1.2 with ⟨hv, _⟩ | ⟨g', cap, cur, hv, _⟩
    · simp at hv
    · injection hv
  subst hn
  refine ⟨?_, by rw [List.length_set]; exact h2, fun y hy => ?_⟩
  · rw [List.length_set, gcs_set x hk]
    exact own_setCells (genc x) (k * 4) w (gcs gs) h1 (by rw [genc_length]; omega)
  · rcases List.mem_or_eq_of_mem_set hy with h4 | h4
    · exact h3 y h4
    · rw [h4]; exact hx
end Go.Proofs.YtknjcdlknnfhaaaDoor
