/- What parties reckon together: the small example. -/
import Derived.Test.YtegmeepogjijiaaEngU
import Derived.Test.YtegmeepogjijiaaCircX
import Derived.Test.YtegmeepogjijiaaKeepW
import Derived.Test.YtegmeepogjijiaaKeyW
import Derived.Test.YtegmeepogjijiaaOpenC
import Derived.Maps.RangeWalk
namespace Go.Proofs.Ytegmeepogjijiaa
open Go.RowKit Croft

def tinyT : List Gt := [⟨1, 1, 0, 0⟩, ⟨1, 2, 0, 0⟩, ⟨6, 0, 0, 3⟩, ⟨3, 2, 1, 0⟩]
theorem gcs_tinyT : (gcs tinyT) = [.int .i64 1, .int .i64 1, .int .i64 0, .int .u64 0, .int .i64 1, .int .i64 2, .int .i64 0, .int .u64 0, .int .i64 6, .int .i64 0, .int .i64 0, .int .u64 3, .int .i64 3, .int .i64 2, .int .i64 1, .int .u64 0] := rfl
theorem tTiny_any (w : World) : Calls Try.prog 113 #[] w fun e w' => ∃ v, e = .returned v ∧ IsCirc w' v tinyT [3] ∧ Below w.heap.size w w' := by
  have k1 := (lit_gates (w.alloc (.cells #[.slice (some ⟨w.heap.size + 1, 0, none⟩) 4 4, .slice (some ⟨w.heap.size + 1 + 1, 0, none⟩) 1 1] 46)) tinyT (by unfold tinyT GateOk I64 U64; simp) (by simp [tinyT])).below ((Below.refl _ _).alloc (Nat.le_refl _) (.cells #[.int .i64 3] 3))
  have k2 := lit_ints ((w.alloc (.cells #[.slice (some ⟨w.heap.size + 1, 0, none⟩) 4 4, .slice (some ⟨w.heap.size + 1 + 1, 0, none⟩) 1 1] 46)).alloc (.cells (gcs tinyT).toArray 122)) [3] (by unfold I64; simp) (by simp)
  have kb := (((Below.refl w.heap.size w).alloc (Nat.le_refl _) (.cells #[.slice (some ⟨w.heap.size + 1, 0, none⟩) 4 4, .slice (some ⟨w.heap.size + 1 + 1, 0, none⟩) 1 1] 46)).alloc (by simp) (.cells (gcs tinyT).toArray 122)).alloc (by simp; omega) (.cells #[.int .i64 3] 3)
  rw [gcs_tinyT, size_alloc] at k1
  rw [gcs_tinyT, size_alloc, size_alloc] at k2
  rw [gcs_tinyT] at kb
  have K1 := Lib.hid k1
  have K2 := Lib.hid k2
  have KB := Lib.hid kb
  clear k1 k2 kb
  go_enter Try.func113, Try.ntmps113
  go_wp2_with fail
  exact bodyPost_ret (v := .agg #[.slice (some ⟨w.heap.size + 1, 0, none⟩) 4 4, .slice (some ⟨w.heap.size + 1 + 1, 0, none⟩) 1 1]) (by simp [results, Try.results113, go_sem]) rfl ⟨_, rfl, ⟨_, _, rfl, K1.out, K2.out⟩, KB.out⟩
theorem tiny_crew : crewE tinyT [3] (3 : Nat) (1 : Nat) = 0 := by decide +kernel
theorem tiny_dat : dat 3 1 tinyT 4 = 2 := by decide +kernel
theorem tiny_out : ofFs (couts tinyT [3] (toFs [5, 6])) = [21] := by decide +kernel
theorem tiny_seen : ofFs (eo 3 1 tinyT [3] (toFs [5, 6]) (toFs [1, 2]) 1 1) = [7, 10, 26, 31, 36] := by decide +kernel
set_option maxRecDepth 100000 in
theorem tSaid_any (w : World) : Calls Try.prog 55 #[] w fun e w' => e = .returned (.bool true) ∧ Below w.heap.size w w' := by
  suffices hgoal : ∀ Post : Ending → World → Prop, (∀ w', Below w.heap.size w w' → Post (.returned (.bool true)) w') → Calls Try.prog 55 #[] w Post from hgoal _ fun w' h => ⟨rfl, h⟩
  intro Post hp
  have HP := Lib.hid hp
  clear hp
  go_enter Try.func55, Try.ntmps55
  go_wp2_with fail
  refine (tTiny_any _).mono ?_
  rintro e W1 ⟨v, rfl, hc, hb⟩
  obtain ⟨W2, hW2⟩ : ∃ W2, W2 = (W1.alloc (.cells #[.int .u64 5, .int .u64 6] 23)).alloc (.cells #[.int .u64 1, .int .u64 2] 23) := ⟨_, rfl⟩
  have b1 : Below W1.heap.size W1 (W1.alloc (.cells #[.int .u64 5, .int .u64 6] 23)) := (Below.refl _ _).alloc (Nat.le_refl _) _
  have b2 : Below W1.heap.size W1 W2 := by rw [hW2]; exact b1.alloc b1.size _
  have k1 : IsNums W2 (.slice (some ⟨W1.heap.size, 0, none⟩) 2 2) [5, 6] := by
    rw [hW2]
    exact (lit_nums W1 [5, 6] (by unfold U64; simp) (by simp)).below ((Below.refl _ _).alloc (Nat.le_refl _) _)
  have k2 : IsNums W2 (.slice (some ⟨W1.heap.size + 1, 0, none⟩) 2 2) [1, 2] := by
    rw [hW2]
    have h := lit_nums (W1.alloc (.cells #[.int .u64 5, .int .u64 6] 23)) [1, 2] (by unfold U64; simp) (by simp)
    rw [size_alloc] at h
    exact h
  have C := Lib.hid (show Calls Try.prog 27 #[v, .int .i64 3, .int .i64 1, .slice (some ⟨W1.heap.size, 0, none⟩) 2 2, .slice (some ⟨W1.heap.size + 1, 0, none⟩) 2 2] W2 _ from eRun_ok v _ _ tinyT [3] [5, 6] [1, 2] 3 1 W2 (hc.below b2) k1 k2 tiny_crew rfl tiny_dat.symm)
  rw [tiny_out] at C
  have BEL := Lib.hid (hb.trans (b2.mono hb.size))
  clear hc hb b1 b2 k1 k2
  try dsimp only
  go_wp2_with (rw [← hW2]; refine C.out.mono ?_; rintro e W3 ⟨vo, g, vss, rfl, ho, hg, _, hb3⟩; have KO := Lib.hid ho; have KG := Lib.hid hg; have B3 := Lib.hid (below_trans BEL.out hb3 BEL.out.size); clear ho hg hb3; try dsimp only)
  obtain ⟨x, hx⟩ : ∃ x, vss[1]? = some x := ⟨_, List.getElem?_eq_getElem (by rw [KG.out.vlen, rowsN_length]; omega)⟩
  have hrow := KG.out.row 1 x _ hx (rowsN_get _ (by omega))
  rw [List.length_singleton, tiny_seen] at hrow
  have hcx := KG.out.cell hx
  have hgl := (KG.out.outer.lt g rfl).2
  have L1 := lit_nums W3 [21] (by unfold U64; simp) (by simp)
  refine (equal_any _ _ [21] [21] _ (KO.out.is.alloc _) L1).mono ?_
  rintro e W4 ⟨rfl, m, hW4⟩
  have b4 : Below W3.heap.size W3 W4 := by rw [hW4]; exact below_drewN ((Below.refl _ _).alloc (Nat.le_refl _) _) _
  have hcx4 := (b4.cell (p := ⟨g, 1, none⟩) hgl).trans hcx
  have K4 := Lib.hid (hrow.is.below b4)
  have B4 := Lib.hid (below_trans B3.out b4 B3.out.size)
  have h21 : decide ([(21 : Int)] = [21]) = true := rfl
  rw [h21]
  clear hx hrow hcx L1 b4 hW4 h21 hgl
  try dsimp only
  go_wp2_with fail
  have L2 := lit_nums W4 [7, 10, 26, 31, 36] (by unfold U64; simp) (by simp)
  refine (equal_any _ _ [7, 10, 26, 31, 36] [7, 10, 26, 31, 36] _ (K4.out.alloc _) L2).mono ?_
  rintro e W5 ⟨rfl, m, hW5⟩
  have h21 : decide ([(7 : Int), 10, 26, 31, 36] = [7, 10, 26, 31, 36]) = true := rfl
  rw [h21]
  have B5 := Lib.hid (show Below w.heap.size w W5 by rw [hW5]; exact below_drewN (B4.out.alloc B4.out.size _) _)
  clear hW5 L2 h21
  try dsimp only
  go_wp2_with fail
  exact HP.out _ B5.out
end Go.Proofs.Ytegmeepogjijiaa
namespace Go.Proofs.Ytegmeepogjijiaa
open Go.RowKit Go.Maps Croft

theorem tCrew_any (t n : Int) (w : World) :
    Calls Try.prog 56 #[.int .i64 t, .int .i64 n] w fun e w' => (∃ T N : Nat, T ≤ 4 ∧ 2 * T + 1 ≤ N ∧ N ≤ 9 ∧ e = .returned (.tuple #[.int .i64 T, .int .i64 N])) ∧ w = w' := by
  go_enter Try.func56, Try.ntmps56
  go_wp2_with fail
  refine (rRest_any t 5 _ (by omega) (by omega)).mono ?_
  rintro e w' ⟨⟨T, hT, rfl⟩, rfl⟩
  try dsimp only
  go_wp2_with fail
  have e9 : (9 : Int) - 2 * (T : Int) = ((9 - 2 * T : Nat) : Int) := by omega
  try rw [e9]
  refine (rRest_any n (9 - 2 * T) _ (by omega) (by omega)).mono ?_
  rintro e w' ⟨⟨N, hN, rfl⟩, rfl⟩
  try dsimp only
  go_wp2_with fail
  go_ret2
  exact ⟨⟨T, 2 * T + 1 + N, by omega, by omega, by omega, by congr 4⟩, rfl⟩
theorem ownsMap_tight2 {H : Type} {w : World} {P : Program} {k : TypeId} {R : Value → Option (DataW H × List MemPlace)} {b n : Nat} {D : DataW H} (h : w.ownsMap P k R b n D) : w.ownsMap P k R b (Maps.size D) D := by
  obtain ⟨es, clock, hb, F, hs, hD⟩ := h
  refine ⟨es, clock, hb, F, ?_, hD⟩
  have := length_read (P := P) (k := k) (R0 := R) es
  rw [hD]
  simp only [Maps.size]
  omega
/-- block pb is a map of plain numbers, with the keys of S and the values X -/
def PlainD (w : World) (pb sz : Nat) (S : Int → Option (List Int)) (X : Int → F) (D : DataW Unit) : Prop :=
  w.ownsMap Try.prog 3 (plainElem Try.prog 23) pb sz D ∧ Maps.size D = sz ∧ (∀ z : Int, Maps.has D (.int .i64 z) = (S z).isSome) ∧ (∀ (z : Int) (d : DataW Unit), (S z).isSome = true → D.atKey (.int .i64 z) d = .lit (.int .u64 (ofF (X z))))
def PlainIs (w : World) (pb sz : Nat) (S : Int → Option (List Int)) (X : Int → F) : Prop := ∃ D, PlainD w pb sz S X D
theorem PlainIs.lt {w : World} {pb sz : Nat} {S : Int → Option (List Int)} {X : Int → F} (h : PlainIs w pb sz S X) : pb < w.heap.size := by
  obtain ⟨D, h1, _⟩ := h
  exact h1.lt
theorem PlainIs.near {w w' : World} {pb sz kb mb : Nat} {S : Int → Option (List Int)} {X : Int → F} (h : PlainIs w pb sz S X) (hn : Near kb mb w w') (h1 : pb ≠ kb) (h2 : pb ≠ mb) : PlainIs w' pb sz S X := by
  obtain ⟨D, ⟨es, clock, hb, F⟩, h3⟩ := h
  have hlt : pb < w.heap.size := (Array.getElem?_eq_some_iff.1 hb).1
  exact ⟨D, ⟨es, clock, (hn.block pb hlt h1 h2).trans hb, F⟩, h3⟩
theorem PlainIs.below {w w' : World} {pb sz : Nat} {S : Int → Option (List Int)} {X : Int → F} (h : PlainIs w pb sz S X) (hb : Below w.heap.size w w') : PlainIs w' pb sz S X := by
  obtain ⟨D, ⟨es, clock, hb0, F⟩, h3⟩ := h
  have hlt : pb < w.heap.size := (Array.getElem?_eq_some_iff.1 hb0).1
  exact ⟨D, ⟨es, clock, (hb.block pb hlt).trans hb0, F⟩, h3⟩
theorem PlainIs.drewN {w : World} {pb sz : Nat} {S : Int → Option (List Int)} {X : Int → F} (h : PlainIs w pb sz S X) (m : Nat) : PlainIs (w.drewN m) pb sz S X := h.below (below_drewN (Below.refl _ _) m)
theorem PlainIs.same {w : World} {pb sz : Nat} {S S' : Int → Option (List Int)} {X : Int → F} (h : PlainIs w pb sz S X) (hs : ∀ z, (S' z).isSome = (S z).isSome) : PlainIs w pb sz S' X := by
  obtain ⟨D, h1, h2, h3, h4⟩ := h
  exact ⟨D, h1, h2, fun z => by rw [h3 z, hs z], fun z d hz => h4 z d (by rw [← hs z]; exact hz)⟩
theorem zeroU (w : World) : (zeroValue 23).run Try.prog w = .ok (.int .u64 0) w := by kernel_rfl
theorem PlainIs.look {w : World} {pb sz : Nat} {S : Int → Option (List Int)} {X : Int → F} (h : PlainIs w pb sz S X) {z : Int} (hz : I64 z) (hs : (S z).isSome = true) :
    (Instr.lookup 40 (.map (some pb)) (.int .i64 z) false).run Try.prog w = .ok (.int .u64 (ofF (X z))) w := by
  obtain ⟨D, h1, _, _, h4⟩ := h
  obtain ⟨c, hrun, hat, _⟩ := h1.lookup_int ilaw Try.underlying40 Try.underlying23 (zeroU w) (keyOf_i64 hz)
  have h9 := (h4 z (.lit (.int .u64 0)) hs).symm.trans hat
  simp only [DataW.lit.injEq, Lit.int.injEq, true_and] at h9
  rw [hrun, h9]
theorem plain_wf (x : F) : (Lit.int .u64 (ofF x)).wf = true := by
  have h0 := ofF_nonneg x
  have h1 := ofF_lt x
  have h2 : IntKind.u64.min = 0 := rfl
  have h3 : IntKind.u64.max = 18446744073709551615 := rfl
  simp only [Lit.wf, Bool.and_eq_true, decide_eq_true_eq]
  omega
def updX (X : Int → F) (z : Int) (x : F) : Int → F := fun y => if y = z then x else X y
theorem PlainIs.put {w w' : World} {pb sz : Nat} {S : Int → Option (List Int)} {X : Int → F} {D : DataW Unit} (hd : PlainD w pb sz S X D) {z : Int} (hs : S z = none) {x : F} {l : List Int} {n : Nat}
    (h' : w'.ownsMap Try.prog 3 (plainElem Try.prog 23) pb n (D.put (.int .i64 z) (.lit (.int .u64 (ofF x))))) : PlainIs w' pb (sz + 1) (upd S z (some l)) (updX X z x) := by
  obtain ⟨h1, h2, h3, h4⟩ := hd
  have hm : IsMap D := h1.isMap
  have ht : Tidy D := h1.tidy ilaw
  have hk : WideAt.IsKeyLit (.int .i64 z) := trivial
  have hsz : Maps.size (D.put (.int .i64 z) (.lit (.int .u64 (ofF x)))) = sz + 1 := by rw [size_put ht, h3 z, hs, h2]; rfl
  refine ⟨_, by rw [← hsz]; exact ownsMap_tight2 h', hsz, fun y => ?_, fun y d hy => ?_⟩
  · unfold upd
    by_cases he : y = z
    · subst he; rw [has_put_same hm hk, if_pos rfl]; rfl
    · rw [has_put_other (by intro e; injection e with _ e; exact he e), if_neg he, h3 y]
  · unfold upd at hy
    unfold updX
    by_cases he : y = z
    · subst he; rw [atKey_put_same hm hk, if_pos rfl]
    · rw [atKey_put_other (by intro e; injection e with _ e; exact he e), if_neg he]
      rw [if_neg he] at hy
      exact h4 y d hy
theorem PlainIs.del {w w' : World} {pb sz : Nat} {S : Int → Option (List Int)} {X : Int → F} {D : DataW Unit} (hd : PlainD w pb sz S X D) {z : Int} (hs : (S z).isSome = true) {n : Nat}
    (h' : w'.ownsMap Try.prog 3 (plainElem Try.prog 23) pb n (D.del (.int .i64 z))) : PlainIs w' pb (sz - 1) (upd S z none) X := by
  obtain ⟨h1, h2, h3, h4⟩ := hd
  have ht : Tidy D := h1.tidy ilaw
  have hsz : Maps.size (D.del (.int .i64 z)) = sz - 1 := by
    have := size_del (k := .int .i64 z) ht
    rw [h3 z, if_pos hs, h2] at this
    omega
  refine ⟨_, by rw [← hsz]; exact ownsMap_tight2 h', hsz, fun y => ?_, fun y d hy => ?_⟩
  · unfold upd
    by_cases he : y = z
    · subst he; rw [has_del_same, if_pos rfl]; rfl
    · rw [has_del_other (by intro e; injection e with _ e; exact he e), if_neg he, h3 y]
  · unfold upd at hy
    by_cases he : y = z
    · rw [if_pos he] at hy; cases hy
    · rw [atKey_del_other (by intro e; injection e with _ e; exact he e)]
      rw [if_neg he] at hy
      exact h4 y d hy
/-- the keys stand while another map turns -/
theorem KeysIs.other {w w' : World} {base kb mb n t last sz pb : Nat} {S : Int → Option (List Int)} {V : Int → Value} (h : KeysIs w base kb mb n t last sz S V) (hg : w.grownBy w' (some pb)) (h1 : pb ≠ kb) (h2 : pb ≠ mb) (h3 : ∀ cur e fr, w.heap[pb]? ≠ some (.cells cur e fr)) : KeysIs w' base kb mb n t last sz S V := by
  refine ⟨(hg.block kb h.lt (fun e => h1 (by injection e with e; exact e.symm))).trans h.cell, ⟨?_, fun z zs hz => (h.store.rows z zs hz).grownBy hg (fun cur fr => h3 cur _ fr), h.store.le⟩, h.le, h.len, h.sz8⟩
  obtain ⟨D, h4, h5⟩ := h.store.map
  exact ⟨D, h4.kept hg (fun e => h2 (by injection e with e; exact e.symm)), h5⟩
theorem PlainIs.noCells {w : World} {pb sz : Nat} {S : Int → Option (List Int)} {X : Int → F} (h : PlainIs w pb sz S X) (cur : Array Value) (e : TypeId) (fr : Nat × Nat) : w.heap[pb]? ≠ some (.cells cur e fr) := by
  obtain ⟨D, ⟨es, clock, hb, _⟩, _⟩ := h
  rw [hb]
  intro e
  cases e
theorem wpList_len_plain {ops : Array Oper} {rest : List Oper} {o : Oper} {a : Act} {Q : Exit → Act → World → Prop} {w : World} (hg : o.guard = none) (m : Operand)
    (hop : o.op = Op.call { callee := Callee.builtin Builtin.len, args := #[m], argTypes := #[40] }) {pb sz : Nat} {S : Int → Option (List Int)} {X : Int → F} (hm : a.eval m = .map (some pb)) (hs : PlainIs w pb sz S X)
    (hK : wpList Try.prog ops Q rest (a.put o.dst (.int .i64 sz)) w) : wpList Try.prog ops Q (o :: rest) a w := by
  obtain ⟨D, h1, h2, _⟩ := hs
  exact wpList_len_own w hg m _ hop 3 _ Try.underlying40 (plainElem Try.prog 23) pb sz D hm h1 (by rw [h2]; exact hK)
theorem wpList_put_plain {ops : Array Oper} {rest : List Oper} {o : Oper} {a : Act} {Q : Exit → Act → World → Prop} {w : World} (hg : o.guard = none) (m x v : Operand) (hop : o.op = Op.mapUpdate 40 m x v)
    {pb sz : Nat} {S : Int → Option (List Int)} {X : Int → F} (hm : a.eval m = .map (some pb)) (hs : PlainIs w pb sz S X) (h8 : sz ≤ 8) (z : Int) (hz : I64 z) (y : F) (hx : a.eval x = .int .i64 z) (hv : a.eval v = .int .u64 (ofF y)) (hn : S z = none) (l : List Int)
    (hK : ∀ w', PlainIs w' pb (sz + 1) (upd S z (some l)) (updX X z y) → w.grownBy w' (some pb) → wpList Try.prog ops Q rest (a.put o.dst undef) w') : wpList Try.prog ops Q (o :: rest) a w := by
  obtain ⟨D, hD⟩ := hs
  refine wpList_mapUpdate_own w hg m x v _ hop 3 23 ilaw Try.underlying40 (plainElem Try.prog 23) pb sz D hm hD.1 (by unfold maxLen; omega) _ _ (.int .i64 z) hx hv (keyOf_i64 hz) (.lit (.int .u64 (ofF y))) [] (plainElem_int Try.underlying23 (plain_wf y)) fun w' h5 h6 => ?_
  exact hK w' (PlainIs.put hD hn h5) h6
theorem wpList_del_plain {ops : Array Oper} {rest : List Oper} {o : Oper} {a : Act} {Q : Exit → Act → World → Prop} {w : World} (hg : o.guard = none) (m x : Operand) (hop : o.op = Op.call { callee := Callee.builtin Builtin.delete, args := #[m, x], argTypes := #[40, 3] })
    {pb sz : Nat} {S : Int → Option (List Int)} {X : Int → F} (hm : a.eval m = .map (some pb)) (hs : PlainIs w pb sz S X) (z : Int) (hz : I64 z) (hx : a.eval x = .int .i64 z) (hin : (S z).isSome = true)
    (hK : ∀ w', PlainIs w' pb (sz - 1) (upd S z none) X → w.grownBy w' (some pb) → wpList Try.prog ops Q rest (a.put o.dst (.tuple #[])) w') : wpList Try.prog ops Q (o :: rest) a w := by
  obtain ⟨D, hD⟩ := hs
  refine wpList_delete_own w hg m x _ _ hop 23 ilaw Try.underlying40 (plainElem Try.prog 23) pb sz D hm hD.1 _ (.int .i64 z) hx (keyOf_i64 hz) fun w' h5 h6 => ?_
  exact hK w' (PlainIs.del hD hin h5) h6.grown
end Go.Proofs.Ytegmeepogjijiaa
namespace Go.Proofs.Ytegmeepogjijiaa
open Go.RowKit Go.Maps Croft

theorem OwnNums.near {w w' : World} {base kb mb : Nat} {v : Value} {zs : List Int} (h : OwnNums w base v zs) (hn : Near kb mb w w') (h1 : kb < base) (h2 : mb < base) : OwnNums w' base v zs := by
  refine ⟨⟨h.1.1, ?_⟩, h.2⟩
  rcases h.1.2 with h0 | ⟨g, cap, cur, rfl, k1, k2, k3⟩
  · exact .inl h0
  · exact .inr ⟨g, cap, cur, rfl, k1, (hn.block g (Array.getElem?_eq_some_iff.1 k2).1 (by omega) (by omega)).trans k2, k3⟩
theorem Box.near {w w' : World} {b kb mb : Nat} {t : TypeId} {cs : List Value} (h : Box w b t cs) (hn : Near kb mb w w') (h1 : b ≠ kb) (h2 : b ≠ mb) : Box w' b t cs := (hn.block b h.lt h1 h2).trans h
theorem below_near {base kb mb : Nat} {a b c : World} (h : Below base a b) (hn : Near kb mb b c) (h1 : base ≤ kb) (h2 : base ≤ mb) (h3 : base ≤ b.heap.size) : Below base a c := h.trans (hn.low h1 h2 h3)
theorem below_grown {base pb : Nat} {a b c : World} (h : Below base a b) (hg : b.grownBy c (some pb)) (h1 : base ≤ pb) (h3 : base ≤ b.heap.size) : Below base a c := h.grown hg h3 (fun k hk => by injection hk with hk; omega)
theorem NewKey.full {w w' : World} {base kb mb n t last sz : Nat} {S : Int → Option (List Int)} {l : List Int} {e : Ending} (h : NewKey w base kb mb n t last sz S l e w') (h8 : sz = 8) : e = .returned (.tuple #[.int .i64 0, .int .i64 2]) ∧ (∃ V', KeysIs w' base kb mb n t last sz S V') ∧ Near kb mb w w' := by
  unfold NewKey at h
  rwa [if_pos h8] at h
theorem NewKey.new {w w' : World} {base kb mb n t last sz : Nat} {S : Int → Option (List Int)} {l : List Int} {e : Ending} (h : NewKey w base kb mb n t last sz S l e w') (h8 : ¬ sz = 8) : e = .returned (.tuple #[.int .i64 ((last + 1 : Nat) : Int), .int .i64 0]) ∧ (∃ V', KeysIs w' base kb mb n t (last + 1) (sz + 1) (upd S (last + 1 : Nat) (some l)) V') ∧ Near kb mb w w' := by
  unfold NewKey at h
  rwa [if_neg h8] at h
theorem KeysIs.fresh {w : World} {base kb mb n t last sz : Nat} {S : Int → Option (List Int)} {V : Int → Value} (h : KeysIs w base kb mb n t last sz S V) : S ((last : Int) + 1) = none := by
  cases hs : S ((last : Int) + 1) with
  | none => rfl
  | some zs => have := (h.len _ _ hs).2.2; omega
theorem upd_there {S : Int → Option (List Int)} {z : Int} {l0 : List Int} (l : List Int) (h : S z = some l0) : ∀ y, (upd S z (some l) y).isSome = (S y).isSome := fun y => by
  unfold upd
  by_cases he : y = z
  · rw [if_pos he, he, h]; rfl
  · rw [if_neg he]
theorem swap_sum (a b x y : F) : a * x + b * y = x * a + y * b := by grind
/-- each key is a number that is shared -/
def AllShared (n t : Nat) (S : Int → Option (List Int)) (X : Int → F) : Prop := ∀ z zs, S z = some zs → Shared n t (toFs zs) (X z)
theorem AllShared.put {n t : Nat} {S : Int → Option (List Int)} {X : Int → F} (h : AllShared n t S X) {z : Int} {l : List Int} {x : F} (hl : Shared n t (toFs l) x) : AllShared n t (upd S z (some l)) (updX X z x) := fun y ys hy => by
  unfold upd at hy
  unfold updX
  by_cases he : y = z
  · rw [if_pos he] at hy ⊢
    injection hy with hy
    subst hy
    exact hl
  · rw [if_neg he] at hy ⊢
    exact h y ys hy
theorem AllShared.turn {n t : Nat} {S : Int → Option (List Int)} {X : Int → F} (h : AllShared n t S X) {z : Int} {l : List Int} (hl : Shared n t (toFs l) (X z)) : AllShared n t (upd S z (some l)) X := fun y ys hy => by
  unfold upd at hy
  by_cases he : y = z
  · rw [if_pos he] at hy
    injection hy with hy
    subst hy he
    exact hl
  · rw [if_neg he] at hy
    exact h y ys hy
theorem AllShared.drop {n t : Nat} {S : Int → Option (List Int)} {X : Int → F} (h : AllShared n t S X) {z : Int} : AllShared n t (upd S z none) X := fun y ys hy => by
  unfold upd at hy
  by_cases he : y = z
  · rw [if_pos he] at hy
    cases hy
  · rw [if_neg he] at hy
    exact h y ys hy
theorem genP_shared {N T : Nat} (ds : List Int) : Shared N T (toFs (ofFs (sumD N (genP T ds) N))) (fsum N fun i => toF (ds.getD (i * (T + 1)) 0)) := by
  rw [toFs_ofFs]
  have h := sumD_shared (n := N) (t := T) (f := genP T ds) N (fun i _ => by unfold genP; rw [toFs_length]; simp; omega)
  rw [fsum_congr (g := fun i => toF (ds.getD (i * (T + 1)) 0)) (fun i _ => by unfold genP toFs; rw [List.map_cons, peval_cons0])] at h
  exact h
theorem refP_shared {N T : Nat} (ds l0 : List Int) {x : F} (h : Shared N T (toFs l0) x) : Shared N T (toFs (ofFs (List.zipWith (· + ·) (toFs l0) (sumD N (refP T ds) N)))) x := by
  rw [toFs_ofFs]
  have h2 := sumD_shared (n := N) (t := T) (f := refP T ds) N (fun i _ => by unfold refP; rw [toFs_length]; simp; omega)
  rw [fsum_zero (fun i _ => by unfold refP toFs; rw [List.map_cons, peval_cons0, toF_zero])] at h2
  have := h.add h2
  rwa [F_az] at this
theorem tweak_shared {N T : Nat} (l0 : List Int) {x : F} (a : F) (h : Shared N T (toFs l0) x) : Shared N T (toFs (l0.map fun y => ofF (toF y + a))) (x + a) := by
  have h2 := h.add (Shared.const N T a)
  have e : toFs (l0.map fun y => ofF (toF y + a)) = List.zipWith (· + ·) (toFs l0) (List.replicate N a) := by
    have hl := h.len
    rw [toFs_length] at hl
    refine List.ext_getElem (by simp [toFs_length, hl]) fun i h1 h2 => ?_
    simp [toFs, toF_ofF]
  rw [e]
  exact h2
theorem combine_shared {N T : Nat} (l0 l1 : List Int) {x y : F} (a b : Int) (h0 : Shared N T (toFs l0) x) (h1 : Shared N T (toFs l1) y) : Shared N T (toFs (zipS (· + ·) (l0.map fun z => ofF (toF z * toF a)) (l1.map fun z => ofF (toF z * toF b)))) (x * toF a + y * toF b) := by
  have h2 := (h0.scale (toF a)).add (h1.scale (toF b))
  have e : toFs (zipS (· + ·) (l0.map fun z => ofF (toF z * toF a)) (l1.map fun z => ofF (toF z * toF b))) = List.zipWith (· + ·) ((toFs l0).map (· * toF a)) ((toFs l1).map (· * toF b)) := by
    refine (show toFs (zipS (· + ·) (l0.map fun z => ofF (toF z * toF a)) (l1.map fun z => ofF (toF z * toF b))) = _ from toFs_ofFs (List.zipWith (· + ·) ((l0.map fun z => ofF (toF z * toF a)).map toF) ((l1.map fun z => ofF (toF z * toF b)).map toF))).trans ?_
    simp [toFs, Function.comp_def, toF_ofF]
  rw [e]
  exact h2
theorem multiply_shared {N T : Nat} (l0 l1 ds : List Int) {x y : F} (h0 : Shared N T (toFs l0) x) (h1 : Shared N T (toFs l1) y) (ht : 2 * T + 1 ≤ N) (hn : N ≤ 9) : Shared N T (toFs (ofFs (mulOut N T (toFs l0) (toFs l1) (toFs ds)))) (x * y) := by
  rw [toFs_ofFs]
  exact h0.mul h1 ht (by omega) _
/-- keys, and plain numbers beside them -/
def Both (w : World) (base kb mb pb N T j : Nat) : Prop := ∃ last sz S V X, KeysIs w base kb mb N T last sz S V ∧ PlainIs w pb sz S X ∧ AllShared N T S X ∧ last ≤ j ∧ pb ≠ kb ∧ pb ≠ mb
end Go.Proofs.Ytegmeepogjijiaa
