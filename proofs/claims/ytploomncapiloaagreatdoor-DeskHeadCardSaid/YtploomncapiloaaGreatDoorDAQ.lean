/- Parts of the proof, put together by a program: KeyW. No condition. -/
import Derived.Test.YtploomncapiloaaGreatDoorDAN
import Derived.Test.YtploomncapiloaaGreatDoorDAP
namespace Go.Proofs.YtploomncapiloaaGreatDoor
open Go.RowKit Go.Maps Croft
theorem kNew_ok (n t : Nat) (w : World) (ht : t ≤ 4) (hn1 : 1 ≤ n) (hn : n ≤ 9) (hn2 : 2 * t + 1 ≤ n) :
    Calls Tryz.prog 61 #[.int .i64 n, .int .i64 t] w fun e w' => ∃ kb mb V, e = .returned (.tuple #[.pointer (some ⟨kb, 0, none⟩), .int .i64 0]) ∧ KeysIs w' w.heap.size kb mb n t 0 0 (fun _ => none) V ∧ Below w.heap.size w w' := by
  have hmm := @run_makeMap Tryz.prog
  have BB := Lib.hid ((((Below.refl w.heap.size w).alloc (Nat.le_refl _) (.map #[] 0))).alloc (by simp) (.cells #[.int .i64 n, .int .i64 t, .int .i64 0, .map (some w.heap.size)] 142))
  have KK := Lib.hid (show KeysIs ((w.alloc (.map #[] 0)).alloc (.cells #[.int .i64 n, .int .i64 t, .int .i64 0, .map (some w.heap.size)] 142)) w.heap.size (w.heap.size + 1) w.heap.size n t 0 0 (fun _ => none) (fun _ => .slice none 0 0) from by
    refine ⟨?_, ⟨⟨.map [], (World.ownsMap_made w _ _ _).alloc _, rfl, fun z => rfl, fun z d h => by simp at h⟩, fun z zs h => by simp at h, Nat.le_refl _⟩, by omega, fun z zs h => by simp at h, by omega⟩
    rw [← size_alloc w (.map #[] 0)]
    exact (MapKept.heap_alloc _ _).1)
  go_enter Tryz.func61, Tryz.ntmps61
  go_wp2_with fail
  go_ret2
  exact ⟨_, _, _, rfl, KK.out, BB.out⟩
structure Near (kb mb : Nat) (w w' : World) : Prop where
  os : w'.os = w.os
  tape : w'.tape = w.tape
  output : w'.output = w.output
  size : w.heap.size ≤ w'.heap.size
  block : ∀ k, k < w.heap.size → k ≠ kb → k ≠ mb → w'.heap[k]? = w.heap[k]?
theorem Near.refl (kb mb : Nat) (w : World) : Near kb mb w w := ⟨rfl, rfl, rfl, Nat.le_refl _, fun _ _ _ _ => rfl⟩
theorem Near.trans {kb mb : Nat} {a b c : World} (h : Near kb mb a b) (k : Near kb mb b c) : Near kb mb a c :=
  ⟨k.os.trans h.os, k.tape.trans h.tape, k.output.trans h.output, Nat.le_trans h.size k.size, fun i hi h1 h2 => (k.block i (Nat.lt_of_lt_of_le hi h.size) h1 h2).trans (h.block i hi h1 h2)⟩
theorem Near.of_below {kb mb : Nat} {w w' : World} (h : Below w.heap.size w w') : Near kb mb w w' := ⟨h.os, h.tape, h.output, h.size, fun k hk _ _ => h.block k hk⟩
theorem Near.below {kb mb : Nat} {a b c : World} (h : Near kb mb a b) (k : Below b.heap.size b c) : Near kb mb a c := h.trans (.of_below k)
theorem Near.grown {kb mb : Nat} {a b c : World} (h : Near kb mb a b) {g : Nat} (k : b.grownBy c (some g)) (hg : g = kb ∨ g = mb) : Near kb mb a c :=
  h.trans ⟨k.os, k.tape, k.output, k.size, fun i hi h1 h2 => k.block i hi (fun e => by injection e with e; rcases hg with rfl | rfl <;> contradiction)⟩
theorem Near.low {kb mb base : Nat} {a b : World} (h : Near kb mb a b) (h1 : base ≤ kb) (h2 : base ≤ mb) (h3 : base ≤ a.heap.size) : Below base a b := ⟨h.os, h.tape, h.output, h.size, fun i hi => h.block i (by omega) (by omega) (by omega)⟩
def thereE (S : Int → Option (List Int)) (hs : List Int) : Int := if hs.all (fun h => (S h).isSome) = true then 0 else 4
set_option maxRecDepth 100000 in
theorem kThere_any (va : Value) (hs : List Int) (w : World) {base kb mb n t last sz : Nat} {S : Int → Option (List Int)} {V : Int → Value} (hk : KeysIs w base kb mb n t last sz S V) (h1 : IsInts w va hs) :
    Calls Tryz.prog 118 #[.pointer (some ⟨kb, 0, none⟩), va] w fun e w' => e = .returned (.int .i64 (thereE S hs)) ∧ w = w' := by
  have KK := Lib.hid hk
  have KA := Lib.hid h1
  obtain ⟨_, _, _, hm, _⟩ := hk.cells
  obtain ⟨A1, c1, rfl, hc1, hm1, hl1, hu1, hr1⟩ := h1
  clear hk hm1
  have hu := Lib.hid hu1
  have hr := Lib.hid hr1
  clear hu1 hr1
  go_enter Tryz.func118, Tryz.ntmps118
  go_wp2_with fail
  go_loopw [11] (fun i wr => ∃ k : Nat, k ≤ hs.length ∧ i = .int .i64 k ∧ (hs.take k).all (fun h => (S h).isSome) = true ∧ w = wr) (fun i _ => hs.length - (intOf i).toNat)
  case atStart => exact ⟨0, Nat.zero_le _, rfl, by simp, rfl⟩
  case round =>
    obtain ⟨k, hk, rfl, hall, rfl⟩ := hrel
    have HA := Lib.hid hall
    clear hall
    by_cases hlt : k < hs.length
    · obtain ⟨b1, o1, z, rfl, hb1, hgk, hz64, hca⟩ := ints_at hr.out hu.out hlt
      obtain ⟨v, hlook⟩ := KK.out.store.lookOk hz64
      have HN := Lib.hid (show (hs.take (k + 1)).all (fun h => (S h).isSome) = (S z).isSome by rw [List.take_add_one, hgk, List.all_append, HA.out]; simp)
      have HG := Lib.hid hgk
      clear hgk hb1
      cases hsz : (S z).isSome with
      | true =>
        rw [hsz] at hlook HN
        clear hsz
        go_wp2_with fail
        exact ⟨⟨k + 1, by omega, by go_num, HN.out, trivial⟩, by simp [intOf] <;> omega⟩
      | false =>
        have HF := Lib.hid (show thereE S hs = 4 from by
          unfold thereE
          rw [if_neg]
          intro h
          have := List.all_eq_true.1 h z (List.mem_of_getElem? HG.out)
          rw [hsz] at this
          cases this)
        rw [hsz] at hlook
        clear hsz HN
        go_wp2_with fail
        go_ret
        exact ⟨by rw [HF.out]; rfl, rfl⟩
    · obtain rfl : k = hs.length := by omega
      have HF := Lib.hid (show thereE S hs = 0 from by
        unfold thereE
        rw [if_pos (by have := HA.out; rwa [List.take_length] at this)])
      go_wp2_with fail
      go_ret
      exact ⟨by rw [HF.out]; rfl, rfl⟩
theorem wpList_len_keys {ops : Array Oper} {rest : List Oper} {o : Oper} {a : Act} {Q : Exit → Act → World → Prop} {w : World} (hg : o.guard = none) (m : Operand)
    (hop : o.op = Op.call { callee := Callee.builtin Builtin.len, args := #[m], argTypes := #[117] }) {base mb sz : Nat} {S : Int → Option (List Int)} {V : Int → Value} (hm : a.eval m = .map (some mb)) (hs : StoreIs w base mb sz S V)
    (hK : wpList Tryz.prog ops Q rest (a.put o.dst (.int .i64 sz)) w) : wpList Tryz.prog ops Q (o :: rest) a w := by
  obtain ⟨D, h1, h2, _⟩ := hs.map
  exact wpList_len_own w hg m _ hop 3 _ Tryz.underlying117 heldR mb sz D hm h1 (by rw [h2]; exact hK)
theorem wpList_put_keys {ops : Array Oper} {rest : List Oper} {o : Oper} {a : Act} {Q : Exit → Act → World → Prop} {w : World} (hg : o.guard = none) (m x v : Operand) (hop : o.op = Op.mapUpdate 117 m x v)
    {base mb sz : Nat} {S : Int → Option (List Int)} {V : Int → Value} (hm : a.eval m = .map (some mb)) (hs : StoreIs w base mb sz S V) (h8 : sz ≤ 8) (z : Int) (hz : I64 z) (u : Value) (zs : List Int) (hx : a.eval x = .int .i64 z) (hv : a.eval v = u) (ho : OwnNums w base u zs) (sz' : Nat) (hsz' : (if (S z).isSome = true then sz else sz + 1) = sz')
    (hK : ∀ w', StoreIs w' base mb sz' (upd S z (some zs)) (updV V z u) → w.grownBy w' (some mb) → wpList Tryz.prog ops Q rest (a.put o.dst undef) w') : wpList Tryz.prog ops Q (o :: rest) a w := by
  obtain ⟨D, h1, h2, h3, h4⟩ := hs.map
  refine wpList_mapUpdate_own w hg m x v _ hop 3 64 ilaw Tryz.underlying117 heldR mb sz D hm h1 (by unfold maxLen; omega) _ _ (.int .i64 z) hx hv (keyOf_i64 hz) (.held u) [] rfl fun w' h5 h6 => ?_
  exact hK w' (by rw [← hsz']; exact StoreIs.put hs.rows hs.le h1 h2 h3 h4 ho h5 h6) h6
theorem wpList_del_keys {ops : Array Oper} {rest : List Oper} {o : Oper} {a : Act} {Q : Exit → Act → World → Prop} {w : World} (hg : o.guard = none) (m x : Operand) (hop : o.op = Op.call { callee := Callee.builtin Builtin.delete, args := #[m, x], argTypes := #[117, 3] })
    {base mb sz : Nat} {S : Int → Option (List Int)} {V : Int → Value} (hm : a.eval m = .map (some mb)) (hs : StoreIs w base mb sz S V) (z : Int) (hz : I64 z) (hx : a.eval x = .int .i64 z) (hin : (S z).isSome = true)
    (hK : ∀ w', StoreIs w' base mb (sz - 1) (upd S z none) V → w.grownBy w' (some mb) → wpList Tryz.prog ops Q rest (a.put o.dst (.tuple #[])) w') : wpList Tryz.prog ops Q (o :: rest) a w := by
  obtain ⟨D, h1, h2, h3, h4⟩ := hs.map
  refine wpList_delete_own w hg m x _ _ hop 64 ilaw Tryz.underlying117 heldR mb sz D hm h1 _ (.int .i64 z) hx (keyOf_i64 hz) fun w' h5 h6 => ?_
  exact hK w' (StoreIs.del hs.rows hs.le h1 h2 h3 h4 hin h5 h6.grown) h6.grown
theorem kKept_full (v : Value) (w : World) {base kb mb n t last : Nat} {S : Int → Option (List Int)} {V : Int → Value} (hk : KeysIs w base kb mb n t last 8 S V) :
    Calls Tryz.prog 114 #[.pointer (some ⟨kb, 0, none⟩), v] w fun e w' => e = .returned (.tuple #[.int .i64 0, .int .i64 2]) ∧ w = w' := by
  have KK := Lib.hid hk
  obtain ⟨_, _, _, hm, _⟩ := hk.cells
  clear hk
  go_enter Tryz.func114, Tryz.ntmps114
  go_wp2_with (at_len; refine wpList_len_keys rfl _ rfl rfl KK.out.store ?_)
  go_ret2
  exact ⟨rfl, rfl⟩
theorem heap_setCell_kb {w : World} {base kb mb n t last sz : Nat} {S : Int → Option (List Int)} {V : Int → Value} (h : KeysIs w base kb mb n t last sz S V) (x : Int) : (w.setCell ⟨kb, 2, none⟩ (.int .i64 x)).heap[kb]? = some (.cells #[.int .i64 n, .int .i64 t, .int .i64 x, .map (some mb)] 142 (0, 0)) := by
  have hc := h.cell
  simp [World.setCell, hc, Array.getElem?_modify]
theorem grownBy_setCell' (w : World) (b j : Nat) (v : Value) : w.grownBy (w.setCell ⟨b, j, none⟩ v) (some b) :=
  ⟨rfl, rfl, rfl, by simp [World.setCell], fun k hk hne => by
    have : b ≠ k := fun e => hne (by rw [e])
    simp [World.setCell, Array.getElem?_modify, this]⟩
theorem OwnNums.grownBy {w w' : World} {b base : Nat} {v : Value} {zs : List Int} (h : OwnNums w base v zs) (hg : w.grownBy w' (some b)) (hb : ∀ cur fr, w.heap[b]? ≠ some (.cells cur 67 fr)) : OwnNums w' base v zs := by
  refine ⟨⟨h.1.1, ?_⟩, h.2⟩
  rcases h.1.2 with h0 | ⟨g, cap, cur, rfl, h1, h2, h3⟩
  · exact .inl h0
  · refine .inr ⟨g, cap, cur, rfl, h1, ?_, h3⟩
    rw [hg.block g (Array.getElem?_eq_some_iff.1 h2).1 (fun e => by injection e with e; subst e; exact hb _ _ h2)]
    exact h2
theorem KeysIs.kb_type {w : World} {base kb mb n t last sz : Nat} {S : Int → Option (List Int)} {V : Int → Value} (h : KeysIs w base kb mb n t last sz S V) (cur : Array Value) (fr : Nat × Nat) : w.heap[kb]? ≠ some (.cells cur 67 fr) := by
  rw [h.cell]
  intro e
  injection e with e
  injection e with _ e _
  exact absurd e (by decide)
theorem KeysIs.mb_type {w : World} {base kb mb n t last sz : Nat} {S : Int → Option (List Int)} {V : Int → Value} (h : KeysIs w base kb mb n t last sz S V) (cur : Array Value) (e : TypeId) (fr : Nat × Nat) : w.heap[mb]? ≠ some (.cells cur e fr) := by
  obtain ⟨D, ⟨es, clock, hb, _⟩, _⟩ := h.store.map
  rw [hb]
  intro e
  cases e
theorem KeysIs.ne {w : World} {base kb mb n t last sz : Nat} {S : Int → Option (List Int)} {V : Int → Value} (h : KeysIs w base kb mb n t last sz S V) : kb ≠ mb := fun e => by
  have := h.mb_type
  subst e
  exact this _ _ _ h.cell
theorem KeysIs.bump {w : World} {base kb mb n t last sz : Nat} {S : Int → Option (List Int)} {V : Int → Value} (h : KeysIs w base kb mb n t last sz S V) : KeysIs (w.setCell ⟨kb, 2, none⟩ (.int .i64 ((last : Int) + 1))) base kb mb n t (last + 1) sz S V := by
  refine ⟨heap_setCell_kb h _, ⟨?_, fun z zs hz => (h.store.rows z zs hz).grownBy (grownBy_setCell' w kb 2 _) h.kb_type, h.store.le⟩, h.le, fun z zs hz => ?_, h.sz8⟩
  · obtain ⟨D, h1, h2⟩ := h.store.map
    exact ⟨D, h1.kept (grownBy_setCell' w kb 2 _) (fun e => h.ne (by injection e with e; exact e.symm)), h2⟩
  · obtain ⟨h1, h2, h3⟩ := h.len z zs hz
    exact ⟨h1, h2, by omega⟩
theorem KeysIs.turned {w w' : World} {base kb mb n t last sz sz' : Nat} {S S' : Int → Option (List Int)} {V V' : Int → Value} (h : KeysIs w base kb mb n t last sz S V) (hs : StoreIs w' base mb sz' S' V') (hg : w.grownBy w' (some mb)) (h8 : sz' ≤ 8)
    (hl : ∀ z zs, S' z = some zs → zs.length = n ∧ 1 ≤ z ∧ z ≤ last) : KeysIs w' base kb mb n t last sz' S' V' :=
  ⟨(hg.block kb h.lt (fun e => h.ne (by injection e))).trans h.cell, hs, h.le, hl, h8⟩
set_option maxRecDepth 100000 in
theorem kKept_ok (v : Value) (zs : List Int) (w : World) {base kb mb n t last sz : Nat} {S : Int → Option (List Int)} {V : Int → Value} (hk : KeysIs w base kb mb n t last sz S V) (hsz : sz < 8) (hlast : last < 1000000) (hv : OwnNums w base v zs) (hl : zs.length = n) :
    Calls Tryz.prog 114 #[.pointer (some ⟨kb, 0, none⟩), v] w fun e w' => e = .returned (.tuple #[.int .i64 ((last + 1 : Nat) : Int), .int .i64 0]) ∧ KeysIs w' base kb mb n t (last + 1) (sz + 1) (upd S (last + 1 : Nat) (some zs)) (updV V (last + 1 : Nat) v) ∧ Near kb mb w w' := by
  have KK := Lib.hid hk
  have KB := Lib.hid hk.bump
  have KV := Lib.hid (hv.grownBy (grownBy_setCell' w kb 2 (.int .i64 ((last : Int) + 1))) hk.kb_type)
  have BB := Lib.hid ((Near.refl kb mb w).grown (grownBy_setCell' w kb 2 (.int .i64 ((last : Int) + 1))) (.inl rfl))
  have HS := Lib.hid (show S ((last : Int) + 1) = none from by
    cases h : S ((last : Int) + 1) with
    | none => rfl
    | some zs => have := (hk.len _ _ h).2.2; omega)
  obtain ⟨_, _, hc2, hm, hfr⟩ := hk.cells
  have hf2 := hfr 2
  have hne : ((sz : Int) == 8) = false := by rw [beq_eq_false_iff_ne]; omega
  clear hk hfr hv
  suffices hgoal : ∀ Post : Ending → World → Prop, (∀ w', KeysIs w' base kb mb n t (last + 1) (sz + 1) (upd S (last + 1 : Nat) (some zs)) (updV V (last + 1 : Nat) v) → Near kb mb w w' → Post (.returned (.tuple #[.int .i64 ((last + 1 : Nat) : Int), .int .i64 0])) w') → Calls Tryz.prog 114 #[.pointer (some ⟨kb, 0, none⟩), v] w Post from hgoal _ fun w' h1 h2 => ⟨rfl, h1, h2⟩
  intro Post hpo
  have HP := Lib.hid hpo
  clear hpo
  go_enter Tryz.func114, Tryz.ntmps114
  go_wp2_with (at_len; refine wpList_len_keys rfl _ rfl rfl KK.out.store ?_)
  obtain ⟨W1, hW1⟩ : ∃ W1, W1 = w.setCell ⟨kb, 2, none⟩ (.int .i64 ((last : Int) + 1)) := ⟨_, rfl⟩
  rw [← hW1] at KB KV BB ⊢
  clear hW1 hc2 hm hf2 KK
  obtain ⟨_, _, hc2, hm, _⟩ := KB.out.cells
  refine wp_region_quiet_tail 9 (by kernel_rfl) (by kernel_rfl) ?_
  simp only [List.take_succ_cons, List.take_zero, List.drop_succ_cons, List.drop_zero]
  repeat (go_big_quiet_step ((fail)))
  refine wpQuiet_nil ?_
  intro nq
  go_wp2_with (at_mapUpdate; refine wpList_put_keys rfl _ _ _ rfl rfl (KB.out.store.drewN nq) (by omega) ((last : Int) + 1) (by unfold I64; omega) _ zs rfl rfl (KV.out.drewN nq) (sz + 1) (by rw [HS.out]; rfl) ?_)
  intro w2 hst hg2
  have K2 := Lib.hid ((KB.out.drewN nq).turned hst hg2 (by omega) (fun z ys hz => by
    unfold upd at hz
    by_cases he : z = (last : Int) + 1
    · rw [if_pos he] at hz
      injection hz with hz
      subst hz
      exact ⟨hl, by omega, by omega⟩
    · rw [if_neg he] at hz
      exact KB.out.len z ys hz))
  have B2 := Lib.hid ((BB.out.below (below_drewN (Below.refl _ _) nq)).grown hg2 (.inr rfl))
  obtain ⟨_, _, hd2, _, _⟩ := K2.out.cells
  clear hst hg2 hc2 hm
  go_wp2_with fail
  exact HP.out _ K2.out B2.out
def NewKey (w : World) (base kb mb n t last sz : Nat) (S : Int → Option (List Int)) (l : List Int) (e : Ending) (w' : World) : Prop :=
  if sz = 8 then e = .returned (.tuple #[.int .i64 0, .int .i64 2]) ∧ (∃ V', KeysIs w' base kb mb n t last sz S V') ∧ Near kb mb w w'
  else e = .returned (.tuple #[.int .i64 ((last + 1 : Nat) : Int), .int .i64 0]) ∧ (∃ V', KeysIs w' base kb mb n t (last + 1) (sz + 1) (upd S (last + 1 : Nat) (some l)) V') ∧ Near kb mb w w'
theorem kKept_any (v : Value) (zs : List Int) (w : World) {base kb mb n t last sz : Nat} {S : Int → Option (List Int)} {V : Int → Value} (hk : KeysIs w base kb mb n t last sz S V) (hlast : last < 1000000) (hv : OwnNums w base v zs) (hl : zs.length = n) :
    Calls Tryz.prog 114 #[.pointer (some ⟨kb, 0, none⟩), v] w fun e w' => NewKey w base kb mb n t last sz S zs e w' := by
  by_cases h8 : sz = 8
  · subst h8
    refine (kKept_full v w hk).mono ?_
    rintro e w' ⟨rfl, rfl⟩
    unfold NewKey
    rw [if_pos rfl]
    exact ⟨rfl, ⟨V, hk⟩, Near.refl _ _ _⟩
  · refine (kKept_ok v zs w hk (by have := hk.sz8; omega) hlast hv hl).mono ?_
    rintro e w' ⟨rfl, h1, h2⟩
    unfold NewKey
    rw [if_neg h8]
    exact ⟨rfl, ⟨_, h1⟩, h2⟩
def cutV (A : Option Addr) (c lo len : Nat) : Value := .slice (if c = lo then A else A.map (·.add (lo * 1))) len (c - lo)
theorem cGenS_any (i E m bd be : Nat) (A : Option Addr) (c : Nat) (ds : List Int) (w : World) (hd : w.cell? ⟨bd, 0, none⟩ = some (.slice A ds.length c)) (he : w.cell? ⟨be, 0, none⟩ = some (.int .i64 E)) (h1 : IsNums w (.slice A ds.length c) ds) (hm : i * E = m) (hlt : m < ds.length) (hi : i ≤ 100) (hE : E ≤ 100) :
    Calls Tryz.prog 116 #[.int .i64 i, .pointer (some ⟨bd, 0, none⟩), .pointer (some ⟨be, 0, none⟩)] w fun e w' => e = .returned (.int .u64 (ds.getD m 0)) ∧ w = w' := by
  obtain ⟨A1, c1, hv, hc1, hm1, hl1, hu1, hr1⟩ := h1
  injection hv with hv1 _ hv3
  subst hv1 hv3
  obtain ⟨b1, o1, z, rfl, hb1, hgk, hz64, hca⟩ := nums_at hr1 hu1 hlt
  have hmul : (i : Int) * (E : Int) = (m : Int) := by rw [← hm]; simp
  have hgd : ds.getD m 0 = z := by simp [List.getD, hgk]
  rw [hgd]
  have hmm : m ≤ 10000 := by rw [← hm]; exact Nat.le_trans (Nat.mul_le_mul hi hE) (by omega)
  clear hr1 hu1 hb1 hgk hgd hm
  go_enter Tryz.func116, Tryz.ntmps116
  go_wp2_with fail
  go_ret
  exact ⟨rfl, rfl⟩
theorem cGenD_any (i t m bd be : Nat) (A : Option Addr) (c : Nat) (ds : List Int) (w : World) (hd : w.cell? ⟨bd, 0, none⟩ = some (.slice A ds.length c)) (he : w.cell? ⟨be, 0, none⟩ = some (.int .i64 ((t : Int) + 1))) (h1 : IsNums w (.slice A ds.length c) ds) (hm : i * (t + 1) = m) (hlt : m + t + 1 ≤ ds.length) (hi : i ≤ 100) (ht : t ≤ 4) :
    Calls Tryz.prog 117 #[.int .i64 i, .pointer (some ⟨bd, 0, none⟩), .pointer (some ⟨be, 0, none⟩)] w fun e w' => e = .returned (cutV A c (m + 1) t) ∧ w = w' := by
  have h2 := h1
  obtain ⟨A1, c1, hv, hc1, hm1, hl1, hu1, hr1⟩ := h1
  injection hv with hv1 _ hv3
  subst hv1 hv3
  have hmul : (i : Int) * ((t : Int) + 1) = (m : Int) := by rw [← hm]; simp
  have hmul2 : ((i : Int) + 1) * ((t : Int) + 1) = (m : Int) + (t : Int) + 1 := by rw [Int.add_mul, hmul]; omega
  have hmb : m ≤ 10000 := by rw [← hm]; exact Nat.le_trans (Nat.mul_le_mul hi (show t + 1 ≤ 100 by omega)) (by omega)
  have hsl := slice_run A ds.length c (m + 1) (m + t + 1) ((m : Int) + 1) ((m : Int) + (t : Int) + 1) (by omega) (by omega) (by omega) (by omega)
  rw [show m + t + 1 - (m + 1) = t by omega] at hsl
  obtain ⟨vc, hvc⟩ : ∃ vc, vc = cutV A c (m + 1) t := ⟨_, rfl⟩
  rw [show Value.slice (if c = m + 1 then A else A.map (·.add ((m + 1) * 1))) t (c - (m + 1)) = vc from hvc.symm] at hsl
  have HVC := Lib.hid hvc
  clear hr1 hu1 hm h2 hvc
  go_enter Tryz.func117, Tryz.ntmps117
  go_wp2_with fail
  go_ret
  exact ⟨by rw [← HVC.out]; rfl, rfl⟩
theorem cRefS_any (i : Int) (w : World) : Calls Tryz.prog 119 #[.int .i64 i] w fun e w' => e = .returned (.int .u64 0) ∧ w = w' := by
  go_enter Tryz.func119, Tryz.ntmps119
  go_wp2_with fail
  go_ret
  exact ⟨rfl, rfl⟩
theorem cRefD_any (i t m bd bk kb : Nat) (A : Option Addr) (c : Nat) (ds : List Int) (w : World) (hd : w.cell? ⟨bd, 0, none⟩ = some (.slice A ds.length c)) (hk : w.cell? ⟨bk, 0, none⟩ = some (.pointer (some ⟨kb, 0, none⟩))) (he : w.cell? ⟨kb, 1, none⟩ = some (.int .i64 t)) (h1 : IsNums w (.slice A ds.length c) ds) (hm : i * t = m) (hlt : m + t ≤ ds.length) (hi : i ≤ 100) (ht : t ≤ 4) :
    Calls Tryz.prog 120 #[.int .i64 i, .pointer (some ⟨bd, 0, none⟩), .pointer (some ⟨bk, 0, none⟩)] w fun e w' => e = .returned (cutV A c m t) ∧ ∃ nd, w' = w.drewN nd := by
  have h2 := h1
  obtain ⟨A1, c1, hv, hc1, hm1, hl1, hu1, hr1⟩ := h1
  injection hv with hv1 _ hv3
  subst hv1 hv3
  have hmul : (i : Int) * (t : Int) = (m : Int) := by rw [← hm]; simp
  have hmul2 : ((i : Int) + 1) * (t : Int) = (m : Int) + (t : Int) := by rw [Int.add_mul, hmul]; omega
  have hmb : m ≤ 10000 := by rw [← hm]; exact Nat.le_trans (Nat.mul_le_mul hi (show t ≤ 100 by omega)) (by omega)
  have hsl := slice_run A ds.length c m (m + t) (m : Int) ((m : Int) + (t : Int)) rfl (by omega) (by omega) (by omega)
  rw [show m + t - m = t by omega] at hsl
  obtain ⟨vc, hvc⟩ : ∃ vc, vc = cutV A c m t := ⟨_, rfl⟩
  rw [show Value.slice (if c = m then A else A.map (·.add (m * 1))) t (c - m) = vc from hvc.symm] at hsl
  have HVC := Lib.hid hvc
  clear hr1 hu1 hm h2 hvc
  go_enter Tryz.func120, Tryz.ntmps120
  go_wp2_with fail
  go_quiet (fail)
  go_wp2_with fail
  go_ret
  exact ⟨by rw [← HVC.out]; rfl, _, rfl⟩
def sumD (n : Nat) (f : Nat → List F) : Nat → List F
  | 0 => List.replicate n 0
  | k + 1 => List.zipWith (· + ·) (sumD n f k) (deal n (f k))
theorem sumD_length (n : Nat) (f : Nat → List F) : ∀ k, (sumD n f k).length = n
  | 0 => by simp [sumD]
  | k + 1 => by simp [sumD, sumD_length n f k, deal_length]
theorem sumD_shared {n t : Nat} {f : Nat → List F} : ∀ k, (∀ i, i < k → (f i).length ≤ t + 1) → Shared n t (sumD n f k) (fsum k fun i => peval (f i) 0)
  | 0, _ => Shared.const n t 0
  | k + 1, h => (sumD_shared k fun i hi => h i (by omega)).add ⟨f k, h k (by omega), rfl, rfl⟩
theorem eachL_add {n : Nat} {a b : List F} (ha : a.length = n) (hb : b.length = n) (h1 : 1 ≤ n) (h9 : n ≤ 9) : eachL (· + ·) (ofFs a) (ofFs b) = ofFs (List.zipWith (· + ·) a b) ∧ wire2E (ofFs a) (ofFs b) = 0 := by
  have hw : wire2E (ofFs a) (ofFs b) = 0 := wire2E_ok (by rw [ofFs_length, ha]; exact h1) (by rw [ofFs_length, ha]; exact h9) (by rw [ofFs_length, ofFs_length, ha, hb])
  refine ⟨?_, hw⟩
  unfold eachL
  rw [if_pos hw]
  unfold zipS
  have e : ∀ l : List F, (ofFs l).map toF = l := fun l => toFs_ofFs l
  rw [e, e]
  rfl
def genP (t : Nat) (ds : List Int) (i : Nat) : List F := toFs (ds.getD (i * (t + 1)) 0 :: (ds.drop (i * (t + 1) + 1)).take t)
def refP (t : Nat) (ds : List Int) (i : Nat) : List F := toFs (0 :: (ds.drop (i * t)).take t)
set_option maxRecDepth 100000 in
set_option maxHeartbeats 2000000 in
theorem kDealtG_any (n t bd be : Nat) (A : Option Addr) (c : Nat) (ds : List Int) (w : World) {base kb mb last sz : Nat} {S : Int → Option (List Int)} {V : Int → Value} (hk : KeysIs w base kb mb n t last sz S V)
    (hd : w.cell? ⟨bd, 0, none⟩ = some (.slice A ds.length c)) (he : w.cell? ⟨be, 0, none⟩ = some (.int .i64 ((t : Int) + 1))) (hbd : bd < w.heap.size) (hbe : be < w.heap.size) (h1 : IsNums w (.slice A ds.length c) ds) (hl : ds.length = n * (t + 1)) (ht : t ≤ 4) (hn9 : n ≤ 9) (htn : t + 1 ≤ n) :
    Calls Tryz.prog 115 #[.pointer (some ⟨kb, 0, none⟩), .func (.func 116) #[] #[.pointer (some ⟨bd, 0, none⟩), .pointer (some ⟨be, 0, none⟩)], .func (.func 117) #[] #[.pointer (some ⟨bd, 0, none⟩), .pointer (some ⟨be, 0, none⟩)]] w
      fun e w' => ∃ v, e = .returned v ∧ OwnNums w' w.heap.size v (ofFs (sumD n (genP t ds) n)) ∧ Below w.heap.size w w' := by
  have KK := Lib.hid hk
  have KD := Lib.hid h1
  have HD := Lib.hid hd
  have HE := Lib.hid he
  have HL := Lib.hid hl
  have hcf1 : ∀ (x y z : Value) (W : World), (callFunc 116 #[x, y, z]).run Tryz.prog W = .ok (.enter 116 #[x, y, z]) W := fun x y z W => by kernel_rfl
  have hcf2 : ∀ (x y z : Value) (W : World), (callFunc 117 #[x, y, z]).run Tryz.prog W = .ok (.enter 117 #[x, y, z]) W := fun x y z W => by kernel_rfl
  obtain ⟨hc0, _, _, _, _⟩ := hk.cells
  suffices hgoal : ∀ Post : Ending → World → Prop, (∀ e w', (∃ v, e = .returned v ∧ OwnNums w' w.heap.size v (ofFs (sumD n (genP t ds) n)) ∧ Below w.heap.size w w') → Post e w') → Calls Tryz.prog 115 #[.pointer (some ⟨kb, 0, none⟩), .func (.func 116) #[] #[.pointer (some ⟨bd, 0, none⟩), .pointer (some ⟨be, 0, none⟩)], .func (.func 117) #[] #[.pointer (some ⟨bd, 0, none⟩), .pointer (some ⟨be, 0, none⟩)]] w Post from hgoal _ fun e w' h => h
  intro Post hpo
  have HP := Lib.hid hpo
  clear hpo hk hd he h1 hl
  go_enter Tryz.func115, Tryz.ntmps115
  go_wp2_with (refine wpList_make_nums rfl _ _ rfl w.heap.size _ n rfl rfl rfl (by omega) (Nat.le_refl _) ?_)
  intro w1 ho hb
  have KO := Lib.hid ho
  have B1 := Lib.hid hb
  have hkbs := KK.out.lt
  replace hc0 := (hb.cell (p := ⟨kb, 0, none⟩) hkbs).trans hc0
  clear ho hb
  go_wp2_with fail
  go_loopw [7, 20] (fun v i wr => ∃ k : Nat, k ≤ n ∧ i = .int .i64 k ∧ OwnNums wr w.heap.size v (ofFs (sumD n (genP t ds) k)) ∧ Below w.heap.size w wr) (fun _ i _ => n - (intOf i).toNat)
  case atStart => exact ⟨0, Nat.zero_le _, rfl, by rw [show ofFs (sumD n (genP t ds) 0) = List.replicate n 0 by simp [sumD, ofFs]; right; rfl]; exact KO.out, B1.out⟩
  case round =>
    obtain ⟨k, hk, rfl, hown, hbel⟩ := hrel
    clear KO B1 hc0
    have KO := Lib.hid hown
    have BEL := Lib.hid hbel
    have hsz := hbel.size
    clear hown hbel
    by_cases hlt : k < n
    · have KKr := Lib.hid (KK.out.below BEL.out)
      have KDr := Lib.hid (KD.out.below BEL.out)
      have HDr := Lib.hid ((BEL.out.cell (p := ⟨bd, 0, none⟩) hbd).trans HD.out)
      have HEr := Lib.hid ((BEL.out.cell (p := ⟨be, 0, none⟩) hbe).trans HE.out)
      obtain ⟨hc0, _, _, _, _⟩ := KKr.out.cells
      have hk1 : (k + 1) * (t + 1) ≤ n * (t + 1) := Nat.mul_le_mul hlt (Nat.le_refl _)
      obtain ⟨m, hm⟩ : ∃ m, k * (t + 1) = m := ⟨_, rfl⟩
      rw [Nat.succ_mul, hm] at hk1
      have HM := Lib.hid hm
      have hmd : m + t + 1 ≤ ds.length := by rw [HL.out]; omega
      have C1 := Lib.hid (fun q => cGenS_any k (t + 1) m bd be A c ds (wr.drewN q) HDr.out HEr.out (KDr.out.drewN q) hm (by omega) (by omega) (by omega))
      have C2 := Lib.hid (fun q => cGenD_any k t m bd be A c ds (wr.drewN q) HDr.out HEr.out (KDr.out.drewN q) hm hmd (by omega) ht)
      clear hm
      go_wp2_with fail
      have hkb := KKr.out.lt
      have hcut := (KDr.out.drewN 1).cut (m + 1) (m + t + 1) (by omega) hmd
      rw [show m + t + 1 - (m + 1) = t by omega] at hcut
      have HCUT := Lib.hid (show IsNums (wr.drewN 1) (cutV A c (m + 1) t) ((ds.drop (m + 1)).take t) from hcut)
      have HCL := Lib.hid (show ((ds.drop (m + 1)).take t).length = t by rw [List.length_take, List.length_drop]; omega)
      have HU := Lib.hid (show U64 (ds.getD m 0) from KD.out.u64 _ (by rw [List.getD, List.getElem?_eq_getElem (by omega)]; exact List.getElem_mem _))
      clear hcut
      go_region_held3 (fun w' => w'.cell? ⟨kb, 0, none⟩ = some (.int .i64 n)) (go_keep) (first | (go_at_call 116; refine (C1.out 1).mono ?_; rintro e w' ⟨rfl, rfl⟩) | (go_at_call 117; refine (C2.out 1).mono ?_; rintro e w' ⟨rfl, rfl⟩) | (go_at_call 56; refine (sDeal_ok _ _ ((ds.drop (m + 1)).take t) n _ HU.out HCUT.out (by rw [HCL.out]; exact ht) (by rw [HCL.out]; exact htn) hn9).mono ?_; rintro e w6 ⟨vl, rfl, ho6, hb6⟩; have q0 := (hb6.cell (p := ⟨kb, 0, none⟩) hkb).trans hc0; have KL := Lib.hid ho6; have B6 := Lib.hid hb6; clear ho6 hb6))
      have hgp : deal n (genP t ds k) = deal n (toFs (ds.getD m 0 :: (ds.drop (m + 1)).take t)) := by unfold genP; rw [HM.out]
      obtain ⟨dl, hdl⟩ : ∃ dl, dl = ofFs (deal n (genP t ds k)) := ⟨_, rfl⟩
      have KL2 := Lib.hid (show OwnNums w6 (wr.drewN 1).heap.size vl dl by rw [hdl, hgp]; exact KL.out)
      have HDL := Lib.hid hdl
      have KO6 := Lib.hid ((KO.out.drewN 1).below B6.out)
      have BEL6 := Lib.hid ((below_drewN BEL.out 1).trans (show Below w.heap.size (wr.drewN 1) w6 from ⟨B6.out.os, B6.out.tape, B6.out.output, B6.out.size, fun j hj => B6.out.block j (Nat.lt_of_lt_of_le hj hsz)⟩))
      clear hgp hdl KL KO BEL B6 q0
      go_wp2_with fail
      refine (gAdd_any _ _ _ _ _ KO6.out.is KL2.out.is).mono ?_
      rintro e w7 ⟨vs, rfl, ho7, hb7⟩
      rw [HDL.out, (eachL_add (sumD_length n _ k) (deal_length n _) (by omega) hn9).2]
      rw [HDL.out, (eachL_add (sumD_length n _ k) (deal_length n _) (by omega) hn9).1] at ho7
      have K7 := Lib.hid (show OwnNums w7 w.heap.size vs (ofFs (sumD n (genP t ds) (k + 1))) from ho7.less BEL6.out.size)
      have B7 := Lib.hid (below_trans BEL6.out hb7 BEL6.out.size)
      clear ho7 hb7
      try dsimp only
      go_wp2_with fail
      exact ⟨⟨k + 1, by omega, by go_num, K7.out, B7.out⟩, by simp [intOf] <;> omega⟩
    · obtain rfl : k = n := by omega
      go_wp2_with fail
      exact HP.out _ _ ⟨_, rfl, KO.out, BEL.out⟩
set_option maxRecDepth 100000 in
set_option maxHeartbeats 2000000 in
theorem kDealtR_any (n t bd bk : Nat) (A : Option Addr) (c : Nat) (ds : List Int) (w : World) {base kb mb last sz : Nat} {S : Int → Option (List Int)} {V : Int → Value} (hk : KeysIs w base kb mb n t last sz S V)
    (hd : w.cell? ⟨bd, 0, none⟩ = some (.slice A ds.length c)) (he : w.cell? ⟨bk, 0, none⟩ = some (.pointer (some ⟨kb, 0, none⟩))) (hbd : bd < w.heap.size) (hbe : bk < w.heap.size) (h1 : IsNums w (.slice A ds.length c) ds) (hl : ds.length = n * t) (ht : t ≤ 4) (hn9 : n ≤ 9) (htn : t + 1 ≤ n) :
    Calls Tryz.prog 115 #[.pointer (some ⟨kb, 0, none⟩), .func (.func 119) #[] #[], .func (.func 120) #[] #[.pointer (some ⟨bd, 0, none⟩), .pointer (some ⟨bk, 0, none⟩)]] w
      fun e w' => ∃ v, e = .returned v ∧ OwnNums w' w.heap.size v (ofFs (sumD n (refP t ds) n)) ∧ Below w.heap.size w w' := by
  have KK := Lib.hid hk
  have KD := Lib.hid h1
  have HD := Lib.hid hd
  have HE := Lib.hid he
  have HL := Lib.hid hl
  have hcf1 : ∀ (x : Value) (W : World), (callFunc 119 #[x]).run Tryz.prog W = .ok (.enter 119 #[x]) W := fun x W => by kernel_rfl
  have hcf2 : ∀ (x y z : Value) (W : World), (callFunc 120 #[x, y, z]).run Tryz.prog W = .ok (.enter 120 #[x, y, z]) W := fun x y z W => by kernel_rfl
  obtain ⟨hc0, _, _, _, _⟩ := hk.cells
  suffices hgoal : ∀ Post : Ending → World → Prop, (∀ e w', (∃ v, e = .returned v ∧ OwnNums w' w.heap.size v (ofFs (sumD n (refP t ds) n)) ∧ Below w.heap.size w w') → Post e w') → Calls Tryz.prog 115 #[.pointer (some ⟨kb, 0, none⟩), .func (.func 119) #[] #[], .func (.func 120) #[] #[.pointer (some ⟨bd, 0, none⟩), .pointer (some ⟨bk, 0, none⟩)]] w Post from hgoal _ fun e w' h => h
  intro Post hpo
  have HP := Lib.hid hpo
  clear hpo hk hd he h1 hl
  go_enter Tryz.func115, Tryz.ntmps115
  go_wp2_with (refine wpList_make_nums rfl _ _ rfl w.heap.size _ n rfl rfl rfl (by omega) (Nat.le_refl _) ?_)
  intro w1 ho hb
  have KO := Lib.hid ho
  have B1 := Lib.hid hb
  have hkbs := KK.out.lt
  replace hc0 := (hb.cell (p := ⟨kb, 0, none⟩) hkbs).trans hc0
  clear ho hb
  go_wp2_with fail
  go_loopw [7, 20] (fun v i wr => ∃ k : Nat, k ≤ n ∧ i = .int .i64 k ∧ OwnNums wr w.heap.size v (ofFs (sumD n (refP t ds) k)) ∧ Below w.heap.size w wr) (fun _ i _ => n - (intOf i).toNat)
  case atStart => exact ⟨0, Nat.zero_le _, rfl, by rw [show ofFs (sumD n (refP t ds) 0) = List.replicate n 0 by simp [sumD, ofFs]; right; rfl]; exact KO.out, B1.out⟩
  case round =>
    obtain ⟨k, hk, rfl, hown, hbel⟩ := hrel
    clear KO B1 hc0
    have KO := Lib.hid hown
    have BEL := Lib.hid hbel
    have hsz := hbel.size
    clear hown hbel
    by_cases hlt : k < n
    · have KKr := Lib.hid (KK.out.below BEL.out)
      have KDr := Lib.hid (KD.out.below BEL.out)
      have HDr := Lib.hid ((BEL.out.cell (p := ⟨bd, 0, none⟩) hbd).trans HD.out)
      have HEr := Lib.hid ((BEL.out.cell (p := ⟨bk, 0, none⟩) hbe).trans HE.out)
      obtain ⟨hc0, hc1, _, _, _⟩ := KKr.out.cells
      have hk1 : (k + 1) * t ≤ n * t := Nat.mul_le_mul hlt (Nat.le_refl _)
      obtain ⟨m, hm⟩ : ∃ m, k * t = m := ⟨_, rfl⟩
      rw [Nat.succ_mul, hm] at hk1
      have HM := Lib.hid hm
      have hmd : m + t ≤ ds.length := by rw [HL.out]; omega
      have C1 := Lib.hid (fun (q : Nat) => cRefS_any k (wr.drewN q))
      have C2 := Lib.hid (fun q => cRefD_any k t m bd bk kb A c ds (wr.drewN q) HDr.out HEr.out hc1 (KDr.out.drewN q) hm hmd (by omega) ht)
      clear hm hc1
      go_wp2_with fail
      have hkb := KKr.out.lt
      have HCUT := Lib.hid (fun (q : Nat) => show IsNums (wr.drewN q) (cutV A c m t) ((ds.drop m).take t) from by
        have hcut := (KDr.out.drewN q).cut m (m + t) (by omega) hmd
        rw [show m + t - m = t by omega] at hcut
        exact hcut)
      have HCL := Lib.hid (show ((ds.drop m).take t).length = t by rw [List.length_take, List.length_drop]; omega)
      go_region_held3 (fun w' => w'.cell? ⟨kb, 0, none⟩ = some (.int .i64 n)) (go_keep) (first | (go_at_call 119; refine (C1.out 1).mono ?_; rintro e w' ⟨rfl, rfl⟩) | (go_at_call 120; refine (C2.out 1).mono ?_; rintro e w' ⟨rfl, nd, rfl⟩) | (go_at_call 56; refine (sDeal_ok _ _ ((ds.drop m).take t) n _ u64_zero (HCUT.out _) (by rw [HCL.out]; exact ht) (by rw [HCL.out]; exact htn) hn9).mono ?_; rintro e w6 ⟨vl, rfl, ho6, hb6⟩; have q0 := (hb6.cell (p := ⟨kb, 0, none⟩) hkb).trans hc0; have KL := Lib.hid (show OwnNums w6 wr.heap.size vl _ from ho6); have B6 := Lib.hid (show Below wr.heap.size wr w6 from ⟨hb6.os, hb6.tape, hb6.output, hb6.size, hb6.block⟩); clear ho6 hb6))
      have hgp : deal n (refP t ds k) = deal n (toFs (0 :: (ds.drop m).take t)) := by unfold refP; rw [HM.out]
      obtain ⟨dl, hdl⟩ : ∃ dl, dl = ofFs (deal n (refP t ds k)) := ⟨_, rfl⟩
      have KL2 := Lib.hid (show OwnNums w6 wr.heap.size vl dl by rw [hdl, hgp]; exact KL.out)
      have HDL := Lib.hid hdl
      have KO6 := Lib.hid (KO.out.below B6.out)
      have BEL6 := Lib.hid (below_trans BEL.out B6.out hsz)
      clear hgp hdl KL KO BEL B6 q0
      go_wp2_with fail
      refine (gAdd_any _ _ _ _ _ KO6.out.is KL2.out.is).mono ?_
      rintro e w7 ⟨vs, rfl, ho7, hb7⟩
      rw [HDL.out, (eachL_add (sumD_length n _ k) (deal_length n _) (by omega) hn9).2]
      rw [HDL.out, (eachL_add (sumD_length n _ k) (deal_length n _) (by omega) hn9).1] at ho7
      have K7 := Lib.hid (show OwnNums w7 w.heap.size vs (ofFs (sumD n (refP t ds) (k + 1))) from ho7.less BEL6.out.size)
      have B7 := Lib.hid (below_trans BEL6.out hb7 BEL6.out.size)
      clear ho7 hb7
      try dsimp only
      go_wp2_with fail
      exact ⟨⟨k + 1, by omega, by go_num, K7.out, B7.out⟩, by simp [intOf] <;> omega⟩
    · obtain rfl : k = n := by omega
      go_wp2_with fail
      exact HP.out _ _ ⟨_, rfl, KO.out, BEL.out⟩
set_option maxRecDepth 100000 in
set_option maxHeartbeats 1000000 in
theorem kGen_any (vd : Value) (ds : List Int) (w : World) {base kb mb n t last sz : Nat} {S : Int → Option (List Int)} {V : Int → Value} (hk : KeysIs w base kb mb n t last sz S V) (h1 : IsNums w vd ds) (hl : ds.length = n * (t + 1)) (ht : t ≤ 4) (hn9 : n ≤ 9) (htn : t + 1 ≤ n) (hlast : last < 1000000) :
    Calls Tryz.prog 65 #[.pointer (some ⟨kb, 0, none⟩), vd] w fun e w' => if sz = 8 then e = .returned (.tuple #[.int .i64 0, .int .i64 2]) ∧ Below w.heap.size w w'
      else e = .returned (.tuple #[.int .i64 ((last + 1 : Nat) : Int), .int .i64 0]) ∧ (∃ V', KeysIs w' base kb mb n t (last + 1) (sz + 1) (upd S (last + 1 : Nat) (some (ofFs (sumD n (genP t ds) n)))) V') ∧ Near kb mb w w' := by
  have hmf : ∀ (fn : Fn) (first cap : Array Value) (w : World), (Instr.makeFunc fn first cap).run Tryz.prog w = .ok (.func fn first cap) w := fun _ _ _ _ => rfl
  have KK := Lib.hid hk
  have KD := Lib.hid h1
  have HL := Lib.hid hl
  obtain ⟨A, c, rfl, hc1, hm1, hl1, hu1, hr1⟩ := h1
  obtain ⟨hc0, hct, _, hm, _⟩ := hk.cells
  have hkb := hk.lt
  have hk2 : n * (t + 1) ≤ 9 * 5 := Nat.mul_le_mul hn9 (by omega)
  have hmul : (n : Int) * ((t : Int) + 1) = (ds.length : Int) := by rw [hl]; simp
  clear hk hr1 hu1 hm1 hl
  suffices hgoal : ∀ Post : Ending → World → Prop, (∀ e w', (if sz = 8 then e = .returned (.tuple #[.int .i64 0, .int .i64 2]) ∧ Below w.heap.size w w'
      else e = .returned (.tuple #[.int .i64 ((last + 1 : Nat) : Int), .int .i64 0]) ∧ (∃ V', KeysIs w' base kb mb n t (last + 1) (sz + 1) (upd S (last + 1 : Nat) (some (ofFs (sumD n (genP t ds) n)))) V') ∧ Near kb mb w w') → Post e w') → Calls Tryz.prog 65 #[.pointer (some ⟨kb, 0, none⟩), .slice A ds.length c] w Post from hgoal _ fun e w' h => h
  intro Post hpo
  have HP := Lib.hid hpo
  clear hpo
  go_enter Tryz.func65, Tryz.ntmps65
  go_wp2_with fail
  have BW := Lib.hid (((Below.refl w.heap.size w).alloc (Nat.le_refl _) (.cells #[.slice A ds.length c] 64)).alloc (by simp) (.cells #[.int .i64 ((t : Int) + 1)] 3))
  have Q0 := Lib.hid (show ((w.alloc (.cells #[.slice A ds.length c] 64)).alloc (.cells #[.int .i64 ((t : Int) + 1)] 3)).cell? ⟨w.heap.size, 0, none⟩ = some (.slice A ds.length c) by
    rw [World.cell?_alloc_lt (a := ⟨w.heap.size, 0, none⟩) (h := by simp)]
    exact new_cell _ _ _)
  have Q1 := Lib.hid (show ((w.alloc (.cells #[.slice A ds.length c] 64)).alloc (.cells #[.int .i64 ((t : Int) + 1)] 3)).cell? ⟨w.heap.size + 1, 0, none⟩ = some (.int .i64 ((t : Int) + 1)) by
    have := new_cell (w.alloc (.cells #[.slice A ds.length c] 64)) (.int .i64 ((t : Int) + 1)) 3
    rw [size_alloc] at this
    exact this)
  have hs3 : ((w.alloc (.cells #[.slice A ds.length c] 64)).alloc (.cells #[.int .i64 ((t : Int) + 1)] 3)).heap.size = w.heap.size + 2 := by rw [size_alloc, size_alloc]
  obtain ⟨W3, hW3⟩ : ∃ W3, W3 = (w.alloc (.cells #[.slice A ds.length c] 64)).alloc (.cells #[.int .i64 ((t : Int) + 1)] 3) := ⟨_, rfl⟩
  rw [← hW3] at BW Q0 Q1 hs3 ⊢
  have KK3 := Lib.hid (KK.out.below BW.out)
  have KD3 := Lib.hid (KD.out.below BW.out)
  clear hW3 hc0 hct hm
  obtain ⟨hc0, hct, _, hm, _⟩ := KK3.out.cells
  have hq0 := Q0.out
  have hq1 := Q1.out
  go_quiet (fail)
  have BW4 := Lib.hid (below_drewN BW.out nq)
  have KK4 := Lib.hid (KK3.out.drewN nq)
  have KD4 := Lib.hid (KD3.out.drewN nq)
  obtain ⟨W4, hW4⟩ : ∃ W4, W4 = W3.drewN nq := ⟨_, rfl⟩
  have Q04 := Lib.hid (show W4.cell? ⟨w.heap.size, 0, none⟩ = some (.slice A ds.length c) by rw [hW4]; exact Q0.out)
  have Q14 := Lib.hid (show W4.cell? ⟨w.heap.size + 1, 0, none⟩ = some (.int .i64 ((t : Int) + 1)) by rw [hW4]; exact Q1.out)
  have hs4 : W4.heap.size = w.heap.size + 2 := by rw [hW4]; exact hs3
  rw [← hW4] at BW4 KK4 KD4 ⊢
  clear hW4 hq0 hq1 hc0 hct hm hs3 Q0 Q1 KK3 KD3 BW
  obtain ⟨hc0, hct, _, hm, _⟩ := KK4.out.cells
  by_cases h8 : sz = 8
  · subst h8
    go_wp2_with (at_len; refine wpList_len_keys rfl _ rfl rfl KK4.out.store ?_)
    exact HP.out _ _ (by rw [if_pos trivial]; exact ⟨rfl, BW4.out⟩)
  · have hne : ((sz : Int) == 8) = false := by rw [beq_eq_false_iff_ne]; omega
    have hsz8 := KK4.out.sz8
    go_wp2_with (at_len; refine wpList_len_keys rfl _ rfl rfl KK4.out.store ?_)
    refine (kDealtG_any n t w.heap.size (w.heap.size + 1) A c ds W4 KK4.out Q04.out Q14.out (by omega) (by omega) KD4.out HL.out ht hn9 htn).mono ?_
    rintro e W5 ⟨v5, rfl, ho, hb⟩
    have KK5 := Lib.hid (KK4.out.below hb)
    have KV5 := Lib.hid (ho.less (base' := base) (by have := KK4.out.le; have := KK4.out.lt; omega))
    have B5 := Lib.hid (below_trans BW4.out hb BW4.out.size)
    clear ho hb
    try dsimp only
    go_wp2_with fail
    refine (kKept_ok v5 _ W5 KK5.out (by omega) hlast KV5.out (by rw [ofFs_length, sumD_length])).mono ?_
    rintro e W6 ⟨rfl, hk6, hb6⟩
    have K6 := Lib.hid hk6
    have B6 := Lib.hid hb6
    clear hk6 hb6
    try dsimp only
    go_wp2_with fail
    exact HP.out _ _ (by rw [if_neg h8]; exact ⟨rfl, ⟨_, K6.out⟩, (Near.of_below B5.out).trans B6.out⟩)
theorem thereE_one {S : Int → Option (List Int)} {h : Int} : thereE S [h] = if (S h).isSome = true then 0 else 4 := by simp [thereE]
theorem thereE_two {S : Int → Option (List Int)} {g h : Int} : thereE S [g, h] = if (S g).isSome = true ∧ (S h).isSome = true then 0 else 4 := by simp [thereE]
theorem litI (w : World) (hs : List Int) (h : ∀ z ∈ hs, I64 z) (hl : hs.length ≤ 1000) : IsInts (w.alloc (.cells (i64s hs).toArray 3)) (.slice (some ⟨w.heap.size, 0, none⟩) hs.length hs.length) hs := lit_ints w hs h hl
theorem oneL_ok {op : F → F → F} {n : Nat} {a : List Int} {x : Int} (ha : a.length = n) (h1 : 1 ≤ n) (h9 : n ≤ 9) : oneL op a x = a.map (fun y => ofF (op (toF y) (toF x))) ∧ wireE [a.length] = 0 := by
  have hw : wireE [a.length] = 0 := by
    have := wire2E_same a x
    rw [← this]
    exact wire2E_ok (by omega) (by omega) (by simp)
  exact ⟨by unfold oneL; rw [if_pos hw], hw⟩
theorem eachL_ok {op : F → F → F} {n : Nat} {a b : List Int} (ha : a.length = n) (hb : b.length = n) (h1 : 1 ≤ n) (h9 : n ≤ 9) : eachL op a b = zipS op a b ∧ wire2E a b = 0 := by
  have hw : wire2E a b = 0 := wire2E_ok (by omega) (by omega) (by omega)
  exact ⟨by unfold eachL; rw [if_pos hw], hw⟩
theorem kTweak_none (h x : Int) (w : World) {base kb mb n t last sz : Nat} {S : Int → Option (List Int)} {V : Int → Value} (hk : KeysIs w base kb mb n t last sz S V) (hi : I64 h) (hn : ¬ ((S h).isSome = true)) :
    Calls Tryz.prog 69 #[.pointer (some ⟨kb, 0, none⟩), .int .i64 h, .int .u64 x] w fun e w' => e = .returned (.tuple #[.int .i64 0, .int .i64 4]) ∧ Below w.heap.size w w' := by
  have KK := Lib.hid hk
  have BA := Lib.hid (show Below w.heap.size w (w.alloc (.cells #[.int .i64 h] 3)) from (Below.refl w.heap.size w).alloc (Nat.le_refl _) _)
  have K1 := Lib.hid (hk.below BA.out)
  have LI := Lib.hid (show IsInts (w.alloc (.cells #[.int .i64 h] 3)) (.slice (some ⟨w.heap.size, 0, none⟩) 1 1) [h] from litI w [h] (by simp; exact hi) (by simp))
  have HTH := Lib.hid (show thereE S [h] = 4 from by rw [thereE_one, if_neg hn])
  clear hk hn
  go_enter Tryz.func69, Tryz.ntmps69
  go_wp2_with fail
  refine (kThere_any _ [h] _ K1.out LI.out).mono ?_
  rintro e w' ⟨rfl, rfl⟩
  rw [HTH.out]
  obtain ⟨w1, hw1⟩ : ∃ w1, w1 = (w.alloc (.cells #[.int .i64 h] 3)) := ⟨_, rfl⟩
  rw [← hw1] at K1 BA ⊢
  clear hw1 LI
  try dsimp only
  go_wp2_with fail
  go_ret2
  exact ⟨rfl, BA.out⟩
theorem kCombine_none (g h x y : Int) (w : World) {base kb mb n t last sz : Nat} {S : Int → Option (List Int)} {V : Int → Value} (hk : KeysIs w base kb mb n t last sz S V) (hi : I64 g) (hj : I64 h) (hn : ¬ ((S g).isSome = true ∧ (S h).isSome = true)) :
    Calls Tryz.prog 71 #[.pointer (some ⟨kb, 0, none⟩), .int .i64 g, .int .i64 h, .int .u64 x, .int .u64 y] w fun e w' => e = .returned (.tuple #[.int .i64 0, .int .i64 4]) ∧ Below w.heap.size w w' := by
  have KK := Lib.hid hk
  have BA := Lib.hid (show Below w.heap.size w (w.alloc (.cells #[.int .i64 g, .int .i64 h] 3)) from (Below.refl w.heap.size w).alloc (Nat.le_refl _) _)
  have K1 := Lib.hid (hk.below BA.out)
  have LI := Lib.hid (show IsInts (w.alloc (.cells #[.int .i64 g, .int .i64 h] 3)) (.slice (some ⟨w.heap.size, 0, none⟩) 2 2) [g, h] from litI w [g, h] (by simp; exact ⟨hi, hj⟩) (by simp))
  have HTH := Lib.hid (show thereE S [g, h] = 4 from by rw [thereE_two, if_neg hn])
  clear hk hn
  go_enter Tryz.func71, Tryz.ntmps71
  go_wp2_with fail
  refine (kThere_any _ [g, h] _ K1.out LI.out).mono ?_
  rintro e w' ⟨rfl, rfl⟩
  rw [HTH.out]
  obtain ⟨w1, hw1⟩ : ∃ w1, w1 = (w.alloc (.cells #[.int .i64 g, .int .i64 h] 3)) := ⟨_, rfl⟩
  rw [← hw1] at K1 BA ⊢
  clear hw1 LI
  try dsimp only
  go_wp2_with fail
  go_ret2
  exact ⟨rfl, BA.out⟩
theorem kMultiply_none (g h : Int) (vd : Value) (w : World) {base kb mb n t last sz : Nat} {S : Int → Option (List Int)} {V : Int → Value} (hk : KeysIs w base kb mb n t last sz S V) (hi : I64 g) (hj : I64 h) (hn : ¬ ((S g).isSome = true ∧ (S h).isSome = true)) :
    Calls Tryz.prog 73 #[.pointer (some ⟨kb, 0, none⟩), .int .i64 g, .int .i64 h, vd] w fun e w' => e = .returned (.tuple #[.int .i64 0, .int .i64 4]) ∧ Below w.heap.size w w' := by
  have KK := Lib.hid hk
  have BA := Lib.hid (show Below w.heap.size w (w.alloc (.cells #[.int .i64 g, .int .i64 h] 3)) from (Below.refl w.heap.size w).alloc (Nat.le_refl _) _)
  have K1 := Lib.hid (hk.below BA.out)
  have LI := Lib.hid (show IsInts (w.alloc (.cells #[.int .i64 g, .int .i64 h] 3)) (.slice (some ⟨w.heap.size, 0, none⟩) 2 2) [g, h] from litI w [g, h] (by simp; exact ⟨hi, hj⟩) (by simp))
  have HTH := Lib.hid (show thereE S [g, h] = 4 from by rw [thereE_two, if_neg hn])
  clear hk hn
  go_enter Tryz.func73, Tryz.ntmps73
  go_wp2_with fail
  refine (kThere_any _ [g, h] _ K1.out LI.out).mono ?_
  rintro e w' ⟨rfl, rfl⟩
  rw [HTH.out]
  obtain ⟨w1, hw1⟩ : ∃ w1, w1 = (w.alloc (.cells #[.int .i64 g, .int .i64 h] 3)) := ⟨_, rfl⟩
  rw [← hw1] at K1 BA ⊢
  clear hw1 LI
  try dsimp only
  go_wp2_with fail
  go_ret2
  exact ⟨rfl, BA.out⟩
theorem kOpen_none (h : Int) (w : World) {base kb mb n t last sz : Nat} {S : Int → Option (List Int)} {V : Int → Value} (hk : KeysIs w base kb mb n t last sz S V) (hi : I64 h) (hn : ¬ ((S h).isSome = true)) :
    Calls Tryz.prog 75 #[.pointer (some ⟨kb, 0, none⟩), .int .i64 h] w fun e w' => e = .returned (.tuple #[.int .u64 0, .int .i64 4]) ∧ Below w.heap.size w w' := by
  have KK := Lib.hid hk
  have BA := Lib.hid (show Below w.heap.size w (w.alloc (.cells #[.int .i64 h] 3)) from (Below.refl w.heap.size w).alloc (Nat.le_refl _) _)
  have K1 := Lib.hid (hk.below BA.out)
  have LI := Lib.hid (show IsInts (w.alloc (.cells #[.int .i64 h] 3)) (.slice (some ⟨w.heap.size, 0, none⟩) 1 1) [h] from litI w [h] (by simp; exact hi) (by simp))
  have HTH := Lib.hid (show thereE S [h] = 4 from by rw [thereE_one, if_neg hn])
  clear hk hn
  go_enter Tryz.func75, Tryz.ntmps75
  go_wp2_with fail
  refine (kThere_any _ [h] _ K1.out LI.out).mono ?_
  rintro e w' ⟨rfl, rfl⟩
  rw [HTH.out]
  obtain ⟨w1, hw1⟩ : ∃ w1, w1 = (w.alloc (.cells #[.int .i64 h] 3)) := ⟨_, rfl⟩
  rw [← hw1] at K1 BA ⊢
  clear hw1 LI
  try dsimp only
  go_wp2_with fail
  go_ret2
  exact ⟨rfl, BA.out⟩
theorem kDrop_none (h : Int) (w : World) {base kb mb n t last sz : Nat} {S : Int → Option (List Int)} {V : Int → Value} (hk : KeysIs w base kb mb n t last sz S V) (hi : I64 h) (hn : ¬ ((S h).isSome = true)) :
    Calls Tryz.prog 77 #[.pointer (some ⟨kb, 0, none⟩), .int .i64 h] w fun e w' => e = .returned (.int .i64 4) ∧ Below w.heap.size w w' := by
  have KK := Lib.hid hk
  have BA := Lib.hid (show Below w.heap.size w (w.alloc (.cells #[.int .i64 h] 3)) from (Below.refl w.heap.size w).alloc (Nat.le_refl _) _)
  have K1 := Lib.hid (hk.below BA.out)
  have LI := Lib.hid (show IsInts (w.alloc (.cells #[.int .i64 h] 3)) (.slice (some ⟨w.heap.size, 0, none⟩) 1 1) [h] from litI w [h] (by simp; exact hi) (by simp))
  have HTH := Lib.hid (show thereE S [h] = 4 from by rw [thereE_one, if_neg hn])
  clear hk hn
  go_enter Tryz.func77, Tryz.ntmps77
  go_wp2_with fail
  refine (kThere_any _ [h] _ K1.out LI.out).mono ?_
  rintro e w' ⟨rfl, rfl⟩
  rw [HTH.out]
  obtain ⟨w1, hw1⟩ : ∃ w1, w1 = (w.alloc (.cells #[.int .i64 h] 3)) := ⟨_, rfl⟩
  rw [← hw1] at K1 BA ⊢
  clear hw1 LI
  try dsimp only
  go_wp2_with fail
  go_ret
  exact ⟨rfl, BA.out⟩
set_option maxRecDepth 100000 in
theorem kTweak_ok (h x : Int) (l0 : List Int) (w : World) {base kb mb n t last sz : Nat} {S : Int → Option (List Int)} {V : Int → Value} (hk : KeysIs w base kb mb n t last sz S V) (hi : I64 h) (hs : S h = some l0) (hx : U64 x) (hn1 : 1 ≤ n) (hn9 : n ≤ 9) (hlast : last < 1000000) :
    Calls Tryz.prog 69 #[.pointer (some ⟨kb, 0, none⟩), .int .i64 h, .int .u64 x] w fun e w' => NewKey w base kb mb n t last sz S (l0.map fun y => ofF (toF y + toF x)) e w' := by
  have hl0 := (hk.len h l0 hs).1
  have KK := Lib.hid hk
  have BA := Lib.hid (show Below w.heap.size w (w.alloc (.cells #[.int .i64 h] 3)) from (Below.refl w.heap.size w).alloc (Nat.le_refl _) _)
  have K1 := Lib.hid (hk.below BA.out)
  have LI := Lib.hid (show IsInts (w.alloc (.cells #[.int .i64 h] 3)) (.slice (some ⟨w.heap.size, 0, none⟩) 1 1) [h] from litI w [h] (by simp; exact hi) (by simp))
  have hbs : base ≤ w.heap.size := Nat.le_trans hk.le (Nat.le_of_lt hk.lt)
  have HTH := Lib.hid (show thereE S [h] = 0 from by rw [thereE_one, if_pos (by simp [hs])])
  suffices hgoal : ∀ Post : Ending → World → Prop, (∀ e w', NewKey w base kb mb n t last sz S (l0.map fun y => ofF (toF y + toF x)) e w' → Post e w') → Calls Tryz.prog 69 #[.pointer (some ⟨kb, 0, none⟩), .int .i64 h, .int .u64 x] w Post from hgoal _ fun e w' h => h
  intro Post hpo
  have HP := Lib.hid hpo
  clear hpo
  clear hk
  go_enter Tryz.func69, Tryz.ntmps69
  go_wp2_with fail
  refine (kThere_any _ [h] _ K1.out LI.out).mono ?_
  rintro e w' ⟨rfl, rfl⟩
  rw [HTH.out]
  obtain ⟨w1, hw1⟩ : ∃ w1, w1 = (w.alloc (.cells #[.int .i64 h] 3)) := ⟨_, rfl⟩
  rw [← hw1] at K1 BA ⊢
  clear hw1 LI
  try dsimp only
  obtain ⟨_, hct, _, hm, _⟩ := K1.out.cells
  have LESS := Lib.hid (fun (W : World) (hb : Below w1.heap.size w1 W) => show Near kb mb w W from (Near.of_below BA.out).below hb)
  have hb1 := K1.out.le
  have hb2 := K1.out.lt
  have hlook := K1.out.store.look hi (by rw [hs]; rfl)
  have KR := Lib.hid (K1.out.store.rows h l0 hs)
  go_wp2_with fail
  refine (gPlus_any _ l0 x _ KR.out.is hx).mono ?_
  rintro e w2 ⟨v2, rfl, ho2, hb3⟩
  rw [(oneL_ok hl0 hn1 hn9).1] at ho2
  rw [(oneL_ok (op := (· + ·)) (x := x) hl0 hn1 hn9).2]
  have K2 := Lib.hid (K1.out.below hb3)
  have B2 := Lib.hid (LESS.out _ hb3)
  have KV := Lib.hid (ho2.less (base' := base) (by omega))
  have HLEN := Lib.hid (show (l0.map fun y => ofF (toF y + toF x)).length = n by rw [List.length_map]; exact hl0)
  clear ho2 hb3 hlook hct hm
  try dsimp only
  go_wp2_with fail
  refine (kKept_any _ _ _ K2.out hlast KV.out HLEN.out).mono ?_
  intro e w9 hnk
  unfold NewKey at hnk
  by_cases h8 : sz = 8
  · rw [if_pos h8] at hnk
    obtain ⟨rfl, hk9, hb9⟩ := hnk
    have K9 := Lib.hid hk9
    have B9 := Lib.hid hb9
    clear hk9 hb9
    try dsimp only
    go_wp2_with fail
    exact HP.out _ _ (by unfold NewKey; rw [if_pos h8]; exact ⟨rfl, K9.out, B2.out.trans B9.out⟩)
  · rw [if_neg h8] at hnk
    obtain ⟨rfl, hk9, hb9⟩ := hnk
    have K9 := Lib.hid hk9
    have B9 := Lib.hid hb9
    clear hk9 hb9
    try dsimp only
    go_wp2_with fail
    exact HP.out _ _ (by unfold NewKey; rw [if_neg h8]; exact ⟨rfl, K9.out, B2.out.trans B9.out⟩)
set_option maxRecDepth 100000 in
theorem kCombine_ok (g h x y : Int) (l0 l1 : List Int) (w : World) {base kb mb n t last sz : Nat} {S : Int → Option (List Int)} {V : Int → Value} (hk : KeysIs w base kb mb n t last sz S V) (hi : I64 g) (hj : I64 h) (hs : S g = some l0) (ht0 : S h = some l1) (hx : U64 x) (hy : U64 y) (hn1 : 1 ≤ n) (hn9 : n ≤ 9) (hlast : last < 1000000) :
    Calls Tryz.prog 71 #[.pointer (some ⟨kb, 0, none⟩), .int .i64 g, .int .i64 h, .int .u64 x, .int .u64 y] w fun e w' => NewKey w base kb mb n t last sz S (zipS (· + ·) (l0.map fun z => ofF (toF z * toF x)) (l1.map fun z => ofF (toF z * toF y))) e w' := by
  have hl0 := (hk.len g l0 hs).1
  have hl1 := (hk.len h l1 ht0).1
  have KK := Lib.hid hk
  have BA := Lib.hid (show Below w.heap.size w (w.alloc (.cells #[.int .i64 g, .int .i64 h] 3)) from (Below.refl w.heap.size w).alloc (Nat.le_refl _) _)
  have K1 := Lib.hid (hk.below BA.out)
  have LI := Lib.hid (show IsInts (w.alloc (.cells #[.int .i64 g, .int .i64 h] 3)) (.slice (some ⟨w.heap.size, 0, none⟩) 2 2) [g, h] from litI w [g, h] (by simp; exact ⟨hi, hj⟩) (by simp))
  have hbs : base ≤ w.heap.size := Nat.le_trans hk.le (Nat.le_of_lt hk.lt)
  have HTH := Lib.hid (show thereE S [g, h] = 0 from by rw [thereE_two, if_pos (by simp [hs, ht0])])
  suffices hgoal : ∀ Post : Ending → World → Prop, (∀ e w', NewKey w base kb mb n t last sz S (zipS (· + ·) (l0.map fun z => ofF (toF z * toF x)) (l1.map fun z => ofF (toF z * toF y))) e w' → Post e w') → Calls Tryz.prog 71 #[.pointer (some ⟨kb, 0, none⟩), .int .i64 g, .int .i64 h, .int .u64 x, .int .u64 y] w Post from hgoal _ fun e w' h => h
  intro Post hpo
  have HP := Lib.hid hpo
  clear hpo
  clear hk
  go_enter Tryz.func71, Tryz.ntmps71
  go_wp2_with fail
  refine (kThere_any _ [g, h] _ K1.out LI.out).mono ?_
  rintro e w' ⟨rfl, rfl⟩
  rw [HTH.out]
  obtain ⟨w1, hw1⟩ : ∃ w1, w1 = (w.alloc (.cells #[.int .i64 g, .int .i64 h] 3)) := ⟨_, rfl⟩
  rw [← hw1] at K1 BA ⊢
  clear hw1 LI
  try dsimp only
  obtain ⟨_, hct, _, hm, _⟩ := K1.out.cells
  have LESS := Lib.hid (fun (W : World) (hb : Below w1.heap.size w1 W) => show Near kb mb w W from (Near.of_below BA.out).below hb)
  have hb1 := K1.out.le
  have hb2 := K1.out.lt
  have hlook := K1.out.store.look hi (by rw [hs]; rfl)
  have KR := Lib.hid (K1.out.store.rows g l0 hs)
  go_wp2_with fail
  refine (gScale_any _ l0 x _ KR.out.is hx).mono ?_
  rintro e w2 ⟨v2, rfl, ho2, hb3⟩
  rw [(oneL_ok hl0 hn1 hn9).1] at ho2
  rw [(oneL_ok (op := (· * ·)) (x := x) hl0 hn1 hn9).2]
  have KK2 := Lib.hid (K1.out.below hb3)
  have B22 := Lib.hid hb3
  have KX := Lib.hid ho2.is
  clear ho2 hb3 hlook hct hm
  obtain ⟨_, _, _, hm, _⟩ := KK2.out.cells
  have hlook2 := KK2.out.store.look hj (by rw [ht0]; rfl)
  have KR2 := Lib.hid (KK2.out.store.rows h l1 ht0)
  try dsimp only
  go_wp2_with fail
  refine (gScale_any _ l1 y _ KR2.out.is hy).mono ?_
  rintro e w3 ⟨v3, rfl, ho3, hb4⟩
  rw [(oneL_ok hl1 hn1 hn9).1] at ho3
  rw [(oneL_ok (op := (· * ·)) (x := y) hl1 hn1 hn9).2]
  have KK3 := Lib.hid (KK2.out.below hb4)
  have B33 := Lib.hid (below_trans B22.out hb4 B22.out.size)
  have KX3 := Lib.hid (KX.out.below hb4)
  have KY3 := Lib.hid ho3.is
  have hp0 : (l0.map fun z => ofF (toF z * toF x)).length = n := by rw [List.length_map]; exact hl0
  have hp1 : (l1.map fun z => ofF (toF z * toF y)).length = n := by rw [List.length_map]; exact hl1
  have HP0 := Lib.hid hp0
  have HP1 := Lib.hid hp1
  clear ho3 hb4 hlook2 hm hp0 hp1
  try dsimp only
  go_wp2_with fail
  refine (gAdd_any _ _ _ _ _ KX3.out KY3.out).mono ?_
  rintro e w4 ⟨v4, rfl, ho4, hb5⟩
  rw [(eachL_ok HP0.out HP1.out hn1 hn9).1] at ho4
  rw [(eachL_ok (op := (· + ·)) HP0.out HP1.out hn1 hn9).2]
  have K2 := Lib.hid (KK3.out.below hb5)
  have hb6 := below_trans B33.out hb5 B33.out.size
  have B2 := Lib.hid (LESS.out _ hb6)
  have KV := Lib.hid (ho4.less (base' := base) (by have := B33.out.size; omega))
  have HLEN := Lib.hid (show (zipS (· + ·) (l0.map fun z => ofF (toF z * toF x)) (l1.map fun z => ofF (toF z * toF y))).length = n by rw [zipS_length, HP0.out, HP1.out]; omega)
  clear ho4 hb5 hb6
  try dsimp only
  go_wp2_with fail
  refine (kKept_any _ _ _ K2.out hlast KV.out HLEN.out).mono ?_
  intro e w9 hnk
  unfold NewKey at hnk
  by_cases h8 : sz = 8
  · rw [if_pos h8] at hnk
    obtain ⟨rfl, hk9, hb9⟩ := hnk
    have K9 := Lib.hid hk9
    have B9 := Lib.hid hb9
    clear hk9 hb9
    try dsimp only
    go_wp2_with fail
    exact HP.out _ _ (by unfold NewKey; rw [if_pos h8]; exact ⟨rfl, K9.out, B2.out.trans B9.out⟩)
  · rw [if_neg h8] at hnk
    obtain ⟨rfl, hk9, hb9⟩ := hnk
    have K9 := Lib.hid hk9
    have B9 := Lib.hid hb9
    clear hk9 hb9
    try dsimp only
    go_wp2_with fail
    exact HP.out _ _ (by unfold NewKey; rw [if_neg h8]; exact ⟨rfl, K9.out, B2.out.trans B9.out⟩)
set_option maxRecDepth 100000 in
set_option maxHeartbeats 1000000 in
theorem kMultiply_ok (g h : Int) (vd : Value) (ds l0 l1 : List Int) (w : World) {base kb mb n t last sz : Nat} {S : Int → Option (List Int)} {V : Int → Value} (hk : KeysIs w base kb mb n t last sz S V) (hi : I64 g) (hj : I64 h) (hs : S g = some l0) (ht0 : S h = some l1) (hd : IsNums w vd ds) (hdl : ds.length = n * t) (ht : t ≤ 4) (hn2 : 2 * t + 1 ≤ n) (hn9 : n ≤ 9) (hlast : last < 1000000) :
    Calls Tryz.prog 73 #[.pointer (some ⟨kb, 0, none⟩), .int .i64 g, .int .i64 h, vd] w fun e w' => NewKey w base kb mb n t last sz S (ofFs (mulOut n t (toFs l0) (toFs l1) (toFs ds))) e w' := by
  have hl0 := (hk.len g l0 hs).1
  have hl1 := (hk.len h l1 ht0).1
  have KD := Lib.hid (hd.below ((Below.refl w.heap.size w).alloc (Nat.le_refl _) (.cells #[.int .i64 g, .int .i64 h] 3)))
  clear hd
  have KK := Lib.hid hk
  have BA := Lib.hid (show Below w.heap.size w (w.alloc (.cells #[.int .i64 g, .int .i64 h] 3)) from (Below.refl w.heap.size w).alloc (Nat.le_refl _) _)
  have K1 := Lib.hid (hk.below BA.out)
  have LI := Lib.hid (show IsInts (w.alloc (.cells #[.int .i64 g, .int .i64 h] 3)) (.slice (some ⟨w.heap.size, 0, none⟩) 2 2) [g, h] from litI w [g, h] (by simp; exact ⟨hi, hj⟩) (by simp))
  have hbs : base ≤ w.heap.size := Nat.le_trans hk.le (Nat.le_of_lt hk.lt)
  have HTH := Lib.hid (show thereE S [g, h] = 0 from by rw [thereE_two, if_pos (by simp [hs, ht0])])
  suffices hgoal : ∀ Post : Ending → World → Prop, (∀ e w', NewKey w base kb mb n t last sz S (ofFs (mulOut n t (toFs l0) (toFs l1) (toFs ds))) e w' → Post e w') → Calls Tryz.prog 73 #[.pointer (some ⟨kb, 0, none⟩), .int .i64 g, .int .i64 h, vd] w Post from hgoal _ fun e w' h => h
  intro Post hpo
  have HP := Lib.hid hpo
  clear hpo
  clear hk
  go_enter Tryz.func73, Tryz.ntmps73
  go_wp2_with fail
  refine (kThere_any _ [g, h] _ K1.out LI.out).mono ?_
  rintro e w' ⟨rfl, rfl⟩
  rw [HTH.out]
  obtain ⟨w1, hw1⟩ : ∃ w1, w1 = (w.alloc (.cells #[.int .i64 g, .int .i64 h] 3)) := ⟨_, rfl⟩
  rw [← hw1] at K1 BA KD ⊢
  clear hw1 LI
  try dsimp only
  obtain ⟨_, hct, _, hm, _⟩ := K1.out.cells
  have LESS := Lib.hid (fun (W : World) (hb : Below w1.heap.size w1 W) => show Near kb mb w W from (Near.of_below BA.out).below hb)
  have hb1 := K1.out.le
  have hb2 := K1.out.lt
  have KQ := Lib.hid (K1.out.drewN 1)
  have hlook : (Instr.lookup 117 (.map (some mb)) (.int .i64 g) false).run Tryz.prog w1.drew = .ok (V g) w1.drew := KQ.out.store.look hi (by rw [hs]; rfl)
  have hlook2 : (Instr.lookup 117 (.map (some mb)) (.int .i64 h) false).run Tryz.prog w1.drew = .ok (V h) w1.drew := KQ.out.store.look hj (by rw [ht0]; rfl)
  have KR := Lib.hid (KQ.out.store.rows g l0 hs)
  have KR2 := Lib.hid (KQ.out.store.rows h l1 ht0)
  have KDQ := Lib.hid (KD.out.drewN 1)
  go_wp2_with fail
  go_region_held3 (fun w' => w'.cell? ⟨kb, 1, none⟩ = some (.int .i64 t) ∧ w'.cell? ⟨kb, 3, none⟩ = some (.map (some mb))) (go_keep) (first | (go_at_call 124; refine (gMul_ok n t _ _ _ l0 l1 ds _ KR.out.is KR2.out.is KDQ.out hl0 hl1 hdl ht hn2 hn9).mono ?_; rintro e w2 ⟨v2, vg, vs, rfl, ho2, _, _, hb3⟩; have q0 := (hb3.cell (p := ⟨kb, 1, none⟩) hb2).trans hct; have q1 := (hb3.cell (p := ⟨kb, 3, none⟩) hb2).trans hm; have HO2 := Lib.hid ho2; have HB3 := Lib.hid hb3; clear ho2 hb3))
  all_goals (
    have K2 := Lib.hid (KQ.out.below HB3.out)
    have B2 := Lib.hid (LESS.out w2 ⟨HB3.out.os, HB3.out.tape, HB3.out.output, HB3.out.size, HB3.out.block⟩)
    have KV := Lib.hid (HO2.out.less (base' := base) (show base ≤ w1.heap.size by omega))
    have HLEN := Lib.hid (show (ofFs (mulOut n t (toFs l0) (toFs l1) (toFs ds))).length = n by rw [ofFs_length]; simp [mulOut, gotM])
    clear HO2 HB3 hlook hlook2 hct hm q0 q1
    try dsimp only
    go_wp2_with fail
    refine (kKept_any _ _ _ K2.out hlast KV.out HLEN.out).mono ?_
    intro e w9 hnk
    unfold NewKey at hnk
    by_cases h8 : sz = 8
    · rw [if_pos h8] at hnk
      obtain ⟨rfl, hk9, hb9⟩ := hnk
      have K9 := Lib.hid hk9
      have B9 := Lib.hid hb9
      clear hk9 hb9
      try dsimp only
      go_wp2_with fail
      exact HP.out _ _ (by unfold NewKey; rw [if_pos h8]; exact ⟨rfl, K9.out, B2.out.trans B9.out⟩)
    · rw [if_neg h8] at hnk
      obtain ⟨rfl, hk9, hb9⟩ := hnk
      have K9 := Lib.hid hk9
      have B9 := Lib.hid hb9
      clear hk9 hb9
      try dsimp only
      go_wp2_with fail
      exact HP.out _ _ (by unfold NewKey; rw [if_neg h8]; exact ⟨rfl, K9.out, B2.out.trans B9.out⟩))
set_option maxRecDepth 100000 in
set_option maxHeartbeats 1000000 in
theorem kOpen_ok (h : Int) (l0 : List Int) (x : F) (w : World) {base kb mb n t last sz : Nat} {S : Int → Option (List Int)} {V : Int → Value} (hk : KeysIs w base kb mb n t last sz S V) (hi : I64 h) (hs : S h = some l0) (hsh : Shared n t (toFs l0) x) (ht : t ≤ 4) (htn : t + 1 ≤ n) (hn9 : n ≤ 9) :
    Calls Tryz.prog 75 #[.pointer (some ⟨kb, 0, none⟩), .int .i64 h] w fun e w' => e = .returned (.tuple #[.int .u64 (ofF x), .int .i64 0]) ∧ Below w.heap.size w w' := by
  have hl0 := (hk.len h l0 hs).1
  obtain ⟨Q, hQ, hQl, hQx⟩ := open_shared hsh htn
  have HQ := Lib.hid (show Interp (ptsF (shL l0)) Q by rw [shL_pts, hl0]; exact hQ)
  have HXE := Lib.hid (show openX t Q = ofF x ∧ openE t Q = 0 from ⟨by unfold openX; rw [if_neg (by omega), hQx], by unfold openE; rw [if_neg (by omega)]⟩)
  have HCK := Lib.hid (shL_ok ht (by omega) (by omega) : checkE t (shL l0) = 0)
  clear hQ hQl hQx hsh
  have KK := Lib.hid hk
  have BA := Lib.hid (show Below w.heap.size w (w.alloc (.cells #[.int .i64 h] 3)) from (Below.refl w.heap.size w).alloc (Nat.le_refl _) _)
  have K1 := Lib.hid (hk.below BA.out)
  have LI := Lib.hid (show IsInts (w.alloc (.cells #[.int .i64 h] 3)) (.slice (some ⟨w.heap.size, 0, none⟩) 1 1) [h] from litI w [h] (by simp; exact hi) (by simp))
  have hbs : base ≤ w.heap.size := Nat.le_trans hk.le (Nat.le_of_lt hk.lt)
  have HTH := Lib.hid (show thereE S [h] = 0 from by rw [thereE_one, if_pos (by simp [hs])])
  suffices hgoal : ∀ Post : Ending → World → Prop, (∀ e w', e = .returned (.tuple #[.int .u64 (ofF x), .int .i64 0]) ∧ Below w.heap.size w w' → Post e w') → Calls Tryz.prog 75 #[.pointer (some ⟨kb, 0, none⟩), .int .i64 h] w Post from hgoal _ fun e w' h => h
  intro Post hpo
  have HP := Lib.hid hpo
  clear hpo
  clear hk
  go_enter Tryz.func75, Tryz.ntmps75
  go_wp2_with fail
  refine (kThere_any _ [h] _ K1.out LI.out).mono ?_
  rintro e w' ⟨rfl, rfl⟩
  rw [HTH.out]
  obtain ⟨w1, hw1⟩ : ∃ w1, w1 = (w.alloc (.cells #[.int .i64 h] 3)) := ⟨_, rfl⟩
  rw [← hw1] at K1 BA ⊢
  clear hw1 LI
  try dsimp only
  obtain ⟨_, hct, _, hm, _⟩ := K1.out.cells
  have LESS := Lib.hid (fun (W : World) (hb : Below w1.heap.size w1 W) => show Near kb mb w W from (Near.of_below BA.out).below hb)
  have hb1 := K1.out.le
  have hb2 := K1.out.lt
  have hlook := K1.out.store.look hi (by rw [hs]; rfl)
  have KR := Lib.hid (K1.out.store.rows h l0 hs)
  obtain ⟨gr, cr, hvr, hgr1, hgr2⟩ := own_slice KR.out.1 (by rw [hl0]; omega)
  have KI := Lib.hid KR.out.is
  rw [hvr] at hlook KI
  clear hvr hgr1 hgr2 KR
  go_wp2_with fail
  go_loopw [7, 24] (fun v i wr => ∃ k : Nat, k ≤ l0.length ∧ i = .int .i64 k ∧ OwnShares wr w1.heap.size v (shL (l0.take k)) ∧ Below w1.heap.size w1 wr) (fun _ i _ => l0.length - (intOf i).toNat)
  case atStart => exact ⟨0, Nat.zero_le _, rfl, OwnShares.nil _ _, Below.refl _ _⟩
  case round =>
    obtain ⟨k, hk, rfl, hown, hbel⟩ := hrel
    have KO := Lib.hid hown
    have BEL := Lib.hid hbel
    have hsz := hbel.size
    have KKr := Lib.hid (K1.out.below hbel)
    clear hown hbel hlook hct hm
    by_cases hlt : k < l0.length
    · obtain ⟨A, c, hA, _, _, _, hu, hr⟩ := KI.out.below BEL.out
      injection hA with hA1 hA2 hA3
      subst hA1 hA3
      obtain ⟨b1, o1, z, hbb, hb9, hgk, huz, hca⟩ := nums_at hr hu hlt
      injection hbb with hbb
      injection hbb with hbb1 hbb2 _
      subst hbb1 hbb2
      rw [Nat.zero_add] at hca
      have HT := Lib.hid (shL_next hgk)
      have HSL := Lib.hid (show (shL (l0.take k)).length = k by rw [shL_length, List.length_take]; omega)
      clear hr hu hgk hb9
      go_wp2_with (at_builtin; go_loud (refine wpList_push_share rfl _ _ rfl w1.heap.size _ _ ((k : Int) + 1) z wr.heap.size 1 rfl (KO.out.alloc _) rfl (pair_cell0 _ _ _ _) (pair_cell1 _ _ _ _) (by unfold I64; omega) huz (by rw [HSL.out]; omega) (by rw [size_alloc]; omega) ?_))
      intro v' w5 hown' hbel'
      rw [← HT.out] at hown'
      have K5 := Lib.hid hown'
      have B5 := Lib.hid ((BEL.out.alloc hsz (.cells #[.int .i64 ((k : Int) + 1), .int .u64 z] 71)).trans hbel')
      clear hown' hbel'
      go_wp2_with fail
      exact ⟨⟨k + 1, by omega, by go_num, K5.out, B5.out⟩, by simp [intOf] <;> omega⟩
    · obtain rfl : l0.length = k := by omega
      have HT := Lib.hid (show l0.take l0.length = l0 from List.take_length)
      rw [HT.out] at KO
      obtain ⟨_, hct, _, _, _⟩ := KKr.out.cells
      go_wp2_with fail
      refine (sOpen_ok t _ _ Q _ KO.out.is HCK.out HQ.out).mono ?_
      rintro e w9 ⟨rfl, hb9⟩
      rw [HXE.out.1, HXE.out.2]
      have B9 := Lib.hid (below_trans BA.out (below_trans BEL.out hb9 hsz) BA.out.size)
      clear hb9
      try dsimp only
      go_wp2_with fail
      exact HP.out _ _ ⟨rfl, B9.out⟩
theorem kDrop_ok (h : Int) (l0 : List Int) (w : World) {base kb mb n t last sz : Nat} {S : Int → Option (List Int)} {V : Int → Value} (hk : KeysIs w base kb mb n t last sz S V) (hi : I64 h) (hs : S h = some l0) :
    Calls Tryz.prog 77 #[.pointer (some ⟨kb, 0, none⟩), .int .i64 h] w fun e w' => e = .returned (.int .i64 0) ∧ KeysIs w' base kb mb n t last (sz - 1) (upd S h none) V ∧ Near kb mb w w' := by
  have KK := Lib.hid hk
  have BA := Lib.hid (show Below w.heap.size w (w.alloc (.cells #[.int .i64 h] 3)) from (Below.refl w.heap.size w).alloc (Nat.le_refl _) _)
  have K1 := Lib.hid (hk.below BA.out)
  have LI := Lib.hid (show IsInts (w.alloc (.cells #[.int .i64 h] 3)) (.slice (some ⟨w.heap.size, 0, none⟩) 1 1) [h] from litI w [h] (by simp; exact hi) (by simp))
  have hbs : base ≤ w.heap.size := Nat.le_trans hk.le (Nat.le_of_lt hk.lt)
  have HTH := Lib.hid (show thereE S [h] = 0 from by rw [thereE_one, if_pos (by simp [hs])])
  suffices hgoal : ∀ Post : Ending → World → Prop, (∀ e w', e = .returned (.int .i64 0) ∧ KeysIs w' base kb mb n t last (sz - 1) (upd S h none) V ∧ Near kb mb w w' → Post e w') → Calls Tryz.prog 77 #[.pointer (some ⟨kb, 0, none⟩), .int .i64 h] w Post from hgoal _ fun e w' h => h
  intro Post hpo
  have HP := Lib.hid hpo
  clear hpo
  clear hk
  go_enter Tryz.func77, Tryz.ntmps77
  go_wp2_with fail
  refine (kThere_any _ [h] _ K1.out LI.out).mono ?_
  rintro e w' ⟨rfl, rfl⟩
  rw [HTH.out]
  obtain ⟨w1, hw1⟩ : ∃ w1, w1 = (w.alloc (.cells #[.int .i64 h] 3)) := ⟨_, rfl⟩
  rw [← hw1] at K1 BA ⊢
  clear hw1 LI
  try dsimp only
  obtain ⟨_, hct, _, hm, _⟩ := K1.out.cells
  have LESS := Lib.hid (fun (W : World) (hb : Below w1.heap.size w1 W) => show Near kb mb w W from (Near.of_below BA.out).below hb)
  have hb1 := K1.out.le
  have hb2 := K1.out.lt
  go_wp2_with (at_delete; refine wpList_del_keys rfl _ _ rfl rfl K1.out.store h hi rfl (by rw [hs]; rfl) ?_)
  intro w2 hst hg2
  have K2 := Lib.hid (K1.out.turned hst hg2 (by have := K1.out.sz8; omega) (fun z ys hz => by
    unfold upd at hz
    by_cases he : z = h
    · rw [if_pos he] at hz; cases hz
    · rw [if_neg he] at hz
      exact K1.out.len z ys hz))
  have B2 := Lib.hid ((LESS.out w1 (Below.refl _ _)).grown hg2 (.inr rfl))
  clear hst hg2 hct hm
  go_wp2_with fail
  exact HP.out _ _ ⟨rfl, K2.out, B2.out⟩
theorem StoreIs.store_run {w : World} {base mb sz : Nat} {S : Int → Option (List Int)} {V : Int → Value} (hs : StoreIs w base mb sz S V) (h8 : sz ≤ 8) {z : Int} (hz : I64 z) {u : Value} {zs : List Int} (ho : OwnNums w base u zs) (hin : (S z).isSome = true) :
    ∃ w', (Instr.mapUpdate 117 (.map (some mb)) (.int .i64 z) u).run Tryz.prog w = .ok () w' ∧ StoreIs w' base mb sz (upd S z (some zs)) (updV V z u) ∧ w.grownBy w' (some mb) := by
  obtain ⟨D, h1, h2, h3, h4⟩ := hs.map
  obtain ⟨w', hrun, h5, h6⟩ := h1.update ilaw Tryz.underlying117 (by unfold maxLen; omega) (val := u) (d := .held u) (ps := []) (keyOf_i64 hz) rfl
  have h7 := StoreIs.put hs.rows hs.le h1 h2 h3 h4 ho h5 h6
  rw [if_pos hin] at h7
  exact ⟨w', hrun, h7, h6⟩
set_option maxRecDepth 100000 in
set_option maxHeartbeats 2000000 in
theorem kRefresh_ok (h : Int) (vd : Value) (ds l0 : List Int) (w : World) {base kb mb n t last sz : Nat} {S : Int → Option (List Int)} {V : Int → Value} (hk : KeysIs w base kb mb n t last sz S V) (hi : I64 h) (hs : S h = some l0) (hd : IsNums w vd ds) (hdl : ds.length = n * t) (ht : t ≤ 4) (htn : t + 1 ≤ n) (hn9 : n ≤ 9) :
    Calls Tryz.prog 67 #[.pointer (some ⟨kb, 0, none⟩), .int .i64 h, vd] w fun e w' => e = .returned (.int .i64 0) ∧ (∃ V', KeysIs w' base kb mb n t last sz (upd S h (some (ofFs (List.zipWith (· + ·) (toFs l0) (sumD n (refP t ds) n))))) V') ∧ Near kb mb w w' := by
  have hmf : ∀ (fn : Fn) (first cap : Array Value) (w : World), (Instr.makeFunc fn first cap).run Tryz.prog w = .ok (.func fn first cap) w := fun _ _ _ _ => rfl
  have hl0 := (hk.len h l0 hs).1
  have hbs : base ≤ w.heap.size := Nat.le_trans hk.le (Nat.le_of_lt hk.lt)
  have HTH := Lib.hid (show thereE S [h] = 0 from by rw [thereE_one, if_pos (by simp [hs])])
  have HDL := Lib.hid hdl
  have hmul : (n : Int) * (t : Int) = (ds.length : Int) := by rw [hdl]; simp
  have hk2 : n * t ≤ 9 * 4 := Nat.mul_le_mul hn9 ht
  obtain ⟨A, c, rfl, hc1, hm1, hl1, hu1, hr1⟩ := id hd
  have BA := Lib.hid ((((Below.refl w.heap.size w).alloc (Nat.le_refl _) (.cells #[.pointer (some ⟨kb, 0, none⟩)] 30)).alloc (by simp) (.cells #[.slice A ds.length c] 64)).alloc (by simp; omega) (.cells #[.int .i64 h] 3))
  have LI := Lib.hid (show IsInts (((w.alloc (.cells #[.pointer (some ⟨kb, 0, none⟩)] 30)).alloc (.cells #[.slice A ds.length c] 64)).alloc (.cells #[.int .i64 h] 3)) (.slice (some ⟨w.heap.size + 1 + 1, 0, none⟩) 1 1) [h] from by
    have := litI ((w.alloc (.cells #[.pointer (some ⟨kb, 0, none⟩)] 30)).alloc (.cells #[.slice A ds.length c] 64)) [h] (by simp; exact hi) (by simp)
    rw [size_alloc, size_alloc] at this
    exact this)
  have Q0 := Lib.hid (show (((w.alloc (.cells #[.pointer (some ⟨kb, 0, none⟩)] 30)).alloc (.cells #[.slice A ds.length c] 64)).alloc (.cells #[.int .i64 h] 3)).cell? ⟨w.heap.size, 0, none⟩ = some (.pointer (some ⟨kb, 0, none⟩)) by
    rw [World.cell?_alloc_lt (a := ⟨w.heap.size, 0, none⟩) (h := by simp; omega), World.cell?_alloc_lt (a := ⟨w.heap.size, 0, none⟩) (h := by simp)]
    exact new_cell _ _ _)
  have Q1 := Lib.hid (show (((w.alloc (.cells #[.pointer (some ⟨kb, 0, none⟩)] 30)).alloc (.cells #[.slice A ds.length c] 64)).alloc (.cells #[.int .i64 h] 3)).cell? ⟨w.heap.size + 1, 0, none⟩ = some (.slice A ds.length c) by
    rw [World.cell?_alloc_lt (a := ⟨w.heap.size + 1, 0, none⟩) (h := by simp)]
    have := new_cell (w.alloc (.cells #[.pointer (some ⟨kb, 0, none⟩)] 30)) (.slice A ds.length c) 64
    rw [size_alloc] at this
    exact this)
  have hs3 : (((w.alloc (.cells #[.pointer (some ⟨kb, 0, none⟩)] 30)).alloc (.cells #[.slice A ds.length c] 64)).alloc (.cells #[.int .i64 h] 3)).heap.size = w.heap.size + 3 := by rw [size_alloc, size_alloc, size_alloc]
  have K1 := Lib.hid (hk.below BA.out)
  have KD := Lib.hid (hd.below BA.out)
  suffices hgoal : ∀ Post : Ending → World → Prop, (∀ e w', e = .returned (.int .i64 0) ∧ (∃ V', KeysIs w' base kb mb n t last sz (upd S h (some (ofFs (List.zipWith (· + ·) (toFs l0) (sumD n (refP t ds) n))))) V') ∧ Near kb mb w w' → Post e w') → Calls Tryz.prog 67 #[.pointer (some ⟨kb, 0, none⟩), .int .i64 h, .slice A ds.length c] w Post from hgoal _ fun e w' h => h
  intro Post hpo
  have HP := Lib.hid hpo
  clear hpo hk hd hr1 hu1 hm1 hdl
  go_enter Tryz.func67, Tryz.ntmps67
  go_wp2_with fail
  refine (kThere_any _ [h] _ K1.out LI.out).mono ?_
  rintro e w' ⟨rfl, rfl⟩
  rw [HTH.out]
  obtain ⟨w1, hw1⟩ : ∃ w1, w1 = ((w.alloc (.cells #[.pointer (some ⟨kb, 0, none⟩)] 30)).alloc (.cells #[.slice A ds.length c] 64)).alloc (.cells #[.int .i64 h] 3) := ⟨_, rfl⟩
  rw [← hw1] at K1 BA KD Q0 Q1 hs3 ⊢
  clear hw1 LI
  obtain ⟨hc0, hct, _, hm, _⟩ := K1.out.cells
  have hq0 := Q0.out
  have hq1 := Q1.out
  try dsimp only
  go_wp2_with fail
  go_quiet (fail)
  go_wp2_with fail
  have K2 := Lib.hid (K1.out.drewN nq)
  have KD2 := Lib.hid (KD.out.drewN nq)
  have B2 := Lib.hid (below_drewN BA.out nq)
  refine (kDealtR_any n t (w.heap.size + 1) w.heap.size A c ds (w1.drewN nq) K2.out Q1.out Q0.out (show _ < w1.heap.size by omega) (show _ < w1.heap.size by omega) KD2.out HDL.out ht hn9 htn).mono ?_
  rintro e W5 ⟨v5, rfl, ho, hb⟩
  have KK5 := Lib.hid (K2.out.below hb)
  have KV5 := Lib.hid ho.is
  have hw1s : w.heap.size < w1.heap.size := by omega
  have hq05 := (hb.cell (p := ⟨w.heap.size, 0, none⟩) (show w.heap.size < (w1.drewN nq).heap.size from hw1s)).trans Q0.out
  have hs5 : w1.heap.size ≤ W5.heap.size := hb.size
  have B5 := Lib.hid (below_trans B2.out hb B2.out.size)
  clear ho hb hc0 hct hm hq0 hq1
  obtain ⟨_, _, _, hm, _⟩ := KK5.out.cells
  have KQ := Lib.hid (KK5.out.drewN 1)
  have hlook : (Instr.lookup 117 (.map (some mb)) (.int .i64 h) false).run Tryz.prog W5.drew = .ok (V h) W5.drew := KQ.out.store.look hi (by rw [hs]; rfl)
  have KR := Lib.hid (KQ.out.store.rows h l0 hs)
  have KVQ := Lib.hid (KV5.out.drewN 1)
  have hkb5 := KK5.out.lt
  have hw5 : w.heap.size < W5.heap.size := by omega
  have HNE3 := Lib.hid (show some w.heap.size ≠ some mb from fun e => by
    injection e with e
    obtain ⟨D, ⟨es, ck, hb0, _⟩, _⟩ := KK5.out.store.map
    have hh := hq05
    rw [e] at hh
    simp [World.cell?, hb0] at hh)
  have HNE := Lib.hid (show some kb ≠ some mb from fun e => KK5.out.ne (by injection e))
  have hls : (toFs l0).length = n := by rw [toFs_length]; exact hl0
  have HADD := Lib.hid (show ∀ a, eachL (· + ·) l0 (ofFs (sumD n (refP t ds) n)) = a → a = ofFs (List.zipWith (· + ·) (toFs l0) (sumD n (refP t ds) n)) from fun a ha => by
    rw [← ha, (eachL_ok hl0 (by rw [ofFs_length, sumD_length]) (by omega) hn9).1]
    unfold zipS
    have e : ∀ l : List F, (ofFs l).map toF = l := fun l => toFs_ofFs l
    rw [e]
    rfl)
  have HW2 := Lib.hid (show wire2E l0 (ofFs (sumD n (refP t ds) n)) = 0 from (eachL_ok (op := (· + ·)) hl0 (by rw [ofFs_length, sumD_length]) (by omega) hn9).2)
  try dsimp only
  go_wp2_with fail
  go_region_held3 (fun w' => w'.cell? ⟨kb, 3, none⟩ = some (.map (some mb)) ∧ w'.cell? ⟨w.heap.size, 0, none⟩ = some (.pointer (some ⟨kb, 0, none⟩))) (go_keep) (first | (go_at_call 121; refine (gAdd_any _ _ l0 (ofFs (sumD n (refP t ds) n)) _ KR.out.is KVQ.out).mono ?_; rintro e w6 ⟨v6, rfl, ho6, hb6⟩; obtain ⟨w7, hrun7, hst7, hg7⟩ := (KQ.out.below hb6).store.store_run (KQ.out.sz8) hi (ho6.less (base' := base) (Nat.le_trans KQ.out.le (Nat.le_of_lt KQ.out.lt))) (by rw [hs]; rfl); have q0 := (hb6.cell (p := ⟨kb, 3, none⟩) hkb5).trans hm; have q1 := (hb6.cell (p := ⟨w.heap.size, 0, none⟩) hw5).trans hq05; have q2 := (World.cell?_of_block (a := ⟨kb, 3, none⟩) (hg7.block kb (Nat.lt_of_lt_of_le hkb5 hb6.size) HNE.out)).trans q0; have q3 := (World.cell?_of_block (a := ⟨w.heap.size, 0, none⟩) (hg7.block w.heap.size (Nat.lt_of_lt_of_le hw5 hb6.size) HNE3.out)).trans q1; have HST := Lib.hid hst7; have HG := Lib.hid hg7; have HB6 := Lib.hid hb6; clear ho6 hb6 hst7 hg7))
  have hst := HST.out
  rw [HADD.out _ rfl] at hst
  have hll : (ofFs (List.zipWith (· + ·) (toFs l0) (sumD n (refP t ds) n))).length = n := by rw [ofFs_length, List.length_zipWith, toFs_length, sumD_length]; omega
  have hk1 := (K1.out.len h l0 hs).2
  have K7 := Lib.hid ((KQ.out.below HB6.out).turned hst HG.out KQ.out.sz8 (fun z ys hz => by
    unfold upd at hz
    by_cases he : z = h
    · rw [if_pos he] at hz
      injection hz with hz
      subst hz he
      exact ⟨hll, hk1⟩
    · rw [if_neg he] at hz
      exact KQ.out.len z ys hz))
  have B7 := Lib.hid (show Near kb mb w w7 from (Near.of_below (show Below w.heap.size w w6 from ⟨HB6.out.os.trans B5.out.os, HB6.out.tape.trans B5.out.tape, HB6.out.output.trans B5.out.output, Nat.le_trans B5.out.size HB6.out.size, fun j hj => (HB6.out.block j (show j < W5.heap.size by omega)).trans (B5.out.block j hj)⟩)).grown HG.out (.inr rfl))
  clear hst hlook hm q0 q1 q2 q3 hq05 HST HG HB6 KVQ KR
  try dsimp only
  go_wp2_with fail
  exact HP.out _ _ ⟨rfl, ⟨_, K7.out⟩, B7.out⟩
theorem kRefresh_none (h : Int) (A : Option Addr) (m c : Nat) (w : World) {base kb mb n t last sz : Nat} {S : Int → Option (List Int)} {V : Int → Value} (hk : KeysIs w base kb mb n t last sz S V) (hi : I64 h) (hs : ¬ (S h).isSome = true) :
    Calls Tryz.prog 67 #[.pointer (some ⟨kb, 0, none⟩), .int .i64 h, .slice A m c] w fun e w' => e = .returned (.int .i64 4) ∧ Below w.heap.size w w' := by
  have HTH := Lib.hid (show thereE S [h] = 4 from by rw [thereE_one, if_neg hs])
  have BA := Lib.hid ((((Below.refl w.heap.size w).alloc (Nat.le_refl _) (.cells #[.pointer (some ⟨kb, 0, none⟩)] 30)).alloc (by simp) (.cells #[.slice A m c] 64)).alloc (by simp; omega) (.cells #[.int .i64 h] 3))
  have LI := Lib.hid (show IsInts (((w.alloc (.cells #[.pointer (some ⟨kb, 0, none⟩)] 30)).alloc (.cells #[.slice A m c] 64)).alloc (.cells #[.int .i64 h] 3)) (.slice (some ⟨w.heap.size + 1 + 1, 0, none⟩) 1 1) [h] from by
    have := litI ((w.alloc (.cells #[.pointer (some ⟨kb, 0, none⟩)] 30)).alloc (.cells #[.slice A m c] 64)) [h] (by simp; exact hi) (by simp)
    rw [size_alloc, size_alloc] at this
    exact this)
  have K1 := Lib.hid (hk.below BA.out)
  clear hk
  go_enter Tryz.func67, Tryz.ntmps67
  go_wp2_with fail
  refine (kThere_any _ [h] _ K1.out LI.out).mono ?_
  rintro e w' ⟨rfl, rfl⟩
  rw [HTH.out]
  try dsimp only
  go_wp2_with fail
  go_ret
  exact ⟨rfl, BA.out⟩
end Go.Proofs.YtploomncapiloaaGreatDoor
