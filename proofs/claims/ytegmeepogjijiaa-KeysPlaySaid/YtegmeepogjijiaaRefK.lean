/- The reference's store of keys: what each call returns. -/
import Derived.Test.YtegmeepogjijiaaTopK
import Derived.Test.YtegmeepogjijiaaRefS
import Derived.Test.YtegmeepogjijiaaTimesW
namespace Go.Proofs.Ytegmeepogjijiaa
open Go.RowKit Go.Maps Croft

/-- a store at block kb: for n parties and t, the last handle, how many there are, and which shares -/
structure RefIs (w : World) (base kb mb n t last sz : Nat) (S : Int → Option (List Int)) (V : Int → Value) : Prop where
  cell : w.heap[kb]? = some (.cells #[.int .i64 n, .int .i64 t, .int .i64 last, .map (some mb)] 81 (0, 0))
  store : StoreIs w base mb sz S V
  le : base ≤ kb
  len : ∀ z zs, S z = some zs → zs.length = n ∧ 1 ≤ z ∧ z ≤ last
  sz8 : sz ≤ 8
theorem RefIs.lt {w : World} {base kb mb n t last sz : Nat} {S : Int → Option (List Int)} {V : Int → Value} (h : RefIs w base kb mb n t last sz S V) : kb < w.heap.size := (Array.getElem?_eq_some_iff.1 h.cell).1
theorem RefIs.below {w w' : World} {base kb mb n t last sz : Nat} {S : Int → Option (List Int)} {V : Int → Value} (h : RefIs w base kb mb n t last sz S V) (hb : Below w.heap.size w w') : RefIs w' base kb mb n t last sz S V :=
  ⟨(hb.block kb h.lt).trans h.cell, h.store.below hb, h.le, h.len, h.sz8⟩
theorem RefIs.drewN {w : World} {base kb mb n t last sz : Nat} {S : Int → Option (List Int)} {V : Int → Value} (h : RefIs w base kb mb n t last sz S V) (m : Nat) : RefIs (w.drewN m) base kb mb n t last sz S V := h.below (below_drewN (Below.refl _ _) m)
theorem RefIs.cells {w : World} {base kb mb n t last sz : Nat} {S : Int → Option (List Int)} {V : Int → Value} (h : RefIs w base kb mb n t last sz S V) :
    w.cell? ⟨kb, 0, none⟩ = some (.int .i64 n) ∧ w.cell? ⟨kb, 1, none⟩ = some (.int .i64 t) ∧ w.cell? ⟨kb, 2, none⟩ = some (.int .i64 last) ∧ w.cell? ⟨kb, 3, none⟩ = some (.map (some mb)) ∧ ∀ j, w.frozen? ⟨kb, j, none⟩ = false := by
  have hc := h.cell
  refine ⟨?_, ?_, ?_, ?_, fun j => ?_⟩
  · simp [World.cell?, hc]
  · simp [World.cell?, hc]
  · simp [World.cell?, hc]
  · simp [World.cell?, hc]
  · simp [World.frozen?, hc]
theorem sKeep_full (v : Value) (w : World) {base kb mb n t last : Nat} {S : Int → Option (List Int)} {V : Int → Value} (hk : RefIs w base kb mb n t last 8 S V) :
    Calls Try.prog 98 #[.pointer (some ⟨kb, 0, none⟩), v] w fun e w' => e = .returned (.tuple #[.int .i64 0, .int .i64 2]) ∧ w = w' := by
  have KK := Lib.hid hk
  obtain ⟨_, _, _, hm, _⟩ := hk.cells
  clear hk
  go_enter Try.func98, Try.ntmps98
  go_wp2_with (at_len; refine wpList_len_keys rfl _ rfl rfl KK.out.store ?_)
  go_ret2
  exact ⟨rfl, rfl⟩
theorem heap_setCell_rb {w : World} {base kb mb n t last sz : Nat} {S : Int → Option (List Int)} {V : Int → Value} (h : RefIs w base kb mb n t last sz S V) (x : Int) : (w.setCell ⟨kb, 2, none⟩ (.int .i64 x)).heap[kb]? = some (.cells #[.int .i64 n, .int .i64 t, .int .i64 x, .map (some mb)] 81 (0, 0)) := by
  have hc := h.cell
  simp [World.setCell, hc, Array.getElem?_modify]
theorem RefIs.kb_type {w : World} {base kb mb n t last sz : Nat} {S : Int → Option (List Int)} {V : Int → Value} (h : RefIs w base kb mb n t last sz S V) (cur : Array Value) (fr : Nat × Nat) : w.heap[kb]? ≠ some (.cells cur 23 fr) := by
  rw [h.cell]
  intro e
  injection e with e
  injection e with _ e _
  exact absurd e (by decide)
theorem RefIs.mb_type {w : World} {base kb mb n t last sz : Nat} {S : Int → Option (List Int)} {V : Int → Value} (h : RefIs w base kb mb n t last sz S V) (cur : Array Value) (e : TypeId) (fr : Nat × Nat) : w.heap[mb]? ≠ some (.cells cur e fr) := by
  obtain ⟨D, ⟨es, clock, hb, _⟩, _⟩ := h.store.map
  rw [hb]
  intro e
  cases e
theorem RefIs.ne {w : World} {base kb mb n t last sz : Nat} {S : Int → Option (List Int)} {V : Int → Value} (h : RefIs w base kb mb n t last sz S V) : kb ≠ mb := fun e => by
  have := h.mb_type
  subst e
  exact this _ _ _ h.cell
theorem RefIs.bump {w : World} {base kb mb n t last sz : Nat} {S : Int → Option (List Int)} {V : Int → Value} (h : RefIs w base kb mb n t last sz S V) : RefIs (w.setCell ⟨kb, 2, none⟩ (.int .i64 ((last : Int) + 1))) base kb mb n t (last + 1) sz S V := by
  refine ⟨heap_setCell_rb h _, ⟨?_, fun z zs hz => (h.store.rows z zs hz).grownBy (grownBy_setCell' w kb 2 _) h.kb_type, h.store.le⟩, h.le, fun z zs hz => ?_, h.sz8⟩
  · obtain ⟨D, h1, h2⟩ := h.store.map
    exact ⟨D, h1.kept (grownBy_setCell' w kb 2 _) (fun e => h.ne (by injection e with e; exact e.symm)), h2⟩
  · obtain ⟨h1, h2, h3⟩ := h.len z zs hz
    exact ⟨h1, h2, by omega⟩
/-- the map turned: the keys stand -/
theorem RefIs.turned {w w' : World} {base kb mb n t last sz sz' : Nat} {S S' : Int → Option (List Int)} {V V' : Int → Value} (h : RefIs w base kb mb n t last sz S V) (hs : StoreIs w' base mb sz' S' V') (hg : w.grownBy w' (some mb)) (h8 : sz' ≤ 8)
    (hl : ∀ z zs, S' z = some zs → zs.length = n ∧ 1 ≤ z ∧ z ≤ last) : RefIs w' base kb mb n t last sz' S' V' :=
  ⟨(hg.block kb h.lt (fun e => h.ne (by injection e))).trans h.cell, hs, h.le, hl, h8⟩
set_option maxRecDepth 100000 in
theorem sKeep_ok (v : Value) (zs : List Int) (w : World) {base kb mb n t last sz : Nat} {S : Int → Option (List Int)} {V : Int → Value} (hk : RefIs w base kb mb n t last sz S V) (hsz : sz < 8) (hlast : last < 1000000) (hv : OwnNums w base v zs) (hl : zs.length = n) :
    Calls Try.prog 98 #[.pointer (some ⟨kb, 0, none⟩), v] w fun e w' => e = .returned (.tuple #[.int .i64 ((last + 1 : Nat) : Int), .int .i64 0]) ∧ RefIs w' base kb mb n t (last + 1) (sz + 1) (upd S (last + 1 : Nat) (some zs)) (updV V (last + 1 : Nat) v) ∧ Near kb mb w w' := by
  have KK := Lib.hid hk
  have KB := Lib.hid hk.bump
  have KV := Lib.hid (hv.grownBy (grownBy_setCell' w kb 2 (.int .i64 ((last : Int) + 1))) hk.kb_type)
  have BB := Lib.hid ((Near.refl kb mb w).grown (grownBy_setCell' w kb 2 (.int .i64 ((last : Int) + 1))) (.inl rfl))
  have HS := Lib.hid (show S ((last : Int) + 1) = none from by
    cases h : S ((last : Int) + 1) with
    | none => rfl
    | some zs => have := (hk.len _ _ h).2.2; omega)
  obtain ⟨_, _, hc2, hm, hfr⟩ := hk.cells
  have hf2 := hfr 2
  have hne : decide ((sz : Int) ≥ 8) = false := by simp; omega
  clear hk hfr hv
  suffices hgoal : ∀ Post : Ending → World → Prop, (∀ w', RefIs w' base kb mb n t (last + 1) (sz + 1) (upd S (last + 1 : Nat) (some zs)) (updV V (last + 1 : Nat) v) → Near kb mb w w' → Post (.returned (.tuple #[.int .i64 ((last + 1 : Nat) : Int), .int .i64 0])) w') → Calls Try.prog 98 #[.pointer (some ⟨kb, 0, none⟩), v] w Post from hgoal _ fun w' h1 h2 => ⟨rfl, h1, h2⟩
  intro Post hpo
  have HP := Lib.hid hpo
  clear hpo
  go_enter Try.func98, Try.ntmps98
  go_wp2_with (at_len; refine wpList_len_keys rfl _ rfl rfl KK.out.store ?_)
  obtain ⟨W1, hW1⟩ : ∃ W1, W1 = w.setCell ⟨kb, 2, none⟩ (.int .i64 ((last : Int) + 1)) := ⟨_, rfl⟩
  rw [← hW1] at KB KV BB ⊢
  clear hW1 hc2 hm hf2 KK
  obtain ⟨_, _, hc2, hm, _⟩ := KB.out.cells
  refine wp_region_quiet_tail 9 (by kernel_rfl) (by kernel_rfl) ?_
  simp only [List.take_succ_cons, List.take_zero, List.drop_succ_cons, List.drop_zero]
  repeat (go_big_quiet_step ((fail)))
  refine wpQuiet_nil ?_
  intro nq
  go_wp2_with (at_mapUpdate; refine wpList_put_keys rfl _ _ _ rfl rfl (KB.out.store.drewN nq) (by omega) ((last : Int) + 1) (by unfold I64; omega) _ zs rfl rfl (KV.out.drewN nq) (sz + 1) (by rw [HS.out]; rfl) ?_)
  intro w2 hst hg2
  have K2 := Lib.hid ((KB.out.drewN nq).turned hst hg2 (by omega) (fun z ys hz => by
    unfold upd at hz
    by_cases he : z = (last : Int) + 1
    · rw [if_pos he] at hz
      injection hz with hz
      subst hz
      exact ⟨hl, by omega, by omega⟩
    · rw [if_neg he] at hz
      exact KB.out.len z ys hz))
  have B2 := Lib.hid ((BB.out.below (below_drewN (Below.refl _ _) nq)).grown hg2 (.inr rfl))
  obtain ⟨_, _, hd2, _, _⟩ := K2.out.cells
  clear hst hg2 hc2 hm
  go_wp2_with fail
  exact HP.out _ K2.out B2.out
/-- a new key, or no room -/
def NewRef (w : World) (base kb mb n t last sz : Nat) (S : Int → Option (List Int)) (l : List Int) (e : Ending) (w' : World) : Prop :=
  if sz = 8 then e = .returned (.tuple #[.int .i64 0, .int .i64 2]) ∧ (∃ V', RefIs w' base kb mb n t last sz S V') ∧ Near kb mb w w'
  else e = .returned (.tuple #[.int .i64 ((last + 1 : Nat) : Int), .int .i64 0]) ∧ (∃ V', RefIs w' base kb mb n t (last + 1) (sz + 1) (upd S (last + 1 : Nat) (some l)) V') ∧ Near kb mb w w'
theorem sKeep_any (v : Value) (zs : List Int) (w : World) {base kb mb n t last sz : Nat} {S : Int → Option (List Int)} {V : Int → Value} (hk : RefIs w base kb mb n t last sz S V) (hlast : last < 1000000) (hv : OwnNums w base v zs) (hl : zs.length = n) :
    Calls Try.prog 98 #[.pointer (some ⟨kb, 0, none⟩), v] w fun e w' => NewRef w base kb mb n t last sz S zs e w' := by
  by_cases h8 : sz = 8
  · subst h8
    refine (sKeep_full v w hk).mono ?_
    rintro e w' ⟨rfl, rfl⟩
    unfold NewRef
    rw [if_pos rfl]
    exact ⟨rfl, ⟨V, hk⟩, Near.refl _ _ _⟩
  · refine (sKeep_ok v zs w hk (by have := hk.sz8; omega) hlast hv hl).mono ?_
    rintro e w' ⟨rfl, h1, h2⟩
    unfold NewRef
    rw [if_neg h8]
    exact ⟨rfl, ⟨_, h1⟩, h2⟩
theorem NewRef.full {w w' : World} {base kb mb n t last sz : Nat} {S : Int → Option (List Int)} {l : List Int} {e : Ending} (h : NewRef w base kb mb n t last sz S l e w') (h8 : sz = 8) : e = .returned (.tuple #[.int .i64 0, .int .i64 2]) ∧ (∃ V', RefIs w' base kb mb n t last sz S V') ∧ Near kb mb w w' := by
  unfold NewRef at h
  rwa [if_pos h8] at h
theorem NewRef.new {w w' : World} {base kb mb n t last sz : Nat} {S : Int → Option (List Int)} {l : List Int} {e : Ending} (h : NewRef w base kb mb n t last sz S l e w') (h8 : ¬ sz = 8) : e = .returned (.tuple #[.int .i64 ((last + 1 : Nat) : Int), .int .i64 0]) ∧ (∃ V', RefIs w' base kb mb n t (last + 1) (sz + 1) (upd S (last + 1 : Nat) (some l)) V') ∧ Near kb mb w w' := by
  unfold NewRef at h
  rwa [if_neg h8] at h
theorem sNew_ok (n t : Nat) (w : World) :
    Calls Try.prog 42 #[.int .i64 n, .int .i64 t] w fun e w' => ∃ kb mb V, e = .returned (.pointer (some ⟨kb, 0, none⟩)) ∧ RefIs w' w.heap.size kb mb n t 0 0 (fun _ => none) V ∧ Below w.heap.size w w' := by
  have hmm := @run_makeMap Try.prog
  have BB := Lib.hid ((((Below.refl w.heap.size w).alloc (Nat.le_refl _) (.map #[] 0))).alloc (by simp) (.cells #[.int .i64 n, .int .i64 t, .int .i64 0, .map (some w.heap.size)] 81))
  have KK := Lib.hid (show RefIs ((w.alloc (.map #[] 0)).alloc (.cells #[.int .i64 n, .int .i64 t, .int .i64 0, .map (some w.heap.size)] 81)) w.heap.size (w.heap.size + 1) w.heap.size n t 0 0 (fun _ => none) (fun _ => .slice none 0 0) from by
    refine ⟨?_, ⟨⟨.map [], (World.ownsMap_made w _ _ _).alloc _, rfl, fun z => rfl, fun z d h => by simp at h⟩, fun z zs h => by simp at h, Nat.le_refl _⟩, by omega, fun z zs h => by simp at h, by omega⟩
    rw [← size_alloc w (.map #[] 0)]
    exact (MapKept.heap_alloc _ _).1)
  go_enter Try.func42, Try.ntmps42
  go_wp2_with fail
  go_ret
  exact ⟨_, _, _, rfl, KK.out, BB.out⟩
theorem StoreIs.lookOk2 {w : World} {base mb sz : Nat} {S : Int → Option (List Int)} {V : Int → Value} (h : StoreIs w base mb sz S V) {z : Int} (hz : I64 z) :
    (Instr.lookup 79 (.map (some mb)) (.int .i64 z) true).run Try.prog w = .ok (.tuple #[if (S z).isSome = true then V z else .slice none 0 0, .bool (S z).isSome]) w := by
  obtain ⟨D, h1, _, h3, h4⟩ := h.map
  obtain ⟨v, ps, hrun, hv⟩ := h1.look_ok ilaw Try.underlying79 (zeroNums w) (zd := .held (.slice none 0 0)) (zp := []) rfl (keyOf_i64 hz)
  rw [h3 z] at hrun
  have e2 : v = if (S z).isSome = true then V z else .slice none 0 0 := by
    cases hs : (S z).isSome with
    | true =>
      rw [if_pos rfl]
      have e : heldR v = some (.held (V z), ps) := hv.trans (by rw [h4 z _ hs])
      have := congrArg (fun o => o.map (·.1)) e
      simp only [heldR, Option.map_some, Option.some.injEq, DataW.held.injEq] at this
      exact this
    | false =>
      rw [if_neg (by simp)]
      have e : heldR v = some (.held (.slice none 0 0), ps) := hv.trans (by rw [atKey_of_not_has ((h3 z).trans hs)])
      have := congrArg (fun o => o.map (·.1)) e
      simp only [heldR, Option.map_some, Option.some.injEq, DataW.held.injEq] at this
      exact this
  rw [hrun, e2]
set_option maxRecDepth 100000 in
theorem sHas_any (va : Value) (hs : List Int) (w : World) {base kb mb n t last sz : Nat} {S : Int → Option (List Int)} {V : Int → Value} (hk : RefIs w base kb mb n t last sz S V) (h1 : IsInts w va hs) :
    Calls Try.prog 100 #[.pointer (some ⟨kb, 0, none⟩), va] w fun e w' => e = .returned (.bool (hs.all fun h => (S h).isSome)) ∧ ∃ d, w' = w.drewN d := by
  have KK := Lib.hid hk
  have KA := Lib.hid h1
  obtain ⟨A1, c1, rfl, hc1, hm1, hl1, hu1, hr1⟩ := h1
  clear hk hm1
  have hu := Lib.hid hu1
  clear hu1 hr1
  suffices hgoal : ∀ Post : Ending → World → Prop, (∀ e w', (e = .returned (.bool (hs.all fun h => (S h).isSome)) ∧ ∃ d, w' = w.drewN d) → Post e w') → Calls Try.prog 100 #[.pointer (some ⟨kb, 0, none⟩), .slice A1 hs.length c1] w Post from hgoal _ fun e w' h => h
  intro Post hpo
  have HP := Lib.hid hpo
  clear hpo
  go_enter Try.func100, Try.ntmps100
  go_wp2_with fail
  go_loopw [5, 6] (fun o i wr => ∃ k d : Nat, k ≤ hs.length ∧ i = .int .i64 k ∧ o = .bool ((hs.take k).all fun h => (S h).isSome) ∧ wr = w.drewN d) (fun _ i _ => hs.length - (intOf i).toNat)
  case atStart => exact ⟨0, 0, Nat.zero_le _, rfl, by simp, rfl⟩
  case round =>
    obtain ⟨k, d, hk, rfl, rfl, hw⟩ := hrel
    have KK2 := Lib.hid (show RefIs wr base kb mb n t last sz S V by rw [hw]; exact KK.out.drewN d)
    have HW := Lib.hid hw
    have KA2 := Lib.hid (show IsInts wr (.slice A1 hs.length c1) hs by rw [hw]; exact KA.out.below (below_drewN (Below.refl w.heap.size w) d))
    clear hw
    by_cases hlt : k < hs.length
    · obtain ⟨_, _, _, hm, _⟩ := KK2.out.cells
      obtain ⟨A, c, hA, _, _, _, hu', hr'⟩ := KA2.out
      injection hA with hA1 hA2 hA3
      subst hA1 hA3
      clear hA2
      obtain ⟨b1, o1, z, rfl, hb1, hgk, hz64, hca⟩ := ints_at hr' hu' hlt
      obtain ⟨vl, hvl⟩ : ∃ vl, vl = (if (S z).isSome = true then V z else .slice none 0 0) := ⟨_, rfl⟩
      have hlk := fun q => ((KK2.out.drewN q).store.lookOk2 hz64)
      rw [← hvl] at hlk
      clear hvl
      have HN := Lib.hid (show (hs.take (k + 1)).all (fun h => (S h).isSome) = ((hs.take k).all (fun h => (S h).isSome) && (S z).isSome) by rw [List.take_add_one, hgk, List.all_append]; simp)
      obtain ⟨bt, hbt⟩ : ∃ bt, bt = (hs.take k).all (fun h => (S h).isSome) := ⟨_, rfl⟩
      rw [← hbt] at HN ⊢
      clear hr' hu' hgk hb1 hbt
      go_wp2_with fail
      go_quiet (fail)
      have hadd := Lib.hid (show wr.drewN nq = w.drewN (d + nq) by rw [HW.out]; simp [World.drewN, Nat.add_assoc])
      cases bt with
      | true =>
        go_wp2_with fail
        exact ⟨⟨k + 1, d + nq, by omega, by go_num, by rw [HN.out]; rfl, hadd.out⟩, by simp [intOf] <;> omega⟩
      | false =>
        go_wp2_with fail
        exact ⟨⟨k + 1, d + nq, by omega, by go_num, by rw [HN.out]; rfl, hadd.out⟩, by simp [intOf] <;> omega⟩
    · obtain rfl : k = hs.length := by omega
      go_wp2_with fail
      exact HP.out _ _ ⟨by rw [List.take_length]; rfl, d, HW.out⟩
theorem F_one_l (x y : F) : toF 1 * x + toF 1 * y + toF 0 = x + y := by rw [toF_one, toF_zero]; grind
theorem mixed_add (a b : List F) : mixedL (ofFs a) (ofFs b) 1 1 0 = ofFs (List.zipWith (· + ·) a b) := by
  unfold mixedL ofFs
  rw [List.zipWith_map, show (fun x y => toF 1 * toF (ofF x) + toF 1 * toF (ofF y) + toF 0) = (fun x y : F => x + y) from by funext x y; rw [toF_ofF, toF_ofF, F_one_l]]
set_option maxRecDepth 100000 in
set_option maxHeartbeats 2000000 in
theorem sSums_true (vd : Value) (ds : List Int) (w : World) {base kb mb n t last sz : Nat} {S : Int → Option (List Int)} {V : Int → Value} (hk : RefIs w base kb mb n t last sz S V) (h1 : IsNums w vd ds) (hl : ds.length = n * (t + 1)) (ht : t ≤ 4) (hn9 : n ≤ 9) :
    Calls Try.prog 99 #[.pointer (some ⟨kb, 0, none⟩), vd, .bool true] w fun e w' => ∃ v, e = .returned v ∧ OwnNums w' w.heap.size v (ofFs (sumD n (genP t ds) n)) ∧ Below w.heap.size w w' := by
  have KK := Lib.hid hk
  have KD := Lib.hid h1
  have HL := Lib.hid hl
  obtain ⟨hc0, hc1, _, _, _⟩ := hk.cells
  obtain ⟨A, c, rfl, hcc, hmc, hlc, _, _⟩ := h1
  suffices hgoal : ∀ Post : Ending → World → Prop, (∀ e w', (∃ v, e = .returned v ∧ OwnNums w' w.heap.size v (ofFs (sumD n (genP t ds) n)) ∧ Below w.heap.size w w') → Post e w') → Calls Try.prog 99 #[.pointer (some ⟨kb, 0, none⟩), .slice A ds.length c, .bool true] w Post from hgoal _ fun e w' h => h
  intro Post hpo
  have HP := Lib.hid hpo
  have hd45 : ds.length ≤ 45 := by rw [hl]; exact Nat.le_trans (Nat.mul_le_mul hn9 (show (t + 1) ≤ 5 by omega)) (by omega)
  clear hpo hk hl hmc
  go_enter Try.func99, Try.ntmps99
  go_wp2_with (refine wpList_make_nums rfl _ _ rfl w.heap.size _ n rfl rfl rfl (by omega) (Nat.le_refl _) ?_)
  intro w1 ho hb
  have KO := Lib.hid ho
  have B1 := Lib.hid hb
  have hkbs := KK.out.lt
  replace hc0 := (hb.cell (p := ⟨kb, 0, none⟩) hkbs).trans hc0
  replace hc1 := (hb.cell (p := ⟨kb, 1, none⟩) hkbs).trans hc1
  clear ho hb
  go_wp2_with fail
  go_loopw [7, 8, 9] (fun v a i wr => ∃ k m : Nat, k ≤ n ∧ m = k * (t + 1) ∧ i = .int .i64 k ∧ a = .int .i64 m ∧ OwnNums wr w.heap.size v (ofFs (sumD n (genP t ds) k)) ∧ Below w.heap.size w wr) (fun _ _ i _ => n - (intOf i).toNat)
  case atStart => exact ⟨0, 0, Nat.zero_le _, by omega, rfl, rfl, by rw [show ofFs (sumD n (genP t ds) 0) = List.replicate n 0 by simp [sumD, ofFs]; right; rfl]; exact KO.out, B1.out⟩
  case round =>
    obtain ⟨k, m, hk, hm, rfl, rfl, hown, hbel⟩ := hrel
    clear KO B1 hc0 hc1
    have KO := Lib.hid hown
    have BEL := Lib.hid hbel
    have HM := Lib.hid hm
    have hsz := hbel.size
    clear hown hbel
    have KKr := Lib.hid (KK.out.below BEL.out)
    obtain ⟨hc0, hc1, _, _, _⟩ := KKr.out.cells
    by_cases hlt : k < n
    · have KDr := Lib.hid (KD.out.below BEL.out)
      have hk1 : (k + 1) * (t + 1) ≤ n * (t + 1) := Nat.mul_le_mul hlt (Nat.le_refl _)
      rw [Nat.succ_mul, ← hm] at hk1
      have hmd : m + (t + 1) ≤ ds.length := by rw [HL.out]; omega
      have HM2 := Lib.hid (show m + (t + 1) = (k + 1) * (t + 1) by rw [Nat.succ_mul, ← hm])
      clear hm hk1
      have hkb := KKr.out.lt
      have hcut := KDr.out.cut (m + 1) ((m + 1) + t) (by omega) (by omega)
      rw [show (m + 1) + t - (m + 1) = t by omega] at hcut
      have HCUT := Lib.hid (show IsNums wr (cutV A c (m + 1) t) ((ds.drop (m + 1)).take t) from hcut)
      have HCL := Lib.hid (show ((ds.drop (m + 1)).take t).length = t by rw [List.length_take, List.length_drop]; omega)
      have hsl := slice_run A ds.length c (m + 1) ((m + 1) + t) ((m : Int) + 1) ((m : Int) + 1 + (t : Int)) (by omega) (by omega) (by omega) (by omega)
      rw [show (m + 1) + t - (m + 1) = t by omega] at hsl
      obtain ⟨vc, hvc⟩ : ∃ vc, vc = cutV A c (m + 1) t := ⟨_, rfl⟩
      rw [show Value.slice (if c = (m + 1) then A else A.map (·.add ((m + 1) * 1))) t (c - (m + 1)) = vc from hvc.symm] at hsl
      rw [← hvc] at HCUT
      clear hcut hvc
      obtain ⟨A', c', hA, _, _, _, hu, hr⟩ := KDr.out
      injection hA with hA1 hA2 hA3
      subst hA1 hA3
      clear hA2
      obtain ⟨b1, o1, z, rfl, hb1, hgk, hz64, hca⟩ := nums_at hr hu (show m < ds.length by omega)
      have HZ := Lib.hid (show genP t ds k = toFs (z :: (ds.drop (m + 1)).take t) by unfold genP; rw [← HM.out]; simp [List.getD, hgk])
      clear hr hu hgk hb1
      go_wp2_with fail
      refine wp_region_quiet_tail 14 (by kernel_rfl) (by kernel_rfl) ?_
      simp only [List.take_succ_cons, List.take_zero, List.drop_succ_cons, List.drop_zero]
      repeat (go_big_quiet_step ((fail)))
      refine wpQuiet_nil ?_
      intro nq
      go_wp2_with fail
      refine (rDealt_any z vc ((ds.drop (m + 1)).take t) n _ hz64 (HCUT.out.drewN nq) (by rw [HCL.out]; omega) hn9).mono ?_
      rintro e w6 ⟨vl, rfl, ho6, hb6⟩
      rw [← HZ.out] at ho6
      have KL := Lib.hid ho6
      have KO6 := Lib.hid ((KO.out.drewN nq).below hb6)
      have BEL6 := Lib.hid (below_trans (below_drewN BEL.out nq) hb6 hsz)
      replace hc0 := (hb6.cell (p := ⟨kb, 0, none⟩) hkb).trans hc0
      replace hc1 := (hb6.cell (p := ⟨kb, 1, none⟩) hkb).trans hc1
      have hs6 := BEL6.out.size
      clear ho6 hb6 KO BEL hsl HCUT
      try dsimp only
      go_wp2_with fail
      refine (rMixed_any _ _ _ _ 1 1 0 _ KO6.out.is KL.out.is (by rw [ofFs_length, ofFs_length, sumD_length, deal_length]; exact Nat.le_refl _) ⟨by omega, by omega⟩ ⟨by omega, by omega⟩ ⟨by omega, by omega⟩).mono ?_
      rintro e w7 ⟨vs, rfl, ho7, hb7⟩
      rw [mixed_add] at ho7
      have K7 := Lib.hid (show OwnNums w7 w.heap.size vs (ofFs (sumD n (genP t ds) (k + 1))) from ho7.less hs6)
      have B7 := Lib.hid (below_trans BEL6.out hb7 hs6)
      clear ho7 hb7 hc0 hc1
      try dsimp only
      go_wp2_with fail
      exact ⟨⟨k + 1, m + (t + 1), by omega, HM2.out, by go_num, by go_num, K7.out, B7.out⟩, by simp [intOf] <;> omega⟩
    · obtain rfl : k = n := by omega
      go_wp2_with fail
      exact HP.out _ _ ⟨_, rfl, KO.out, BEL.out⟩
set_option maxRecDepth 100000 in
set_option maxHeartbeats 2000000 in
theorem sSums_false (vd : Value) (ds : List Int) (w : World) {base kb mb n t last sz : Nat} {S : Int → Option (List Int)} {V : Int → Value} (hk : RefIs w base kb mb n t last sz S V) (h1 : IsNums w vd ds) (hl : ds.length = n * t) (ht : t ≤ 4) (hn9 : n ≤ 9) :
    Calls Try.prog 99 #[.pointer (some ⟨kb, 0, none⟩), vd, .bool false] w fun e w' => ∃ v, e = .returned v ∧ OwnNums w' w.heap.size v (ofFs (sumD n (refP t ds) n)) ∧ Below w.heap.size w w' := by
  have KK := Lib.hid hk
  have KD := Lib.hid h1
  have HL := Lib.hid hl
  obtain ⟨hc0, hc1, _, _, _⟩ := hk.cells
  obtain ⟨A, c, rfl, hcc, hmc, hlc, _, _⟩ := h1
  suffices hgoal : ∀ Post : Ending → World → Prop, (∀ e w', (∃ v, e = .returned v ∧ OwnNums w' w.heap.size v (ofFs (sumD n (refP t ds) n)) ∧ Below w.heap.size w w') → Post e w') → Calls Try.prog 99 #[.pointer (some ⟨kb, 0, none⟩), .slice A ds.length c, .bool false] w Post from hgoal _ fun e w' h => h
  intro Post hpo
  have HP := Lib.hid hpo
  have hd45 : ds.length ≤ 45 := by rw [hl]; exact Nat.le_trans (Nat.mul_le_mul hn9 (show t ≤ 5 by omega)) (by omega)
  clear hpo hk hl hmc
  go_enter Try.func99, Try.ntmps99
  go_wp2_with (refine wpList_make_nums rfl _ _ rfl w.heap.size _ n rfl rfl rfl (by omega) (Nat.le_refl _) ?_)
  intro w1 ho hb
  have KO := Lib.hid ho
  have B1 := Lib.hid hb
  have hkbs := KK.out.lt
  replace hc0 := (hb.cell (p := ⟨kb, 0, none⟩) hkbs).trans hc0
  replace hc1 := (hb.cell (p := ⟨kb, 1, none⟩) hkbs).trans hc1
  clear ho hb
  go_wp2_with fail
  go_loopw [7, 8, 9] (fun v a i wr => ∃ k m : Nat, k ≤ n ∧ m = k * t ∧ i = .int .i64 k ∧ a = .int .i64 m ∧ OwnNums wr w.heap.size v (ofFs (sumD n (refP t ds) k)) ∧ Below w.heap.size w wr) (fun _ _ i _ => n - (intOf i).toNat)
  case atStart => exact ⟨0, 0, Nat.zero_le _, by omega, rfl, rfl, by rw [show ofFs (sumD n (refP t ds) 0) = List.replicate n 0 by simp [sumD, ofFs]; right; rfl]; exact KO.out, B1.out⟩
  case round =>
    obtain ⟨k, m, hk, hm, rfl, rfl, hown, hbel⟩ := hrel
    clear KO B1 hc0 hc1
    have KO := Lib.hid hown
    have BEL := Lib.hid hbel
    have HM := Lib.hid hm
    have hsz := hbel.size
    clear hown hbel
    have KKr := Lib.hid (KK.out.below BEL.out)
    obtain ⟨hc0, hc1, _, _, _⟩ := KKr.out.cells
    by_cases hlt : k < n
    · have KDr := Lib.hid (KD.out.below BEL.out)
      have hk1 : (k + 1) * t ≤ n * t := Nat.mul_le_mul hlt (Nat.le_refl _)
      rw [Nat.succ_mul, ← hm] at hk1
      have hmd : m + t ≤ ds.length := by rw [HL.out]; omega
      have HM2 := Lib.hid (show m + t = (k + 1) * t by rw [Nat.succ_mul, ← hm])
      clear hm hk1
      have hkb := KKr.out.lt
      have hcut := KDr.out.cut m (m + t) (by omega) (by omega)
      rw [show m + t - m = t by omega] at hcut
      have HCUT := Lib.hid (show IsNums wr (cutV A c m t) ((ds.drop m).take t) from hcut)
      have HCL := Lib.hid (show ((ds.drop m).take t).length = t by rw [List.length_take, List.length_drop]; omega)
      have hsl := slice_run A ds.length c m (m + t) ((m : Int)) ((m : Int) + (t : Int)) (by omega) (by omega) (by omega) (by omega)
      rw [show m + t - m = t by omega] at hsl
      obtain ⟨vc, hvc⟩ : ∃ vc, vc = cutV A c m t := ⟨_, rfl⟩
      rw [show Value.slice (if c = m then A else A.map (·.add (m * 1))) t (c - m) = vc from hvc.symm] at hsl
      rw [← hvc] at HCUT
      clear hcut hvc
      have HZ := Lib.hid (show refP t ds k = toFs (0 :: (ds.drop m).take t) by unfold refP; rw [← HM.out])
      have hz64 : U64 0 := ⟨by omega, by omega⟩
      go_wp2_with fail
      refine wp_region_quiet_tail 14 (by kernel_rfl) (by kernel_rfl) ?_
      simp only [List.take_succ_cons, List.take_zero, List.drop_succ_cons, List.drop_zero]
      repeat (go_big_quiet_step ((fail)))
      refine wpQuiet_nil ?_
      intro nq
      go_wp2_with fail
      refine (rDealt_any 0 vc ((ds.drop m).take t) n _ hz64 (HCUT.out.drewN nq) (by rw [HCL.out]; omega) hn9).mono ?_
      rintro e w6 ⟨vl, rfl, ho6, hb6⟩
      rw [← HZ.out] at ho6
      have KL := Lib.hid ho6
      have KO6 := Lib.hid ((KO.out.drewN nq).below hb6)
      have BEL6 := Lib.hid (below_trans (below_drewN BEL.out nq) hb6 hsz)
      replace hc0 := (hb6.cell (p := ⟨kb, 0, none⟩) hkb).trans hc0
      replace hc1 := (hb6.cell (p := ⟨kb, 1, none⟩) hkb).trans hc1
      have hs6 := BEL6.out.size
      clear ho6 hb6 KO BEL hsl HCUT
      try dsimp only
      go_wp2_with fail
      refine (rMixed_any _ _ _ _ 1 1 0 _ KO6.out.is KL.out.is (by rw [ofFs_length, ofFs_length, sumD_length, deal_length]; exact Nat.le_refl _) ⟨by omega, by omega⟩ ⟨by omega, by omega⟩ ⟨by omega, by omega⟩).mono ?_
      rintro e w7 ⟨vs, rfl, ho7, hb7⟩
      rw [mixed_add] at ho7
      have K7 := Lib.hid (show OwnNums w7 w.heap.size vs (ofFs (sumD n (refP t ds) (k + 1))) from ho7.less hs6)
      have B7 := Lib.hid (below_trans BEL6.out hb7 hs6)
      clear ho7 hb7 hc0 hc1
      try dsimp only
      go_wp2_with fail
      exact ⟨⟨k + 1, m + t, by omega, HM2.out, by go_num, by go_num, K7.out, B7.out⟩, by simp [intOf] <;> omega⟩
    · obtain rfl : k = n := by omega
      go_wp2_with fail
      exact HP.out _ _ ⟨_, rfl, KO.out, BEL.out⟩
end Go.Proofs.Ytegmeepogjijiaa
namespace Go.Proofs.Ytegmeepogjijiaa
open Go.RowKit Go.Maps Croft

theorem NewRef.form {w w' : World} {base kb mb n t last sz : Nat} {S : Int → Option (List Int)} {l : List Int} {e : Ending} (h : NewRef w base kb mb n t last sz S l e w') : ∃ z er, e = .returned (.tuple #[.int .i64 z, .int .i64 er]) := by
  by_cases h8 : sz = 8
  · exact ⟨_, _, (h.full h8).1⟩
  · exact ⟨_, _, (h.new h8).1⟩
theorem NewRef.after {w w1 w' : World} {base kb mb n t last sz : Nat} {S : Int → Option (List Int)} {l : List Int} {e : Ending} (hn : Near kb mb w w1) (h : NewRef w1 base kb mb n t last sz S l e w') : NewRef w base kb mb n t last sz S l e w' := by
  unfold NewRef at h ⊢
  split at h
  · rename_i h8; rw [if_pos h8]; exact ⟨h.1, h.2.1, hn.trans h.2.2⟩
  · rename_i h8; rw [if_neg h8]; exact ⟨h.1, h.2.1, hn.trans h.2.2⟩
set_option maxRecDepth 100000 in
theorem sGen_bad (vd : Value) (ds : List Int) (w : World) {base kb mb n t last sz : Nat} {S : Int → Option (List Int)} {V : Int → Value} (hk : RefIs w base kb mb n t last sz S V) (h1 : IsNums w vd ds) (hl : ds.length ≠ n * (t + 1)) (ht : t ≤ 4) (hn9 : n ≤ 9) :
    Calls Try.prog 43 #[.pointer (some ⟨kb, 0, none⟩), vd] w fun e w' => e = .returned (.tuple #[.int .i64 0, .int .i64 1]) ∧ Below w.heap.size w w' := by
  obtain ⟨hc0, hct, _, _, _⟩ := hk.cells
  obtain ⟨A, c, rfl, hc1, hm1, hl1, hu1, hr1⟩ := h1
  obtain ⟨m, hm⟩ : ∃ m, n * (t + 1) = m := ⟨_, rfl⟩
  have hmul : (n : Int) * ((t : Int) + 1) = (m : Int) := by rw [← hm]; simp
  have hmb : m ≤ 45 := by rw [← hm]; exact Nat.le_trans (Nat.mul_le_mul hn9 (show t + 1 ≤ 5 by omega)) (by omega)
  rw [hm] at hl
  have hne : ((ds.length : Int) != (m : Int)) = true := by rw [bne_iff_ne]; omega
  clear hk hu1 hr1 hm1 hm hl
  go_enter Try.func43, Try.ntmps43
  go_wp2_with fail
  go_quiet (fail)
  go_wp2_with fail
  go_ret2
  exact ⟨rfl, below_drewN (Below.refl _ _) _⟩
set_option maxRecDepth 100000 in
theorem sGen_ok (vd : Value) (ds : List Int) (w : World) {base kb mb n t last sz : Nat} {S : Int → Option (List Int)} {V : Int → Value} (hk : RefIs w base kb mb n t last sz S V) (h1 : IsNums w vd ds) (hl : ds.length = n * (t + 1)) (ht : t ≤ 4) (hn9 : n ≤ 9) (hlast : last < 1000000) :
    Calls Try.prog 43 #[.pointer (some ⟨kb, 0, none⟩), vd] w fun e w' => NewRef w base kb mb n t last sz S (ofFs (sumD n (genP t ds) n)) e w' := by
  have KK := Lib.hid hk
  have KD := Lib.hid h1
  have HL := Lib.hid hl
  obtain ⟨hc0, hct, _, _, _⟩ := hk.cells
  obtain ⟨A, c, rfl, hc1, hm1, hl1, hu1, hr1⟩ := h1
  have hmul : (n : Int) * ((t : Int) + 1) = (ds.length : Int) := by rw [hl]; simp
  have hbs : base ≤ w.heap.size := Nat.le_trans hk.le (Nat.le_of_lt hk.lt)
  clear hk hu1 hr1 hm1 hl
  suffices hgoal : ∀ Post : Ending → World → Prop, (∀ e w', NewRef w base kb mb n t last sz S (ofFs (sumD n (genP t ds) n)) e w' → Post e w') → Calls Try.prog 43 #[.pointer (some ⟨kb, 0, none⟩), .slice A ds.length c] w Post from hgoal _ fun e w' h => h
  intro Post hpo
  have HP := Lib.hid hpo
  clear hpo
  go_enter Try.func43, Try.ntmps43
  go_wp2_with fail
  go_quiet (fail)
  go_wp2_with fail
  refine (sSums_true _ ds _ (KK.out.drewN nq) (KD.out.drewN nq) HL.out ht hn9).mono ?_
  rintro e w1 ⟨v, rfl, ho, hb⟩
  have K1 := Lib.hid ((KK.out.drewN nq).below hb)
  have B1 := Lib.hid (below_trans (below_drewN (Below.refl w.heap.size w) nq) hb (Nat.le_refl _))
  have KV := Lib.hid (ho.less (base' := base) hbs)
  clear ho hb hc0 hct
  try dsimp only
  go_wp2_with fail
  refine (sKeep_any v _ _ K1.out hlast KV.out (by rw [ofFs_length, sumD_length])).mono ?_
  intro e w2 hnk
  obtain ⟨z, er, rfl⟩ := hnk.form
  have NK := Lib.hid hnk
  clear hnk
  try dsimp only
  go_wp2_with fail
  exact HP.out _ _ (NK.out.after (Near.of_below B1.out))
theorem NewRef.cell {w w' : World} {base kb mb n t last sz : Nat} {S : Int → Option (List Int)} {l : List Int} {e : Ending} (h : NewRef w base kb mb n t last sz S l e w') : w'.cell? ⟨kb, 3, none⟩ = some (.map (some mb)) ∧ w'.cell? ⟨kb, 1, none⟩ = some (.int .i64 t) := by
  by_cases h8 : sz = 8
  · obtain ⟨_, ⟨V', hk⟩, _⟩ := h.full h8
    exact ⟨hk.cells.2.2.2.1, hk.cells.2.1⟩
  · obtain ⟨_, ⟨V', hk⟩, _⟩ := h.new h8
    exact ⟨hk.cells.2.2.2.1, hk.cells.2.1⟩
theorem all_one {S : Int → Option (List Int)} {h : Int} : ([h].all fun h => (S h).isSome) = (S h).isSome := by simp
theorem all_two {S : Int → Option (List Int)} {g h : Int} : ([g, h].all fun h => (S h).isSome) = ((S g).isSome && (S h).isSome) := by simp
theorem sDrop_none (h : Int) (w : World) {base kb mb n t last sz : Nat} {S : Int → Option (List Int)} {V : Int → Value} (hk : RefIs w base kb mb n t last sz S V) (hi : I64 h) (hn : ¬ ((S h).isSome = true)) :
    Calls Try.prog 47 #[.pointer (some ⟨kb, 0, none⟩), .int .i64 h] w fun e w' => e = .returned (.int .i64 4) ∧ Below w.heap.size w w' := by
  have BA := Lib.hid (show Below w.heap.size w (w.alloc (.cells #[.int .i64 h] 3)) from (Below.refl w.heap.size w).alloc (Nat.le_refl _) _)
  have K1 := Lib.hid (hk.below BA.out)
  have LI := Lib.hid (show IsInts (w.alloc (.cells #[.int .i64 h] 3)) (.slice (some ⟨w.heap.size, 0, none⟩) 1 1) [h] from litI w [h] (by simp; exact hi) (by simp))
  have HTH := Lib.hid (show ([h].all fun h => (S h).isSome) = false by rw [all_one]; simpa using hn)
  clear hk hn
  go_enter Try.func47, Try.ntmps47
  go_wp2_with fail
  refine (sHas_any _ [h] _ K1.out LI.out).mono ?_
  rintro e w' ⟨rfl, d, rfl⟩
  rw [HTH.out]
  try dsimp only
  go_wp2_with fail
  go_ret
  exact ⟨rfl, below_drewN BA.out d⟩
theorem sOpen_none (h : Int) (w : World) {base kb mb n t last sz : Nat} {S : Int → Option (List Int)} {V : Int → Value} (hk : RefIs w base kb mb n t last sz S V) (hi : I64 h) (hn : ¬ ((S h).isSome = true)) :
    Calls Try.prog 48 #[.pointer (some ⟨kb, 0, none⟩), .int .i64 h] w fun e w' => e = .returned (.tuple #[.int .u64 0, .int .i64 4]) ∧ Below w.heap.size w w' := by
  have BA := Lib.hid (show Below w.heap.size w (w.alloc (.cells #[.int .i64 h] 3)) from (Below.refl w.heap.size w).alloc (Nat.le_refl _) _)
  have K1 := Lib.hid (hk.below BA.out)
  have LI := Lib.hid (show IsInts (w.alloc (.cells #[.int .i64 h] 3)) (.slice (some ⟨w.heap.size, 0, none⟩) 1 1) [h] from litI w [h] (by simp; exact hi) (by simp))
  have HTH := Lib.hid (show ([h].all fun h => (S h).isSome) = false by rw [all_one]; simpa using hn)
  clear hk hn
  go_enter Try.func48, Try.ntmps48
  go_wp2_with fail
  refine (sHas_any _ [h] _ K1.out LI.out).mono ?_
  rintro e w' ⟨rfl, d, rfl⟩
  rw [HTH.out]
  try dsimp only
  go_wp2_with fail
  go_ret2
  exact ⟨rfl, below_drewN BA.out d⟩
theorem sRefresh_none (h : Int) (vd : Value) (w : World) {base kb mb n t last sz : Nat} {S : Int → Option (List Int)} {V : Int → Value} (hk : RefIs w base kb mb n t last sz S V) (hi : I64 h) (hn : ¬ ((S h).isSome = true)) :
    Calls Try.prog 44 #[.pointer (some ⟨kb, 0, none⟩), .int .i64 h, vd] w fun e w' => e = .returned (.int .i64 4) ∧ Below w.heap.size w w' := by
  have BA := Lib.hid (show Below w.heap.size w (w.alloc (.cells #[.int .i64 h] 3)) from (Below.refl w.heap.size w).alloc (Nat.le_refl _) _)
  have K1 := Lib.hid (hk.below BA.out)
  have LI := Lib.hid (show IsInts (w.alloc (.cells #[.int .i64 h] 3)) (.slice (some ⟨w.heap.size, 0, none⟩) 1 1) [h] from litI w [h] (by simp; exact hi) (by simp))
  have HTH := Lib.hid (show ([h].all fun h => (S h).isSome) = false by rw [all_one]; simpa using hn)
  clear hk hn
  go_enter Try.func44, Try.ntmps44
  go_wp2_with fail
  refine (sHas_any _ [h] _ K1.out LI.out).mono ?_
  rintro e w' ⟨rfl, d, rfl⟩
  rw [HTH.out]
  try dsimp only
  go_wp2_with fail
  go_ret
  exact ⟨rfl, below_drewN BA.out d⟩
theorem sCombine_none (g h x y z : Int) (w : World) {base kb mb n t last sz : Nat} {S : Int → Option (List Int)} {V : Int → Value} (hk : RefIs w base kb mb n t last sz S V) (hi : I64 g) (hj : I64 h) (hn : ¬ ((S g).isSome = true ∧ (S h).isSome = true)) :
    Calls Try.prog 45 #[.pointer (some ⟨kb, 0, none⟩), .int .i64 g, .int .i64 h, .int .u64 x, .int .u64 y, .int .u64 z] w fun e w' => e = .returned (.tuple #[.int .i64 0, .int .i64 4]) ∧ Below w.heap.size w w' := by
  have BA := Lib.hid (show Below w.heap.size w (w.alloc (.cells #[.int .i64 g, .int .i64 h] 3)) from (Below.refl w.heap.size w).alloc (Nat.le_refl _) _)
  have K1 := Lib.hid (hk.below BA.out)
  have LI := Lib.hid (show IsInts (w.alloc (.cells #[.int .i64 g, .int .i64 h] 3)) (.slice (some ⟨w.heap.size, 0, none⟩) 2 2) [g, h] from litI w [g, h] (by simp; exact ⟨hi, hj⟩) (by simp))
  have HTH := Lib.hid (show ([g, h].all fun h => (S h).isSome) = false by rw [all_two]; simpa using hn)
  clear hk hn
  go_enter Try.func45, Try.ntmps45
  go_wp2_with fail
  refine (sHas_any _ [g, h] _ K1.out LI.out).mono ?_
  rintro e w' ⟨rfl, d, rfl⟩
  rw [HTH.out]
  try dsimp only
  go_wp2_with fail
  go_ret2
  exact ⟨rfl, below_drewN BA.out d⟩
theorem sMultiply_none (g h : Int) (vd : Value) (w : World) {base kb mb n t last sz : Nat} {S : Int → Option (List Int)} {V : Int → Value} (hk : RefIs w base kb mb n t last sz S V) (hi : I64 g) (hj : I64 h) (hn : ¬ ((S g).isSome = true ∧ (S h).isSome = true)) :
    Calls Try.prog 46 #[.pointer (some ⟨kb, 0, none⟩), .int .i64 g, .int .i64 h, vd] w fun e w' => e = .returned (.tuple #[.int .i64 0, .int .i64 4]) ∧ Below w.heap.size w w' := by
  have BA := Lib.hid (show Below w.heap.size w (w.alloc (.cells #[.int .i64 g, .int .i64 h] 3)) from (Below.refl w.heap.size w).alloc (Nat.le_refl _) _)
  have K1 := Lib.hid (hk.below BA.out)
  have LI := Lib.hid (show IsInts (w.alloc (.cells #[.int .i64 g, .int .i64 h] 3)) (.slice (some ⟨w.heap.size, 0, none⟩) 2 2) [g, h] from litI w [g, h] (by simp; exact ⟨hi, hj⟩) (by simp))
  have HTH := Lib.hid (show ([g, h].all fun h => (S h).isSome) = false by rw [all_two]; simpa using hn)
  clear hk hn
  go_enter Try.func46, Try.ntmps46
  go_wp2_with fail
  refine (sHas_any _ [g, h] _ K1.out LI.out).mono ?_
  rintro e w' ⟨rfl, d, rfl⟩
  rw [HTH.out]
  try dsimp only
  go_wp2_with fail
  go_ret2
  exact ⟨rfl, below_drewN BA.out d⟩
set_option maxRecDepth 100000 in
theorem sDrop_ok (h : Int) (l0 : List Int) (w : World) {base kb mb n t last sz : Nat} {S : Int → Option (List Int)} {V : Int → Value} (hk : RefIs w base kb mb n t last sz S V) (hi : I64 h) (hs : S h = some l0) :
    Calls Try.prog 47 #[.pointer (some ⟨kb, 0, none⟩), .int .i64 h] w fun e w' => e = .returned (.int .i64 0) ∧ RefIs w' base kb mb n t last (sz - 1) (upd S h none) V ∧ Near kb mb w w' := by
  have BA := Lib.hid (show Below w.heap.size w (w.alloc (.cells #[.int .i64 h] 3)) from (Below.refl w.heap.size w).alloc (Nat.le_refl _) _)
  have K1 := Lib.hid (hk.below BA.out)
  have LI := Lib.hid (show IsInts (w.alloc (.cells #[.int .i64 h] 3)) (.slice (some ⟨w.heap.size, 0, none⟩) 1 1) [h] from litI w [h] (by simp; exact hi) (by simp))
  have HTH := Lib.hid (show ([h].all fun h => (S h).isSome) = true by rw [all_one, hs]; rfl)
  suffices hgoal : ∀ Post : Ending → World → Prop, (∀ e w', e = .returned (.int .i64 0) ∧ RefIs w' base kb mb n t last (sz - 1) (upd S h none) V ∧ Near kb mb w w' → Post e w') → Calls Try.prog 47 #[.pointer (some ⟨kb, 0, none⟩), .int .i64 h] w Post from hgoal _ fun e w' h => h
  intro Post hpo
  have HP := Lib.hid hpo
  clear hpo hk
  go_enter Try.func47, Try.ntmps47
  go_wp2_with fail
  refine (sHas_any _ [h] _ K1.out LI.out).mono ?_
  rintro e w' ⟨rfl, d, rfl⟩
  rw [HTH.out]
  replace K1 := Lib.hid (K1.out.drewN d)
  replace BA := Lib.hid (below_drewN BA.out d)
  obtain ⟨w1, hw1⟩ : ∃ w1, w1 = (w.alloc (.cells #[.int .i64 h] 3)).drewN d := ⟨_, rfl⟩
  rw [← hw1] at K1 BA ⊢
  clear hw1 LI
  try dsimp only
  obtain ⟨_, hct, _, hm, _⟩ := K1.out.cells
  have hb1 := K1.out.le
  have hb2 := K1.out.lt
  go_wp2_with (at_delete; refine wpList_del_keys rfl _ _ rfl rfl K1.out.store h hi rfl (by rw [hs]; rfl) ?_)
  intro w2 hst hg2
  have K2 := Lib.hid (K1.out.turned hst hg2 (by have := K1.out.sz8; omega) (fun z ys hz => by
    unfold upd at hz
    by_cases he : z = h
    · rw [if_pos he] at hz; cases hz
    · rw [if_neg he] at hz
      exact K1.out.len z ys hz))
  have B2 := Lib.hid (show Near kb mb w w2 from (Near.of_below BA.out).grown hg2 (.inr rfl))
  clear hst hg2 hct hm
  go_wp2_with fail
  exact HP.out _ _ ⟨rfl, K2.out, B2.out⟩
theorem mixed_combine {l0 l1 : List Int} (x y : Int) : mixedL l0 l1 x y 0 = zipS (· + ·) (l0.map fun z => ofF (toF z * toF x)) (l1.map fun z => ofF (toF z * toF y)) := by
  unfold mixedL zipS
  simp only [List.map_map, List.zipWith_map]
  congr 2
  funext a b
  simp only [Function.comp, toF_ofF, toF_zero, F_az]
  grind
theorem mixed_tweak (l : List Int) (x : Int) : mixedL l l 1 0 x = l.map fun y => ofF (toF y + toF x) := by
  unfold mixedL
  rw [List.zipWith_self, List.map_map]
  refine List.map_congr_left fun a _ => ?_
  simp only [Function.comp, toF_one, toF_zero, F_om, F_zm, F_az]
set_option maxRecDepth 100000 in
theorem sCombine_ok (g h x y z : Int) (l0 l1 : List Int) (w : World) {base kb mb n t last sz : Nat} {S : Int → Option (List Int)} {V : Int → Value} (hk : RefIs w base kb mb n t last sz S V) (hi : I64 g) (hj : I64 h) (hs : S g = some l0) (ht0 : S h = some l1) (hx : U64 x) (hy : U64 y) (hz : U64 z) (hlast : last < 1000000) :
    Calls Try.prog 45 #[.pointer (some ⟨kb, 0, none⟩), .int .i64 g, .int .i64 h, .int .u64 x, .int .u64 y, .int .u64 z] w fun e w' => NewRef w base kb mb n t last sz S (mixedL l0 l1 x y z) e w' := by
  have hl0 := (hk.len g l0 hs).1
  have hl1 := (hk.len h l1 ht0).1
  have BA := Lib.hid (show Below w.heap.size w (w.alloc (.cells #[.int .i64 g, .int .i64 h] 3)) from (Below.refl w.heap.size w).alloc (Nat.le_refl _) _)
  have K1 := Lib.hid (hk.below BA.out)
  have LI := Lib.hid (show IsInts (w.alloc (.cells #[.int .i64 g, .int .i64 h] 3)) (.slice (some ⟨w.heap.size, 0, none⟩) 2 2) [g, h] from litI w [g, h] (by simp; exact ⟨hi, hj⟩) (by simp))
  have HTH := Lib.hid (show ([g, h].all fun h => (S h).isSome) = true by rw [all_two, hs, ht0]; rfl)
  have HX := Lib.hid hx
  have HY := Lib.hid hy
  have HZ := Lib.hid hz
  suffices hgoal : ∀ Post : Ending → World → Prop, (∀ e w', NewRef w base kb mb n t last sz S (mixedL l0 l1 x y z) e w' → Post e w') → Calls Try.prog 45 #[.pointer (some ⟨kb, 0, none⟩), .int .i64 g, .int .i64 h, .int .u64 x, .int .u64 y, .int .u64 z] w Post from hgoal _ fun e w' h => h
  intro Post hpo
  have HP := Lib.hid hpo
  clear hpo hk hx hy hz
  go_enter Try.func45, Try.ntmps45
  go_wp2_with fail
  refine (sHas_any _ [g, h] _ K1.out LI.out).mono ?_
  rintro e w' ⟨rfl, d, rfl⟩
  rw [HTH.out]
  replace K1 := Lib.hid (K1.out.drewN d)
  replace BA := Lib.hid (below_drewN BA.out d)
  obtain ⟨w1, hw1⟩ : ∃ w1, w1 = (w.alloc (.cells #[.int .i64 g, .int .i64 h] 3)).drewN d := ⟨_, rfl⟩
  rw [← hw1] at K1 BA ⊢
  clear hw1 LI
  try dsimp only
  obtain ⟨_, hct, _, hm, _⟩ := K1.out.cells
  have hb1 := K1.out.le
  have hb2 := K1.out.lt
  have KQ := Lib.hid (K1.out.drewN 1)
  have hlook : (Instr.lookup 79 (.map (some mb)) (.int .i64 g) false).run Try.prog w1.drew = .ok (V g) w1.drew := KQ.out.store.look hi (by rw [hs]; rfl)
  have hlook2 : (Instr.lookup 79 (.map (some mb)) (.int .i64 h) false).run Try.prog w1.drew = .ok (V h) w1.drew := KQ.out.store.look hj (by rw [ht0]; rfl)
  have KR := Lib.hid (KQ.out.store.rows g l0 hs)
  have KR2 := Lib.hid (KQ.out.store.rows h l1 ht0)
  go_wp2_with fail
  go_region_held3 (fun w' => w'.cell? ⟨kb, 3, none⟩ = some (.map (some mb))) (go_keep) (first | (go_at_call 81; refine (rMixed_any _ _ l0 l1 x y z _ KR.out.is KR2.out.is (by omega) HX.out HY.out HZ.out).mono ?_; rintro e w2 ⟨v, rfl, ho, hb⟩; have q1 := (hb.cell (p := ⟨kb, 3, none⟩) hb2).trans hm; have K2 := Lib.hid (KQ.out.below hb); have B2 := Lib.hid (below_trans (below_drewN BA.out 1) hb BA.out.size); have KV := Lib.hid (ho.less (base' := base) (show base ≤ w1.heap.size by omega)); clear ho hb) | (go_at_call 98; refine (sKeep_any v _ _ K2.out hlast KV.out (by rw [mixedL_length]; omega)).mono ?_; intro e w3 hnk; obtain ⟨z', er, rfl⟩ := hnk.form; have q2 := hnk.cell.1; have NK := Lib.hid hnk; clear hnk))
  all_goals (
    clear hlook hlook2 hct hm q1 q2
    try dsimp only
    go_wp2_with fail
    exact HP.out _ _ (NK.out.after (Near.of_below B2.out)))
set_option maxRecDepth 100000 in
theorem sMultiply_bad (g h : Int) (vd : Value) (ds l0 l1 : List Int) (w : World) {base kb mb n t last sz : Nat} {S : Int → Option (List Int)} {V : Int → Value} (hk : RefIs w base kb mb n t last sz S V) (hi : I64 g) (hj : I64 h) (hs : S g = some l0) (ht0 : S h = some l1) (hd : IsNums w vd ds) (hdl : ds.length ≠ n * t) (ht : t ≤ 4) (hn9 : n ≤ 9) :
    Calls Try.prog 46 #[.pointer (some ⟨kb, 0, none⟩), .int .i64 g, .int .i64 h, vd] w fun e w' => e = .returned (.tuple #[.int .i64 0, .int .i64 1]) ∧ Below w.heap.size w w' := by
  have BA := Lib.hid (show Below w.heap.size w (w.alloc (.cells #[.int .i64 g, .int .i64 h] 3)) from (Below.refl w.heap.size w).alloc (Nat.le_refl _) _)
  have K1 := Lib.hid (hk.below BA.out)
  have LI := Lib.hid (show IsInts (w.alloc (.cells #[.int .i64 g, .int .i64 h] 3)) (.slice (some ⟨w.heap.size, 0, none⟩) 2 2) [g, h] from litI w [g, h] (by simp; exact ⟨hi, hj⟩) (by simp))
  have HTH := Lib.hid (show ([g, h].all fun h => (S h).isSome) = true by rw [all_two, hs, ht0]; rfl)
  obtain ⟨A, c, rfl, hc1, hm1, hl1, hu1, hr1⟩ := hd
  obtain ⟨m, hm⟩ : ∃ m, n * t = m := ⟨_, rfl⟩
  have hmul : (n : Int) * (t : Int) = (m : Int) := by rw [← hm]; simp
  have hmb : m ≤ 36 := by rw [← hm]; exact Nat.le_trans (Nat.mul_le_mul hn9 ht) (by omega)
  rw [hm] at hdl
  have hne : ((ds.length : Int) != (m : Int)) = true := by rw [bne_iff_ne]; omega
  clear hk hu1 hr1 hm1 hm hdl
  go_enter Try.func46, Try.ntmps46
  go_wp2_with fail
  refine (sHas_any _ [g, h] _ K1.out LI.out).mono ?_
  rintro e w' ⟨rfl, d, rfl⟩
  rw [HTH.out]
  replace K1 := Lib.hid (K1.out.drewN d)
  replace BA := Lib.hid (below_drewN BA.out d)
  obtain ⟨w1, hw1⟩ : ∃ w1, w1 = (w.alloc (.cells #[.int .i64 g, .int .i64 h] 3)).drewN d := ⟨_, rfl⟩
  rw [← hw1] at K1 BA ⊢
  clear hw1 LI
  try dsimp only
  obtain ⟨hc0, hct, _, _, _⟩ := K1.out.cells
  go_wp2_with fail
  go_quiet (fail)
  go_wp2_with fail
  go_ret2
  exact ⟨rfl, below_drewN BA.out _⟩
set_option maxRecDepth 100000 in
theorem sMultiply_ok (g h : Int) (vd : Value) (ds l0 l1 : List Int) (w : World) {base kb mb n t last sz : Nat} {S : Int → Option (List Int)} {V : Int → Value} (hk : RefIs w base kb mb n t last sz S V) (hi : I64 g) (hj : I64 h) (hs : S g = some l0) (ht0 : S h = some l1) (hd : IsNums w vd ds) (hdl : ds.length = n * t) (ht : t ≤ 4) (hn1 : 1 ≤ n) (hn9 : n ≤ 9) (hlast : last < 1000000) :
    Calls Try.prog 46 #[.pointer (some ⟨kb, 0, none⟩), .int .i64 g, .int .i64 h, vd] w fun e w' => NewRef w base kb mb n t last sz S (ofFs (mulOut n t (toFs l0) (toFs l1) (toFs ds))) e w' := by
  have hl0 := (hk.len g l0 hs).1
  have hl1 := (hk.len h l1 ht0).1
  have BA := Lib.hid (show Below w.heap.size w (w.alloc (.cells #[.int .i64 g, .int .i64 h] 3)) from (Below.refl w.heap.size w).alloc (Nat.le_refl _) _)
  have K1 := Lib.hid (hk.below BA.out)
  have KD := Lib.hid (hd.below BA.out)
  have LI := Lib.hid (show IsInts (w.alloc (.cells #[.int .i64 g, .int .i64 h] 3)) (.slice (some ⟨w.heap.size, 0, none⟩) 2 2) [g, h] from litI w [g, h] (by simp; exact ⟨hi, hj⟩) (by simp))
  have HTH := Lib.hid (show ([g, h].all fun h => (S h).isSome) = true by rw [all_two, hs, ht0]; rfl)
  have HDL := Lib.hid hdl
  obtain ⟨A, c, rfl, hc1, hm1, hlx, hu1, hr1⟩ := hd
  have hmul : (n : Int) * (t : Int) = (ds.length : Int) := by rw [hdl]; simp
  suffices hgoal : ∀ Post : Ending → World → Prop, (∀ e w', NewRef w base kb mb n t last sz S (ofFs (mulOut n t (toFs l0) (toFs l1) (toFs ds))) e w' → Post e w') → Calls Try.prog 46 #[.pointer (some ⟨kb, 0, none⟩), .int .i64 g, .int .i64 h, .slice A ds.length c] w Post from hgoal _ fun e w' h => h
  intro Post hpo
  have HP := Lib.hid hpo
  clear hpo hk hu1 hr1 hm1 hdl
  go_enter Try.func46, Try.ntmps46
  go_wp2_with fail
  refine (sHas_any _ [g, h] _ K1.out LI.out).mono ?_
  rintro e w' ⟨rfl, d, rfl⟩
  rw [HTH.out]
  replace K1 := Lib.hid (K1.out.drewN d)
  replace KD := Lib.hid (KD.out.drewN d)
  replace BA := Lib.hid (below_drewN BA.out d)
  obtain ⟨w1, hw1⟩ : ∃ w1, w1 = (w.alloc (.cells #[.int .i64 g, .int .i64 h] 3)).drewN d := ⟨_, rfl⟩
  rw [← hw1] at K1 BA KD ⊢
  clear hw1 LI
  try dsimp only
  obtain ⟨hc0, hct, _, hm, _⟩ := K1.out.cells
  have hb1 := K1.out.le
  have hb2 := K1.out.lt
  go_wp2_with fail
  go_quiet (fail)
  replace K1 := Lib.hid (K1.out.drewN nq)
  replace KD := Lib.hid (KD.out.drewN nq)
  replace BA := Lib.hid (below_drewN BA.out nq)
  obtain ⟨w2, hw2⟩ : ∃ w2, w2 = w1.drewN nq := ⟨_, rfl⟩
  have hs2 : w2.heap.size = w1.heap.size := by rw [hw2]; rfl
  rw [← hw2] at K1 BA KD ⊢
  clear hw2 hc0 hct hm
  obtain ⟨hc0, hct, _, hm, _⟩ := K1.out.cells
  have KQ := Lib.hid (K1.out.drewN 1)
  have hlook : (Instr.lookup 79 (.map (some mb)) (.int .i64 g) false).run Try.prog w2.drew = .ok (V g) w2.drew := KQ.out.store.look hi (by rw [hs]; rfl)
  have hlook2 : (Instr.lookup 79 (.map (some mb)) (.int .i64 h) false).run Try.prog w2.drew = .ok (V h) w2.drew := KQ.out.store.look hj (by rw [ht0]; rfl)
  have KR := Lib.hid (KQ.out.store.rows g l0 hs)
  have KR2 := Lib.hid (KQ.out.store.rows h l1 ht0)
  have KDQ := Lib.hid (KD.out.drewN 1)
  have hkb2 := K1.out.lt
  go_wp2_with fail
  go_region_held3 (fun w' => w'.cell? ⟨kb, 1, none⟩ = some (.int .i64 t) ∧ w'.cell? ⟨kb, 3, none⟩ = some (.map (some mb))) (go_keep) (first | (go_at_call 82; refine (rTimes_ok n t _ _ _ l0 l1 ds _ KR.out.is KR2.out.is KDQ.out hl0 hl1 HDL.out ht hn1 hn9).mono ?_; rintro e w3 ⟨v, vg, vs, rfl, ho, _, hb⟩; have q0 := (hb.cell (p := ⟨kb, 1, none⟩) hkb2).trans hct; have q1 := (hb.cell (p := ⟨kb, 3, none⟩) hkb2).trans hm; have HO2 := Lib.hid ho; have HB3 := Lib.hid hb; clear ho hb))
  all_goals (
    have K2 := Lib.hid (KQ.out.below HB3.out)
    have B2 := Lib.hid (below_trans (below_drewN BA.out 1) HB3.out BA.out.size)
    have KV := Lib.hid (HO2.out.less (base' := base) (show base ≤ w2.heap.size by omega))
    clear hlook hlook2 hct hm q0 q1 HO2 HB3
    try dsimp only
    go_wp2_with fail
    refine (sKeep_any v _ _ K2.out hlast KV.out (by rw [ofFs_length]; simp [mulOut, gotM])).mono ?_
    intro e w4 hnk
    obtain ⟨z', er, rfl⟩ := hnk.form
    have NK := Lib.hid hnk
    clear hnk
    try dsimp only
    go_wp2_with fail
    exact HP.out _ _ (NK.out.after (Near.of_below B2.out)))
set_option maxRecDepth 100000 in
theorem sRefresh_bad (h : Int) (vd : Value) (ds l0 : List Int) (w : World) {base kb mb n t last sz : Nat} {S : Int → Option (List Int)} {V : Int → Value} (hk : RefIs w base kb mb n t last sz S V) (hi : I64 h) (hs : S h = some l0) (hd : IsNums w vd ds) (hdl : ds.length ≠ n * t) (ht : t ≤ 4) (hn9 : n ≤ 9) :
    Calls Try.prog 44 #[.pointer (some ⟨kb, 0, none⟩), .int .i64 h, vd] w fun e w' => e = .returned (.int .i64 1) ∧ Below w.heap.size w w' := by
  have BA := Lib.hid (show Below w.heap.size w (w.alloc (.cells #[.int .i64 h] 3)) from (Below.refl w.heap.size w).alloc (Nat.le_refl _) _)
  have K1 := Lib.hid (hk.below BA.out)
  have LI := Lib.hid (show IsInts (w.alloc (.cells #[.int .i64 h] 3)) (.slice (some ⟨w.heap.size, 0, none⟩) 1 1) [h] from litI w [h] (by simp; exact hi) (by simp))
  have HTH := Lib.hid (show ([h].all fun h => (S h).isSome) = true by rw [all_one, hs]; rfl)
  obtain ⟨A, c, rfl, hc1, hm1, hl1, hu1, hr1⟩ := hd
  obtain ⟨m, hm⟩ : ∃ m, n * t = m := ⟨_, rfl⟩
  have hmul : (n : Int) * (t : Int) = (m : Int) := by rw [← hm]; simp
  have hmb : m ≤ 36 := by rw [← hm]; exact Nat.le_trans (Nat.mul_le_mul hn9 ht) (by omega)
  rw [hm] at hdl
  have hne : ((ds.length : Int) != (m : Int)) = true := by rw [bne_iff_ne]; omega
  clear hk hu1 hr1 hm1 hm hdl
  go_enter Try.func44, Try.ntmps44
  go_wp2_with fail
  refine (sHas_any _ [h] _ K1.out LI.out).mono ?_
  rintro e w' ⟨rfl, d, rfl⟩
  rw [HTH.out]
  replace K1 := Lib.hid (K1.out.drewN d)
  replace BA := Lib.hid (below_drewN BA.out d)
  obtain ⟨w1, hw1⟩ : ∃ w1, w1 = (w.alloc (.cells #[.int .i64 h] 3)).drewN d := ⟨_, rfl⟩
  rw [← hw1] at K1 BA ⊢
  clear hw1 LI
  try dsimp only
  obtain ⟨hc0, hct, _, _, _⟩ := K1.out.cells
  go_wp2_with fail
  go_quiet (fail)
  go_wp2_with fail
  go_ret
  exact ⟨rfl, below_drewN BA.out _⟩
set_option maxRecDepth 100000 in
set_option maxHeartbeats 2000000 in
theorem sRefresh_ok (h : Int) (vd : Value) (ds l0 : List Int) (w : World) {base kb mb n t last sz : Nat} {S : Int → Option (List Int)} {V : Int → Value} (hk : RefIs w base kb mb n t last sz S V) (hi : I64 h) (hs : S h = some l0) (hd : IsNums w vd ds) (hdl : ds.length = n * t) (ht : t ≤ 4) (hn9 : n ≤ 9) :
    Calls Try.prog 44 #[.pointer (some ⟨kb, 0, none⟩), .int .i64 h, vd] w fun e w' => e = .returned (.int .i64 0) ∧ (∃ V', RefIs w' base kb mb n t last sz (upd S h (some (ofFs (List.zipWith (· + ·) (toFs l0) (sumD n (refP t ds) n))))) V') ∧ Near kb mb w w' := by
  have hl0 := (hk.len h l0 hs).1
  have hk1 := (hk.len h l0 hs).2
  have HU0 := Lib.hid (hk.store.rows h l0 hs)
  have BA := Lib.hid (show Below w.heap.size w (w.alloc (.cells #[.int .i64 h] 3)) from (Below.refl w.heap.size w).alloc (Nat.le_refl _) _)
  have K1 := Lib.hid (hk.below BA.out)
  have KD := Lib.hid (hd.below BA.out)
  have LI := Lib.hid (show IsInts (w.alloc (.cells #[.int .i64 h] 3)) (.slice (some ⟨w.heap.size, 0, none⟩) 1 1) [h] from litI w [h] (by simp; exact hi) (by simp))
  have HTH := Lib.hid (show ([h].all fun h => (S h).isSome) = true by rw [all_one, hs]; rfl)
  have HDL := Lib.hid hdl
  obtain ⟨A, c, rfl, hc1, hm1, hlx, hu1, hr1⟩ := hd
  have hmul : (n : Int) * (t : Int) = (ds.length : Int) := by rw [hdl]; simp
  suffices hgoal : ∀ Post : Ending → World → Prop, (∀ e w', e = .returned (.int .i64 0) ∧ (∃ V', RefIs w' base kb mb n t last sz (upd S h (some (ofFs (List.zipWith (· + ·) (toFs l0) (sumD n (refP t ds) n))))) V') ∧ Near kb mb w w' → Post e w') → Calls Try.prog 44 #[.pointer (some ⟨kb, 0, none⟩), .int .i64 h, .slice A ds.length c] w Post from hgoal _ fun e w' h => h
  intro Post hpo
  have HP := Lib.hid hpo
  have HS := Lib.hid hs
  clear hpo hk hu1 hr1 hm1 hdl hs
  go_enter Try.func44, Try.ntmps44
  go_wp2_with fail
  refine (sHas_any _ [h] _ K1.out LI.out).mono ?_
  rintro e w' ⟨rfl, d, rfl⟩
  rw [HTH.out]
  replace K1 := Lib.hid (K1.out.drewN d)
  replace KD := Lib.hid (KD.out.drewN d)
  replace BA := Lib.hid (below_drewN BA.out d)
  obtain ⟨w1, hw1⟩ : ∃ w1, w1 = (w.alloc (.cells #[.int .i64 h] 3)).drewN d := ⟨_, rfl⟩
  rw [← hw1] at K1 BA KD ⊢
  clear hw1 LI
  try dsimp only
  obtain ⟨hc0, hct, _, hm, _⟩ := K1.out.cells
  go_wp2_with fail
  go_quiet (fail)
  replace K1 := Lib.hid (K1.out.drewN nq)
  replace KD := Lib.hid (KD.out.drewN nq)
  replace BA := Lib.hid (below_drewN BA.out nq)
  obtain ⟨w2, hw2⟩ : ∃ w2, w2 = w1.drewN nq := ⟨_, rfl⟩
  rw [← hw2] at K1 BA KD ⊢
  clear hw2 hc0 hct hm
  obtain ⟨hc0, hct, _, hm, _⟩ := K1.out.cells
  have hb1 := K1.out.le
  have hb2 := K1.out.lt
  have KQ := Lib.hid (K1.out.drewN 1)
  have KDQ := Lib.hid (KD.out.drewN 1)
  have hlook : (Instr.lookup 79 (.map (some mb)) (.int .i64 h) false).run Try.prog w2.drew = .ok (V h) w2.drew := KQ.out.store.look hi (by rw [HS.out]; rfl)
  have HNE := Lib.hid (show some kb ≠ some mb from fun e => KQ.out.ne (by injection e))
  have hls : (toFs l0).length = n := by rw [toFs_length]; exact hl0
  have HADD := Lib.hid (show mixedL l0 (ofFs (sumD n (refP t ds) n)) 1 1 0 = ofFs (List.zipWith (· + ·) (toFs l0) (sumD n (refP t ds) n)) by
    unfold mixedL ofFs toFs
    rw [List.zipWith_map_right, List.zipWith_map_left, show (fun x y => toF 1 * toF x + toF 1 * toF (ofF y) + toF 0) = (fun (x : Int) (y : F) => toF x + y) from by funext x y; rw [toF_ofF, F_one_l]])
  go_wp2_with fail
  go_region_held3 (fun w' => w'.cell? ⟨kb, 3, none⟩ = some (.map (some mb))) (go_keep) (first | (go_at_call 99; refine (sSums_false _ ds _ KQ.out KDQ.out HDL.out ht hn9).mono ?_; rintro e w5 ⟨v5, rfl, ho5, hb5⟩; have K5 := Lib.hid (KQ.out.below hb5); have hlook5 := K5.out.store.look hi (by rw [HS.out]; rfl); have q5 := (hb5.cell (p := ⟨kb, 3, none⟩) hb2).trans hm; have HO5 := Lib.hid ho5; have B5 := Lib.hid (below_trans (below_drewN BA.out 1) hb5 BA.out.size); have KR := Lib.hid (K5.out.store.rows h l0 HS.out); clear ho5 hb5) | (go_at_call 81; refine (rMixed_any _ _ l0 _ 1 1 0 _ KR.out.is HO5.out.is (by rw [ofFs_length, sumD_length]; omega) ⟨by omega, by omega⟩ ⟨by omega, by omega⟩ ⟨by omega, by omega⟩).mono ?_; rintro e w6 ⟨v6, rfl, ho6, hb6⟩; rw [HADD.out] at ho6; have K6 := Lib.hid (K5.out.below hb6); have hb5' := K5.out.lt; have q6 := (hb6.cell (p := ⟨kb, 3, none⟩) hb5').trans q5; obtain ⟨w7, hrun7, hst7, hg7⟩ := K6.out.store.store_run K6.out.sz8 hi (ho6.less (base' := base) (Nat.le_trans K5.out.le (Nat.le_of_lt K5.out.lt))) (by rw [HS.out]; rfl); have q7 := (World.cell?_of_block (a := ⟨kb, 3, none⟩) (hg7.block kb (Nat.lt_of_lt_of_le hb5' hb6.size) HNE.out)).trans q6; have HST := Lib.hid hst7; have HG := Lib.hid hg7; have B6 := Lib.hid (below_trans B5.out hb6 B5.out.size); clear ho6 hb6 hst7 hg7))
  all_goals (
    have hll : (ofFs (List.zipWith (· + ·) (toFs l0) (sumD n (refP t ds) n))).length = n := by rw [ofFs_length, List.length_zipWith, toFs_length, sumD_length]; omega
    have K7 := Lib.hid (K6.out.turned HST.out HG.out K6.out.sz8 (fun z ys hz => by
      unfold upd at hz
      by_cases he : z = h
      · rw [if_pos he] at hz
        injection hz with hz
        subst hz he
        exact ⟨hll, hk1⟩
      · rw [if_neg he] at hz
        exact K6.out.len z ys hz))
    have B7 := Lib.hid (show Near kb mb w w7 from (Near.of_below B6.out).grown HG.out (.inr rfl))
    clear hlook hlook5 hm q5 q6 q7 HST HG B6 KR hc0 hct
    try dsimp only
    go_wp2_with fail
    exact HP.out _ _ ⟨rfl, ⟨_, K7.out⟩, B7.out⟩)
end Go.Proofs.Ytegmeepogjijiaa
namespace Go.Proofs.Ytegmeepogjijiaa
open Go.RowKit Go.Maps Croft

set_option maxRecDepth 100000 in
set_option maxHeartbeats 1000000 in
theorem sStOpen_ok (h : Int) (l0 : List Int) (x : F) (w : World) {base kb mb n t last sz : Nat} {S : Int → Option (List Int)} {V : Int → Value} (hk : RefIs w base kb mb n t last sz S V) (hi : I64 h) (hs : S h = some l0) (hsh : Shared n t (toFs l0) x) (ht : t ≤ 4) (htn : t + 1 ≤ n) (hn9 : n ≤ 9) :
    Calls Try.prog 48 #[.pointer (some ⟨kb, 0, none⟩), .int .i64 h] w fun e w' => e = .returned (.tuple #[.int .u64 (ofF x), .int .i64 0]) ∧ Below w.heap.size w w' := by
  have hl0 := (hk.len h l0 hs).1
  obtain ⟨Q, hQ, hQl, hQx⟩ := open_shared hsh htn
  have HQ := Lib.hid (show Interp (ptsF (shL l0)) Q by rw [shL_pts, hl0]; exact hQ)
  have HXE := Lib.hid (show openX t Q = ofF x ∧ openE t Q = 0 from ⟨by unfold openX; rw [if_neg (by omega), hQx], by unfold openE; rw [if_neg (by omega)]⟩)
  have HCK := Lib.hid (shL_ok ht (by omega) (by omega) : checkE t (shL l0) = 0)
  clear hQ hQl hQx hsh
  have BA := Lib.hid (show Below w.heap.size w (w.alloc (.cells #[.int .i64 h] 3)) from (Below.refl w.heap.size w).alloc (Nat.le_refl _) _)
  have K1 := Lib.hid (hk.below BA.out)
  have LI := Lib.hid (show IsInts (w.alloc (.cells #[.int .i64 h] 3)) (.slice (some ⟨w.heap.size, 0, none⟩) 1 1) [h] from litI w [h] (by simp; exact hi) (by simp))
  have HTH := Lib.hid (show ([h].all fun h => (S h).isSome) = true by rw [all_one, hs]; rfl)
  have HS := Lib.hid hs
  suffices hgoal : ∀ Post : Ending → World → Prop, (∀ e w', e = .returned (.tuple #[.int .u64 (ofF x), .int .i64 0]) ∧ Below w.heap.size w w' → Post e w') → Calls Try.prog 48 #[.pointer (some ⟨kb, 0, none⟩), .int .i64 h] w Post from hgoal _ fun e w' h => h
  intro Post hpo
  have HP := Lib.hid hpo
  clear hpo hk hs
  go_enter Try.func48, Try.ntmps48
  go_wp2_with fail
  refine (sHas_any _ [h] _ K1.out LI.out).mono ?_
  rintro e w' ⟨rfl, d, rfl⟩
  rw [HTH.out]
  replace K1 := Lib.hid (K1.out.drewN d)
  replace BA := Lib.hid (below_drewN BA.out d)
  obtain ⟨w1, hw1⟩ : ∃ w1, w1 = (w.alloc (.cells #[.int .i64 h] 3)).drewN d := ⟨_, rfl⟩
  rw [← hw1] at K1 BA ⊢
  clear hw1 LI
  try dsimp only
  have KR := Lib.hid (K1.out.store.rows h l0 HS.out)
  obtain ⟨gr, cr, hvr, hgr1, hgr2⟩ := own_slice KR.out.1 (by rw [hl0]; omega)
  have KI := Lib.hid KR.out.is
  rw [hvr] at KI
  have HVR := Lib.hid hvr
  clear hvr hgr1 hgr2 KR
  go_wp2_with fail
  go_loopw [6, 7] (fun v i wr => ∃ k : Nat, k ≤ n ∧ i = .int .i64 k ∧ OwnShares wr w1.heap.size v (shL (l0.take k)) ∧ Below w1.heap.size w1 wr) (fun _ i _ => n - (intOf i).toNat)
  case atStart => exact ⟨0, Nat.zero_le _, rfl, OwnShares.nil _ _, Below.refl _ _⟩
  case round =>
    obtain ⟨k, hk, rfl, hown, hbel⟩ := hrel
    have KO := Lib.hid hown
    have BEL := Lib.hid hbel
    have hsz := hbel.size
    have KKr := Lib.hid (K1.out.below hbel)
    obtain ⟨hc0, hct, _, hm, _⟩ := KKr.out.cells
    clear hown hbel
    by_cases hlt : k < n
    · have hlook := KKr.out.store.look hi (by rw [HS.out]; rfl)
      rw [HVR.out] at hlook
      obtain ⟨A, c, hA, _, _, _, hu, hr⟩ := KI.out.below BEL.out
      injection hA with hA1 hA2 hA3
      subst hA1 hA3
      obtain ⟨b1, o1, z, hbb, hb9, hgk, huz, hca⟩ := nums_at hr hu (show k < l0.length by omega)
      injection hbb with hbb
      injection hbb with hbb1 hbb2 _
      subst hbb1 hbb2
      rw [Nat.zero_add] at hca
      rw [hl0] at hlook
      have HT := Lib.hid (shL_next hgk)
      have HSL := Lib.hid (show (shL (l0.take k)).length = k by rw [shL_length, List.length_take]; omega)
      clear hr hu hgk hb9 hA2
      go_wp2_with (at_builtin; go_loud (refine wpList_push_share rfl _ _ rfl w1.heap.size _ _ ((k : Int) + 1) z wr.heap.size 1 rfl (KO.out.alloc _) rfl (pair_cell0 _ _ _ _) (pair_cell1 _ _ _ _) (by unfold I64; omega) huz (by rw [HSL.out]; omega) (by rw [size_alloc]; omega) ?_))
      intro v' w5 hown' hbel'
      rw [← HT.out] at hown'
      have K5 := Lib.hid hown'
      have B5 := Lib.hid ((BEL.out.alloc hsz (.cells #[.int .i64 ((k : Int) + 1), .int .u64 z] 95)).trans hbel')
      clear hown' hbel'
      go_wp2_with fail
      exact ⟨⟨k + 1, by omega, by go_num, K5.out, B5.out⟩, by simp [intOf] <;> omega⟩
    · obtain rfl : k = n := by omega
      have HT := Lib.hid (show l0.take k = l0 from by rw [← hl0]; exact List.take_length)
      rw [HT.out] at KO
      go_wp2_with fail
      refine (rOpen_ok t _ _ Q _ KO.out.is HCK.out HQ.out).mono ?_
      rintro e w9 ⟨rfl, hb9⟩
      rw [HXE.out.1, HXE.out.2]
      have B9 := Lib.hid (below_trans BA.out (below_trans BEL.out hb9 hsz) BA.out.size)
      clear hb9
      try dsimp only
      go_wp2_with fail
      exact HP.out _ _ ⟨rfl, B9.out⟩
set_option maxRecDepth 100000 in
theorem kGen_bad (vd : Value) (ds : List Int) (w : World) {base kb mb n t last sz : Nat} {S : Int → Option (List Int)} {V : Int → Value} (hk : KeysIs w base kb mb n t last sz S V) (h1 : IsNums w vd ds) (hl : ds.length ≠ n * (t + 1)) (ht : t ≤ 4) (hn9 : n ≤ 9) :
    Calls Try.prog 11 #[.pointer (some ⟨kb, 0, none⟩), vd] w fun e w' => e = .returned (.tuple #[.int .i64 0, .int .i64 1]) ∧ Below w.heap.size w w' := by
  have KK := Lib.hid hk
  obtain ⟨A, c, rfl, hc1, hm1, hl1, hu1, hr1⟩ := h1
  obtain ⟨hc0, hct, _, hm, _⟩ := hk.cells
  have hkb := hk.lt
  obtain ⟨m, hme⟩ : ∃ m, n * (t + 1) = m := ⟨_, rfl⟩
  have hmul : (n : Int) * ((t : Int) + 1) = (m : Int) := by rw [← hme]; simp
  have hmb : m ≤ 45 := by rw [← hme]; exact Nat.le_trans (Nat.mul_le_mul hn9 (show t + 1 ≤ 5 by omega)) (by omega)
  rw [hme] at hl
  have hne : ((ds.length : Int) != (m : Int)) = true := by rw [bne_iff_ne]; omega
  clear hk hr1 hu1 hm1 hl hme
  go_enter Try.func11, Try.ntmps11
  go_wp2_with fail
  have BW := Lib.hid (((Below.refl w.heap.size w).alloc (Nat.le_refl _) (.cells #[.slice A ds.length c] 22)).alloc (by simp) (.cells #[.int .i64 ((t : Int) + 1)] 3))
  have Q0 := Lib.hid (show ((w.alloc (.cells #[.slice A ds.length c] 22)).alloc (.cells #[.int .i64 ((t : Int) + 1)] 3)).cell? ⟨w.heap.size, 0, none⟩ = some (.slice A ds.length c) by
    rw [World.cell?_alloc_lt (a := ⟨w.heap.size, 0, none⟩) (h := by simp)]
    exact new_cell _ _ _)
  have Q1 := Lib.hid (show ((w.alloc (.cells #[.slice A ds.length c] 22)).alloc (.cells #[.int .i64 ((t : Int) + 1)] 3)).cell? ⟨w.heap.size + 1, 0, none⟩ = some (.int .i64 ((t : Int) + 1)) by
    have := new_cell (w.alloc (.cells #[.slice A ds.length c] 22)) (.int .i64 ((t : Int) + 1)) 3
    rw [size_alloc] at this
    exact this)
  obtain ⟨W3, hW3⟩ : ∃ W3, W3 = (w.alloc (.cells #[.slice A ds.length c] 22)).alloc (.cells #[.int .i64 ((t : Int) + 1)] 3) := ⟨_, rfl⟩
  rw [← hW3] at BW Q0 Q1 ⊢
  have KK3 := Lib.hid (KK.out.below BW.out)
  clear hW3 hc0 hct hm
  obtain ⟨hc0, hct, _, hm, _⟩ := KK3.out.cells
  have hq0 := Q0.out
  have hq1 := Q1.out
  go_quiet (fail)
  go_wp2_with fail
  go_ret2
  exact ⟨rfl, below_drewN BW.out nq⟩
set_option maxRecDepth 100000 in
theorem kRefresh_bad (h : Int) (vd : Value) (ds l0 : List Int) (w : World) {base kb mb n t last sz : Nat} {S : Int → Option (List Int)} {V : Int → Value} (hk : KeysIs w base kb mb n t last sz S V) (hi : I64 h) (hs : S h = some l0) (hd : IsNums w vd ds) (hdl : ds.length ≠ n * t) (ht : t ≤ 4) (hn9 : n ≤ 9) :
    Calls Try.prog 18 #[.pointer (some ⟨kb, 0, none⟩), .int .i64 h, vd] w fun e w' => e = .returned (.int .i64 1) ∧ Below w.heap.size w w' := by
  have HTH := Lib.hid (show thereE S [h] = 0 from by rw [thereE_one, if_pos (by simp [hs])])
  obtain ⟨A, c, rfl, hc1, hm1, hl1, hu1, hr1⟩ := hd
  obtain ⟨m, hme⟩ : ∃ m, n * t = m := ⟨_, rfl⟩
  have hmul : (n : Int) * (t : Int) = (m : Int) := by rw [← hme]; simp
  have hmb : m ≤ 36 := by rw [← hme]; exact Nat.le_trans (Nat.mul_le_mul hn9 ht) (by omega)
  rw [hme] at hdl
  have hne : ((ds.length : Int) != (m : Int)) = true := by rw [bne_iff_ne]; omega
  have BA := Lib.hid ((((Below.refl w.heap.size w).alloc (Nat.le_refl _) (.cells #[.pointer (some ⟨kb, 0, none⟩)] 24)).alloc (by simp) (.cells #[.slice A ds.length c] 22)).alloc (by simp; omega) (.cells #[.int .i64 h] 3))
  have LI := Lib.hid (show IsInts (((w.alloc (.cells #[.pointer (some ⟨kb, 0, none⟩)] 24)).alloc (.cells #[.slice A ds.length c] 22)).alloc (.cells #[.int .i64 h] 3)) (.slice (some ⟨w.heap.size + 1 + 1, 0, none⟩) 1 1) [h] from by
    have := litI ((w.alloc (.cells #[.pointer (some ⟨kb, 0, none⟩)] 24)).alloc (.cells #[.slice A ds.length c] 22)) [h] (by simp; exact hi) (by simp)
    rw [size_alloc, size_alloc] at this
    exact this)
  have Q0 := Lib.hid (show (((w.alloc (.cells #[.pointer (some ⟨kb, 0, none⟩)] 24)).alloc (.cells #[.slice A ds.length c] 22)).alloc (.cells #[.int .i64 h] 3)).cell? ⟨w.heap.size, 0, none⟩ = some (.pointer (some ⟨kb, 0, none⟩)) by
    rw [World.cell?_alloc_lt (a := ⟨w.heap.size, 0, none⟩) (h := by simp; omega), World.cell?_alloc_lt (a := ⟨w.heap.size, 0, none⟩) (h := by simp)]
    exact new_cell _ _ _)
  have Q1 := Lib.hid (show (((w.alloc (.cells #[.pointer (some ⟨kb, 0, none⟩)] 24)).alloc (.cells #[.slice A ds.length c] 22)).alloc (.cells #[.int .i64 h] 3)).cell? ⟨w.heap.size + 1, 0, none⟩ = some (.slice A ds.length c) by
    rw [World.cell?_alloc_lt (a := ⟨w.heap.size + 1, 0, none⟩) (h := by simp)]
    have := new_cell (w.alloc (.cells #[.pointer (some ⟨kb, 0, none⟩)] 24)) (.slice A ds.length c) 22
    rw [size_alloc] at this
    exact this)
  have K1 := Lib.hid (hk.below BA.out)
  clear hk hr1 hu1 hm1 hdl hme
  go_enter Try.func18, Try.ntmps18
  go_wp2_with fail
  refine (kThere_any _ [h] _ K1.out LI.out).mono ?_
  rintro e w' ⟨rfl, rfl⟩
  rw [HTH.out]
  obtain ⟨w1, hw1⟩ : ∃ w1, w1 = ((w.alloc (.cells #[.pointer (some ⟨kb, 0, none⟩)] 24)).alloc (.cells #[.slice A ds.length c] 22)).alloc (.cells #[.int .i64 h] 3) := ⟨_, rfl⟩
  rw [← hw1] at K1 BA Q0 Q1 ⊢
  clear hw1 LI
  obtain ⟨hc0, hct, _, hm, _⟩ := K1.out.cells
  have hq0 := Q0.out
  have hq1 := Q1.out
  try dsimp only
  go_wp2_with fail
  go_quiet (fail)
  go_wp2_with fail
  go_ret
  exact ⟨rfl, below_drewN BA.out nq⟩
theorem lens2K {w : World} {A B : Option Addr} {n c m d : Nat} (h : n ≤ 17592186043904) (h2 : m ≤ 17592186043904) : LensAt (w.alloc (.cells #[.slice A n c, .slice B m d] 22)) w.heap.size 0 [n, m] := by
  refine ⟨by simp, fun j k hj => ?_⟩
  match j, hj with
  | 0, hj => simp at hj; subst hj; exact ⟨A, c, by simp, h⟩
  | 1, hj => simp at hj; subst hj; exact ⟨B, d, by simp, h2⟩
set_option maxRecDepth 100000 in
theorem gMul_drawsK (t : Int) (va vb vd : Value) (xs ys ds : List Int) (w : World) (h1 : IsNums w va xs) (h2 : IsNums w vb ys) (h3 : IsNums w vd ds) (ht : 0 ≤ t ∧ t ≤ 4) (hw : wireB [xs.length, ys.length] = true) (hx9 : xs.length ≤ 9) (hn : ¬ ((xs.length : Int) < 2 * t + 1)) (hd : (ds.length : Int) ≠ xs.length * t) :
    Calls Try.prog 34 #[.int .i64 t, va, vb, vd] w fun e w' => e = .returned (.tuple #[.slice none 0 0, .slice none 0 0, .int .i64 1]) ∧ Below w.heap.size w w' := by
  obtain ⟨A1, c1, rfl, hc1, hm1, hl1, hu1, hr1⟩ := h1
  obtain ⟨A2, c2, rfl, hc2, hm2, hl2, hu2, hr2⟩ := h2
  obtain ⟨A3, c3, rfl, hc3, hm3, hl3, hu3, hr3⟩ := h3
  clear hu1 hr1 hm1 hu2 hr2 hm2 hu3 hr3 hm3
  obtain ⟨ht1, ht2⟩ := ht
  have hd1 : decide (t < 0) = false := by simpa using ht1
  have hd2 : decide (t > 4) = false := by simpa using ht2
  have HE := Lib.hid (show wireE [xs.length, ys.length] = 0 by unfold wireE; rw [hw]; rfl)
  have hd3 : decide ((xs.length : Int) < 2 * t + 1) = false := by simpa using hn
  obtain ⟨T, rfl⟩ := Int.eq_ofNat_of_zero_le ht1
  have hT : T ≤ 4 := by omega
  have hnT : xs.length * T ≤ 36 := Nat.mul_le_mul hx9 hT
  have hnT0 : 0 ≤ (xs.length : Int) * (T : Int) ∧ (xs.length : Int) * (T : Int) ≤ 36 := by rw [show (xs.length : Int) * (T : Int) = ((xs.length * T : Nat) : Int) by simp]; omega
  have hdb : ((ds.length : Int) != (xs.length : Int) * (T : Int)) = true := by rw [bne_iff_ne]; exact hd
  clear hw hd hn
  go_enter Try.func34, Try.ntmps34
  go_wp2_with fail
  refine (gForm_any _ 0 _ _ _ _ (lens2K hl1 hl2) (by simp)).mono ?_
  rintro e w' ⟨rfl, rfl⟩
  rw [HE.out]
  try dsimp only
  go_wp2_with fail
  go_ret3
  exact ⟨rfl, (Below.refl _ _).alloc (Nat.le_refl _) _⟩
set_option maxRecDepth 100000 in
theorem kMultiply_bad (g h : Int) (vd : Value) (ds l0 l1 : List Int) (w : World) {base kb mb n t last sz : Nat} {S : Int → Option (List Int)} {V : Int → Value} (hk : KeysIs w base kb mb n t last sz S V) (hi : I64 g) (hj : I64 h) (hs : S g = some l0) (ht0 : S h = some l1) (hd : IsNums w vd ds) (hdl : ds.length ≠ n * t) (ht : t ≤ 4) (hn2 : 2 * t + 1 ≤ n) (hn9 : n ≤ 9) :
    Calls Try.prog 17 #[.pointer (some ⟨kb, 0, none⟩), .int .i64 g, .int .i64 h, vd] w fun e w' => e = .returned (.tuple #[.int .i64 0, .int .i64 1]) ∧ Below w.heap.size w w' := by
  have hl0 := (hk.len g l0 hs).1
  have hl1 := (hk.len h l1 ht0).1
  have BA := Lib.hid (show Below w.heap.size w (w.alloc (.cells #[.int .i64 g, .int .i64 h] 3)) from (Below.refl w.heap.size w).alloc (Nat.le_refl _) _)
  have K1 := Lib.hid (hk.below BA.out)
  have KD := Lib.hid (hd.below BA.out)
  have LI := Lib.hid (show IsInts (w.alloc (.cells #[.int .i64 g, .int .i64 h] 3)) (.slice (some ⟨w.heap.size, 0, none⟩) 2 2) [g, h] from litI w [g, h] (by simp; exact ⟨hi, hj⟩) (by simp))
  have HTH := Lib.hid (show thereE S [g, h] = 0 from by rw [thereE_two, if_pos (by simp [hs, ht0])])
  have HWB := Lib.hid (show wireB [l0.length, l1.length] = true by simp [wireB, hl0, hl1]; omega)
  have HDL := Lib.hid (show (ds.length : Int) ≠ l0.length * t by rw [hl0]; intro e; exact hdl (by exact_mod_cast e))
  suffices hgoal : ∀ Post : Ending → World → Prop, (∀ e w', e = .returned (.tuple #[.int .i64 0, .int .i64 1]) ∧ Below w.heap.size w w' → Post e w') → Calls Try.prog 17 #[.pointer (some ⟨kb, 0, none⟩), .int .i64 g, .int .i64 h, vd] w Post from hgoal _ fun e w' h => h
  intro Post hpo
  have HP := Lib.hid hpo
  clear hpo hk hdl hd
  go_enter Try.func17, Try.ntmps17
  go_wp2_with fail
  refine (kThere_any _ [g, h] _ K1.out LI.out).mono ?_
  rintro e w' ⟨rfl, rfl⟩
  rw [HTH.out]
  obtain ⟨w1, hw1⟩ : ∃ w1, w1 = (w.alloc (.cells #[.int .i64 g, .int .i64 h] 3)) := ⟨_, rfl⟩
  rw [← hw1] at K1 BA KD ⊢
  clear hw1 LI
  try dsimp only
  obtain ⟨_, hct, _, hm, _⟩ := K1.out.cells
  have hb1 := K1.out.le
  have hb2 := K1.out.lt
  have KQ := Lib.hid (K1.out.drewN 1)
  have hlook : (Instr.lookup 79 (.map (some mb)) (.int .i64 g) false).run Try.prog w1.drew = .ok (V g) w1.drew := KQ.out.store.look hi (by rw [hs]; rfl)
  have hlook2 : (Instr.lookup 79 (.map (some mb)) (.int .i64 h) false).run Try.prog w1.drew = .ok (V h) w1.drew := KQ.out.store.look hj (by rw [ht0]; rfl)
  have KR := Lib.hid (KQ.out.store.rows g l0 hs)
  have KR2 := Lib.hid (KQ.out.store.rows h l1 ht0)
  have KDQ := Lib.hid (KD.out.drewN 1)
  have C2 := Lib.hid (gMul_drawsK t _ _ _ l0 l1 ds _ KR.out.is KR2.out.is KDQ.out (by omega) HWB.out (by omega) (by omega) HDL.out)
  go_wp2_with fail
  go_region_held3 (fun w' => w'.cell? ⟨kb, 1, none⟩ = some (.int .i64 t) ∧ w'.cell? ⟨kb, 3, none⟩ = some (.map (some mb))) (go_keep) (first | (go_at_call 34; refine C2.out.mono ?_; rintro e w2 ⟨rfl, hb3⟩; have q0 := (hb3.cell (p := ⟨kb, 1, none⟩) hb2).trans hct; have q1 := (hb3.cell (p := ⟨kb, 3, none⟩) hb2).trans hm; have HB3 := Lib.hid hb3; clear hb3))
  all_goals (
    have B2 := Lib.hid (below_trans (below_drewN BA.out 1) HB3.out BA.out.size)
    clear hlook hlook2 hct hm q0 q1
    try dsimp only
    go_wp2_with fail
    exact HP.out _ _ ⟨rfl, B2.out⟩)
end Go.Proofs.Ytegmeepogjijiaa
namespace Go.Proofs.Ytegmeepogjijiaa
open Go.RowKit Go.Maps Croft

theorem OwnNums.near2 {w w' : World} {base a b : Nat} {v : Value} {zs : List Int} (h : OwnNums w base v zs) (hn : Near a b w w') (ha : ∀ cur fr, w.heap[a]? ≠ some (.cells cur 23 fr)) (hb : ∀ cur fr, w.heap[b]? ≠ some (.cells cur 23 fr)) : OwnNums w' base v zs := by
  refine ⟨⟨h.1.1, ?_⟩, h.2⟩
  rcases h.1.2 with h0 | ⟨g, cap, cur, rfl, h1, h2, h3⟩
  · exact .inl h0
  · refine .inr ⟨g, cap, cur, rfl, h1, ?_, h3⟩
    rw [hn.block g (Array.getElem?_eq_some_iff.1 h2).1 (fun e => by subst e; exact ha _ _ h2) (fun e => by subst e; exact hb _ _ h2)]
    exact h2
theorem StoreIs.near {w w' : World} {base mb sz a b : Nat} {S : Int → Option (List Int)} {V : Int → Value} (h : StoreIs w base mb sz S V) (hn : Near a b w w') (ha : ∀ cur fr, w.heap[a]? ≠ some (.cells cur 23 fr)) (hb : ∀ cur fr, w.heap[b]? ≠ some (.cells cur 23 fr)) (h1 : mb ≠ a) (h2 : mb ≠ b) : StoreIs w' base mb sz S V := by
  obtain ⟨D, ⟨es, clock, hblk, F⟩, h3⟩ := h.map
  have hlt : mb < w.heap.size := (Array.getElem?_eq_some_iff.1 hblk).1
  exact ⟨⟨D, ⟨es, clock, (hn.block mb hlt h1 h2).trans hblk, F⟩, h3⟩, fun z zs hz => (h.rows z zs hz).near2 hn ha hb, h.le⟩
section
variable {w w' : World} {base base' kb mb rb rm n t n' t' last last' sz sz' : Nat} {S S' : Int → Option (List Int)} {V V' : Int → Value}
theorem keys_ne_ref (h : KeysIs w base kb mb n t last sz S V) (r : RefIs w base' rb rm n' t' last' sz' S' V') : kb ≠ rb ∧ kb ≠ rm ∧ mb ≠ rb := by
  refine ⟨fun e => ?_, fun e => ?_, fun e => ?_⟩
  · subst e
    have := h.cell.symm.trans r.cell
    injection this with this
    injection this with _ this _
    exact absurd this (by decide)
  · subst e
    exact r.mb_type _ _ _ h.cell
  · subst e
    exact h.mb_type _ _ _ r.cell
theorem KeysIs.nearR (h : KeysIs w base kb mb n t last sz S V) (r : RefIs w base' rb rm n' t' last' sz' S' V') (hm : mb ≠ rm) (hn : Near rb rm w w') : KeysIs w' base kb mb n t last sz S V := by
  obtain ⟨h1, h2, h3⟩ := keys_ne_ref h r
  exact ⟨(hn.block kb h.lt h1 h2).trans h.cell, h.store.near hn r.kb_type (fun cur fr => r.mb_type cur _ fr) h3 hm, h.le, h.len, h.sz8⟩
theorem RefIs.nearK (r : RefIs w base' rb rm n' t' last' sz' S' V') (h : KeysIs w base kb mb n t last sz S V) (hm : mb ≠ rm) (hn : Near kb mb w w') : RefIs w' base' rb rm n' t' last' sz' S' V' := by
  obtain ⟨h1, h2, h3⟩ := keys_ne_ref h r
  exact ⟨(hn.block rb r.lt (Ne.symm h1) (Ne.symm h3)).trans r.cell, r.store.near hn h.kb_type (fun cur fr => h.mb_type cur _ fr) (Ne.symm h2) (Ne.symm hm), r.le, r.len, r.sz8⟩
end
/-- both stores hold the same keys, each of a number that is shared -/
structure Two (w : World) (base base' kb mb rb rm n t last sz : Nat) (S : Int → Option (List Int)) (X : Int → F) : Prop where
  k : ∃ V, KeysIs w base kb mb n t last sz S V
  r : ∃ V', RefIs w base' rb rm n t last sz S V'
  sh : AllShared n t S X
  m : mb ≠ rm
theorem Two.below {w w' : World} {base base' kb mb rb rm n t last sz : Nat} {S : Int → Option (List Int)} {X : Int → F} (h : Two w base base' kb mb rb rm n t last sz S X) (hb : Below w.heap.size w w') : Two w' base base' kb mb rb rm n t last sz S X := by
  obtain ⟨⟨V, hk⟩, ⟨V', hr⟩, hs, hm⟩ := h
  exact ⟨⟨V, hk.below hb⟩, ⟨V', hr.below hb⟩, hs, hm⟩
theorem NewKey.form {w w' : World} {base kb mb n t last sz : Nat} {S : Int → Option (List Int)} {l : List Int} {e : Ending} (h : NewKey w base kb mb n t last sz S l e w') : ∃ z er, e = .returned (.tuple #[.int .i64 z, .int .i64 er]) := by
  by_cases h8 : sz = 8
  · exact ⟨_, _, (h.full h8).1⟩
  · exact ⟨_, _, (h.new h8).1⟩
theorem NewKey.near {w w' : World} {base kb mb n t last sz : Nat} {S : Int → Option (List Int)} {l : List Int} {e : Ending} (h : NewKey w base kb mb n t last sz S l e w') : Near kb mb w w' := by
  by_cases h8 : sz = 8
  · exact (h.full h8).2.2
  · exact (h.new h8).2.2
theorem NewRef.near {w w' : World} {base kb mb n t last sz : Nat} {S : Int → Option (List Int)} {l : List Int} {e : Ending} (h : NewRef w base kb mb n t last sz S l e w') : Near kb mb w w' := by
  by_cases h8 : sz = 8
  · exact (h.full h8).2.2
  · exact (h.new h8).2.2
theorem kGen_new (vd : Value) (ds : List Int) (w : World) {base kb mb n t last sz : Nat} {S : Int → Option (List Int)} {V : Int → Value} (hk : KeysIs w base kb mb n t last sz S V) (h1 : IsNums w vd ds) (hl : ds.length = n * (t + 1)) (ht : t ≤ 4) (hn9 : n ≤ 9) (htn : t + 1 ≤ n) (hlast : last < 1000000) :
    Calls Try.prog 11 #[.pointer (some ⟨kb, 0, none⟩), vd] w fun e w' => NewKey w base kb mb n t last sz S (ofFs (sumD n (genP t ds) n)) e w' := by
  refine (kGen_any vd ds w hk h1 hl ht hn9 htn hlast).mono fun e w' h => ?_
  unfold NewKey
  by_cases h8 : sz = 8
  · rw [if_pos h8] at h ⊢
    exact ⟨h.1, ⟨V, hk.below h.2⟩, Near.of_below h.2⟩
  · rw [if_neg h8] at h ⊢
    exact h
/-- a new key in both, one behind the other -/
theorem pair_new {w2 w3 w4 : World} {base base' kb mb rb rm n t last sz : Nat} {S : Int → Option (List Int)} {X : Int → F} {V V' : Int → Value} {l : List Int} {x : F} {z er : Int} {e' : Ending} (hk : KeysIs w2 base kb mb n t last sz S V) (hr : RefIs w2 base' rb rm n t last sz S V') (hm : mb ≠ rm) (hs : AllShared n t S X) (hl : Shared n t (toFs l) x)
    (h3 : NewKey w2 base kb mb n t last sz S l (.returned (.tuple #[.int .i64 z, .int .i64 er])) w3) (h4 : NewRef w3 base' rb rm n t last sz S l e' w4) :
    e' = .returned (.tuple #[.int .i64 z, .int .i64 er]) ∧ ∃ last' sz' S' X', Two w4 base base' kb mb rb rm n t last' sz' S' X' ∧ last' ≤ last + 1 := by
  by_cases h8 : sz = 8
  · obtain ⟨h5, ⟨V3, hk3⟩, hn3⟩ := h3.full h8
    obtain ⟨h6, hr4, hn4⟩ := h4.full h8
    refine ⟨h6.trans h5.symm, last, sz, S, X, ⟨⟨V3, hk3.nearR (hr.nearK hk hm hn3) hm hn4⟩, hr4, hs, hm⟩, by omega⟩
  · obtain ⟨h5, ⟨V3, hk3⟩, hn3⟩ := h3.new h8
    obtain ⟨h6, hr4, hn4⟩ := h4.new h8
    refine ⟨h6.trans h5.symm, last + 1, sz + 1, _, _, ⟨⟨V3, hk3.nearR (hr.nearK hk hm hn3) hm hn4⟩, hr4, hs.put hl, hm⟩, by omega⟩
theorem StoreIs.lookNone {w : World} {base mb sz : Nat} {S : Int → Option (List Int)} {V : Int → Value} (h : StoreIs w base mb sz S V) {z : Int} (hz : I64 z) (hs : ¬ (S z).isSome = true) :
    (Instr.lookup 79 (.map (some mb)) (.int .i64 z) false).run Try.prog w = .ok (.slice none 0 0) w := by
  obtain ⟨D, h1, _, h3, _⟩ := h.map
  obtain ⟨v, ps, hrun, hv⟩ := h1.lookup ilaw Try.underlying79 (zeroNums w) (zd := .held (.slice none 0 0)) (zp := []) rfl (keyOf_i64 hz)
  have e : heldR v = some (.held (.slice none 0 0), ps) := hv.trans (by rw [atKey_of_not_has ((h3 z).trans (by simpa using hs))])
  have e2 : v = .slice none 0 0 := by
    have := congrArg (fun o => o.map (·.1)) e
    simp only [heldR, Option.map_some, Option.some.injEq, DataW.held.injEq] at this
    exact this
  rw [hrun, e2]
theorem kNew_bad (n t : Int) (w : World) (h : ¬ (0 ≤ t ∧ t ≤ 4 ∧ 1 ≤ n ∧ n ≤ 9 ∧ 2 * t + 1 ≤ n)) :
    Calls Try.prog 10 #[.int .i64 n, .int .i64 t] w fun e w' => e = .returned (.tuple #[.pointer none, .int .i64 1]) ∧ w = w' := by
  by_cases h1 : t < 0
  · have d1 : decide (t < 0) = true := by simpa using h1
    go_enter Try.func10, Try.ntmps10
    go_wp2_with fail
    go_ret2
    exact ⟨rfl, rfl⟩
  · have d1 : decide (t < 0) = false := by simpa using h1
    by_cases h2 : t > 4
    · have d2 : decide (t > 4) = true := by simpa using h2
      go_enter Try.func10, Try.ntmps10
      go_wp2_with fail
      go_ret2
      exact ⟨rfl, rfl⟩
    · have d2 : decide (t > 4) = false := by simpa using h2
      by_cases h3 : n < 1
      · have d3 : decide (n < 1) = true := by simpa using h3
        go_enter Try.func10, Try.ntmps10
        go_wp2_with fail
        go_ret2
        exact ⟨rfl, rfl⟩
      · have d3 : decide (n < 1) = false := by simpa using h3
        by_cases h4 : n > 9
        · have d4 : decide (n > 9) = true := by simpa using h4
          go_enter Try.func10, Try.ntmps10
          go_wp2_with fail
          go_ret2
          exact ⟨rfl, rfl⟩
        · have d4 : decide (n > 9) = false := by simpa using h4
          have d5 : decide (n < 2 * t + 1) = true := by simp; omega
          go_enter Try.func10, Try.ntmps10
          go_wp2_with fail
          go_ret2
          exact ⟨rfl, rfl⟩
end Go.Proofs.Ytegmeepogjijiaa
