/- Parts of the proof, put together by a program: GridP Parties Join Lagr ShamP. No condition. -/
import Derived.Test.YtploomncapiloaaGreatDoorDAJ
import Derived.Deep.AppendLies
import Derived.Laws.AppendOwnNone
namespace Go.Proofs.YtploomncapiloaaGreatDoor
open Go.RowKit Croft
theorem Grid.pushed {w w' : World} {base g n c i : Nat} {x x' : Value} {r ds : List Int} {vs : List Value} {rows : List (List Int)} (h : Grid w base (.slice (some ⟨g, 0, none⟩) n c) vs rows) (hv : vs[i]? = some x) (hr : rows[i]? = some r)
    (h1 : OwnNums w' base x' (r ++ ds)) (h2 : w.grownBy w' x.ownBlock) (h3 : x'.ownBlock = x.ownBlock ∨ x'.ownBlock = some w.heap.size) :
    w'.cell? ⟨g, i, none⟩ = some x ∧ w'.frozen? ⟨g, i, none⟩ = false ∧ Grid (w'.setCell ⟨g, i, none⟩ x') base (.slice (some ⟨g, 0, none⟩) n c) (vs.set i x') (rows.set i (r ++ ds)) := by
  have hn : n = rows.length := by
    rcases h.outer.2 with ⟨hv, _⟩ | ⟨g', cap, cur, hv, _⟩
    · simp at hv
    · injection hv
  subst hn
  have hvl := h.vlen
  have hil := (List.getElem?_eq_some_iff.1 hv).1
  have hneq : x.ownBlock ≠ some g := fun hx => kinds_apart (h.row i x r hv hr).1 h.outer (by decide) hx rfl
  have hout := h.outer.kept h2 (.inr (fun e => hneq e.symm))
  have hoth : ∀ (k : Nat) (y : Value) (s : List Int), k ≠ i → vs[k]? = some y → rows[k]? = some s → OwnNums w' base y s := fun k y s hk hy hs =>
    (h.row k y s hy hs).kept h2 (by
      cases hyb : y.ownBlock with
      | none => exact .inl rfl
      | some b => exact .inr fun e => hk (h.apart k i y x b hy hv hyb e.symm))
  have hg := set_grown w' g i x'
  refine ⟨by rw [hout.cellAt i (by omega), hv], hout.frozenAt i, ?_⟩
  refine ⟨by rw [List.length_set]; exact (hout.stored i x').1, by simpa using h.len, fun k y s hy hs => ?_, fun k l y z b hy hz hyb hzb => ?_⟩
  · by_cases hk : k = i
    · subst hk
      rw [List.getElem?_set_self hil] at hy
      rw [List.getElem?_set_self (by omega)] at hs
      obtain rfl := Option.some.inj hy
      obtain rfl := Option.some.inj hs
      exact h1.kept hg (.inr fun hb => kinds_apart h1.1 hout (by decide) hb rfl)
    · rw [List.getElem?_set_ne (Ne.symm hk)] at hy hs
      have ho := hoth k y s hk hy hs
      exact ho.kept hg (.inr fun hb => kinds_apart ho.1 hout (by decide) hb rfl)
  · have far : ∀ (k : Nat) (y : Value) (b : Nat), k ≠ i → vs[k]? = some y → y.ownBlock = some b → x'.ownBlock ≠ some b := fun k y b hk hy hyb hxb => by
      have hkl := (List.getElem?_eq_some_iff.1 hy).1
      rcases h3 with h3 | h3
      · rw [h3] at hxb
        exact hk (h.apart k i y x b hy hv hyb hxb)
      · rw [h3] at hxb
        have := ((h.row k y _ hy (List.getElem?_eq_getElem (by omega))).1.lt b hyb).2
        injection hxb with hxb
        omega
    by_cases hk : k = i
    · subst hk
      rw [List.getElem?_set_self hil] at hy
      obtain rfl := Option.some.inj hy
      by_cases hl : l = k
      · exact hl.symm
      · rw [List.getElem?_set_ne (Ne.symm hl)] at hz
        exact absurd hyb (far l z b hl hz hzb)
    · rw [List.getElem?_set_ne (Ne.symm hk)] at hy
      by_cases hl : l = i
      · subst hl
        rw [List.getElem?_set_self hil] at hz
        obtain rfl := Option.some.inj hz
        exact absurd hzb (far k y b hk hy hyb)
      · rw [List.getElem?_set_ne (Ne.symm hl)] at hz
        exact h.apart k l y z b hy hz hyb hzb
theorem wpList_push_grid {ops : Array Oper} {rest : List Oper} {o : Oper} {a : Act} {Q : Exit → Act → World → Prop} {w : World} (hgd : o.guard = none) (s x : Operand)
    (ho : o.op = .call { callee := .builtin .append, args := #[s, x], argTypes := #[64, 64] })
    (base g n c i : Nat) (v : Value) (vs : List Value) (rows : List (List Int)) (r : List Int) (z : Int) (gg cc : Nat) (hs : a.eval s = v) (hgr : Grid w base (.slice (some ⟨g, 0, none⟩) n c) vs rows) (hv : vs[i]? = some v) (hr : rows[i]? = some r) (hx : a.eval x = .slice (some ⟨gg, 0, none⟩) 1 cc)
    (hc : w.cell? ⟨gg, 0, none⟩ = some (.int .u64 z)) (hz : U64 z) (hl : r.length + 1 ≤ 17592186043904) (hb : base ≤ w.heap.size)
    (h : ∀ A cap w', w'.cell? ⟨g, i, none⟩ = some v → w'.frozen? ⟨g, i, none⟩ = false → Grid (w'.setCell ⟨g, i, none⟩ (.slice A (r.length + 1) cap)) base (.slice (some ⟨g, 0, none⟩) n c) (vs.set i (.slice A (r.length + 1) cap)) (rows.set i (r ++ [z])) → Below base w w' → w.grownBy w' v.ownBlock → ((Value.slice A (r.length + 1) cap).ownBlock = v.ownBlock ∨ (Value.slice A (r.length + 1) cap).ownBlock = some w.heap.size) → wpList Tryz.prog ops Q rest (a.put o.dst (.slice A (r.length + 1) cap)) w') : wpList Tryz.prog ops Q (o :: rest) a w := by
  obtain ⟨i0, hi, hz0, hz1, hz2⟩ := info_parts uinfo
  have hown := hgr.row i v r hv hr
  refine wpList_append_own_at (w := w) hgd s x 64 ho base 67 i0 (.int .u64 0) 1 8 Tryz.underlying64 hi hz0 hz1 hz2 rfl (by decide) v r.length (u64s r) hs hown.1 ⟨gg, 0, none⟩ 1 cc [.int .u64 z] hx rfl ?_ ?_ ?_ ?_ hb ?_
  · intro j u hu
    match j, hu with
    | 0, hu =>
      simp at hu
      subst hu
      rw [add_addr]; exact hc
  · intro u hu
    simp at hu
    subst hu; rfl
  · unfold maxLen; omega
  · omega
  · intro v' w' h1 h2 _ h4
    obtain ⟨A, cap, rfl, _, _⟩ := own_form h1
    have hown' : OwnNums w' base (.slice A (r.length + 1) cap) (r ++ [z]) := by
      refine ⟨?_, by simpa using hl, fun y hy => ?_⟩
      · have e : (r ++ [z]).length = r.length + 1 := by simp
        have e2 : u64s (r ++ [z]) = u64s r ++ [.int .u64 z] := by simp [u64s]
        rw [e, e2]; exact h1
      · rcases List.mem_append.1 hy with h5 | h5
        · exact hown.2.2 y h5
        · simp at h5; subst h5; exact hz
    obtain ⟨k1, k2, k3⟩ := hgr.pushed hv hr hown' h2 h4
    exact h A cap w' k1 k2 k3 ((Below.refl _ _).grown h2 hb (fun k hk => (hown.1.lt k hk).1)) h2 h4
theorem own_apart {w w' : World} {b1 b2 : Nat} {e1 e2 : TypeId} {s1 s2 n1 n2 : Nat} {v1 v2 : Value} {x1 x2 : List Value} (h1 : w.ownsRow b1 e1 s1 v1 n1 x1) (h2 : w.ownsRow b2 e2 s2 v2 n2 x2) (hne : e1 ≠ e2) (hg : w.grownBy w' v2.ownBlock) : w'.ownsRow b1 e1 s1 v1 n1 x1 :=
  h1.kept hg (by
    cases hb : v1.ownBlock with
    | none => exact .inl rfl
    | some b => exact .inr fun e => kinds_apart h1 h2 hne hb e.symm)
theorem Grid.apart_kept {w w' : World} {base b2 : Nat} {e2 : TypeId} {s2 n2 : Nat} {v v2 : Value} {x2 : List Value} {vs : List Value} {rows : List (List Int)} (h : Grid w base v vs rows) (h2 : w.ownsRow b2 e2 s2 v2 n2 x2) (hne1 : 64 ≠ e2) (hne2 : 67 ≠ e2) (hg : w.grownBy w' v2.ownBlock) : Grid w' base v vs rows :=
  ⟨own_apart h.outer h2 hne1 hg, h.len, fun i x r hx hr => ⟨own_apart (h.row i x r hx hr).1 h2 hne2 hg, (h.row i x r hx hr).2⟩, h.apart⟩
theorem Grid.less_below {w a b : World} {base B : Nat} {v : Value} {vs : List Value} {rows : List (List Int)} (h : Grid a base v vs rows) (_hab : Below B w a) (hb : Below a.heap.size a b) (hbase : B ≤ base := by omega) : Grid b B v vs rows := by
  have h2 := h.below hb
  have less : ∀ {e : TypeId} {s n : Nat} {v : Value} {xs : List Value}, b.ownsRow base e s v n xs → b.ownsRow B e s v n xs := fun {e s n v xs} h => by
    refine ⟨h.1, ?_⟩
    rcases h.2 with h1 | ⟨g, cap, cur, hv, hg, r⟩
    · exact .inl h1
    · exact .inr ⟨g, cap, cur, hv, by omega, r⟩
  exact ⟨less h2.outer, h2.len, fun i x r hx hr => (h2.row i x r hx hr).less hbase, h2.apart⟩
theorem i64_and_nat (a b : Nat) (ha : a < 9223372036854775808) (hb : b < 9223372036854775808) : bits .and .i64 (a : Int) (b : Int) = ((a &&& b : Nat) : Int) := by
  have hx : a &&& b < 2 ^ 63 := Nat.and_lt_two_pow _ (by omega)
  have h1 : (BitVec.ofInt 64 (a : Int)).toNat = a := by
    rw [BitVec.ofInt_natCast, BitVec.toNat_ofNat]; exact Nat.mod_eq_of_lt (by omega)
  have h2 : (BitVec.ofInt 64 (b : Int)).toNat = b := by
    rw [BitVec.ofInt_natCast, BitVec.toNat_ofNat]; exact Nat.mod_eq_of_lt (by omega)
  show IntKind.i64.wrap ((BitVec.ofInt 64 (a : Int) &&& BitVec.ofInt 64 (b : Int)).toNat : Int) = _
  rw [BitVec.toNat_and, h1, h2, IntKind.wrap_i64]
  omega
theorem i64_or_nat (a b : Nat) (ha : a < 9223372036854775808) (hb : b < 9223372036854775808) : bits .or .i64 (a : Int) (b : Int) = ((a ||| b : Nat) : Int) := by
  have hx : a ||| b < 2 ^ 63 := Nat.or_lt_two_pow (by omega) (by omega)
  have h1 : (BitVec.ofInt 64 (a : Int)).toNat = a := by
    rw [BitVec.ofInt_natCast, BitVec.toNat_ofNat]; exact Nat.mod_eq_of_lt (by omega)
  have h2 : (BitVec.ofInt 64 (b : Int)).toNat = b := by
    rw [BitVec.ofInt_natCast, BitVec.toNat_ofNat]; exact Nat.mod_eq_of_lt (by omega)
  show IntKind.i64.wrap ((BitVec.ofInt 64 (a : Int) ||| BitVec.ofInt 64 (b : Int)).toNat : Int) = _
  rw [BitVec.toNat_or, h1, h2, IntKind.wrap_i64]
  omega
def Mask (M : Nat) (l : List Int) : Prop := M < 1024 ∧ ∀ b : Nat, b ≤ 9 → (M.testBit b = true ↔ (b : Int) ∈ l)
theorem Mask.nil : Mask 0 [] := ⟨by omega, fun b _ => by simp⟩
theorem Mask.add {M : Nat} {l : List Int} {a : Nat} (h : Mask M l) (ha : a ≤ 9) : Mask (M ||| 2 ^ a) (l ++ [(a : Int)]) := by
  refine ⟨Nat.or_lt_two_pow (n := 10) h.1 (Nat.pow_lt_pow_right (by omega) (by omega)), fun b hb => ?_⟩
  rw [Nat.testBit_or, Nat.testBit_two_pow, Bool.or_eq_true, h.2 b hb, List.mem_append, List.mem_singleton]
  constructor
  · rintro (h1 | h1)
    · exact .inl h1
    · exact .inr (by have := of_decide_eq_true h1; omega)
  · rintro (h1 | h1)
    · exact .inl h1
    · exact .inr (by simp; omega)
theorem Mask.bit {M : Nat} {l : List Int} {a : Nat} (h : Mask M l) (ha : a ≤ 9) : bits .and .i64 ((M : Int) / 2 ^ a) 1 = if (a : Int) ∈ l then 1 else 0 := by
  have h1 := h.1
  have hs : M >>> a ≤ M := by rw [Nat.shiftRight_eq_div_pow]; exact Nat.div_le_self _ _
  rw [show ((M : Int) / 2 ^ a) = ((M >>> a : Nat) : Int) by rw [Nat.shiftRight_eq_div_pow]; simp]
  have e := i64_and_nat (M >>> a) 1 (by omega) (by omega)
  rw [show ((1 : Nat) : Int) = 1 from rfl] at e
  rw [e, Nat.and_one_is_mod]
  have ht := h.2 a ha
  rw [Nat.testBit_eq_decide_div_mod_eq, decide_eq_true_eq, ← Nat.shiftRight_eq_div_pow] at ht
  split
  · next hm => have := ht.2 hm; omega
  · next hm =>
    have : ¬ (M >>> a) % 2 = 1 := fun hh => hm (ht.1 hh)
    omega
def partyB (zs : List Int) : Bool := decide ((∀ z ∈ zs, 1 ≤ z ∧ z ≤ 9) ∧ zs.Nodup)
theorem sParties_any (va : Value) (zs : List Int) (w : World) (h1 : IsInts w va zs) :
    Calls Tryz.prog 179 #[va] w fun e w' => e = .returned (.bool (partyB zs)) ∧ w = w' := by
  obtain ⟨A1, c1, rfl, hc1, hm1, hl1, hu1, hr1⟩ := h1
  have HU := Lib.hid hu1
  have HR := Lib.hid hr1
  clear hu1 hr1 hm1
  go_enter Tryz.func179, Tryz.ntmps179
  go_wp2_with fail
  go_loop [3, 8] (fun s i => ∃ k M : Nat, k ≤ zs.length ∧ i = .int .i64 k ∧ s = .int .i64 M ∧ Mask M (zs.take k) ∧ (∀ z ∈ zs.take k, 1 ≤ z ∧ z ≤ 9) ∧ (zs.take k).Nodup) (fun _ i => zs.length - (intOf i).toNat)
  case atStart => exact ⟨0, 0, Nat.zero_le _, rfl, rfl, Mask.nil, by simp, by simp⟩
  case round =>
    obtain ⟨k, M, hk, rfl, rfl, hmk, hin, hnd⟩ := hrel
    have HM := Lib.hid hmk
    have HIN := Lib.hid hin
    have HND := Lib.hid hnd
    have hM := hmk.1
    clear hmk hin hnd
    by_cases hlt : k < zs.length
    · obtain ⟨b1, o1, z, rfl, hb1, hz, huz, hc⟩ := ints_at HR.out HU.out hlt
      have HZ := Lib.hid hz
      have HT := Lib.hid (show zs.take (k + 1) = zs.take k ++ [z] by rw [List.take_add_one, hz]; rfl)
      clear hz hb1
      by_cases hr : 1 ≤ z ∧ z ≤ 9
      · obtain ⟨a, rfl⟩ := Int.eq_ofNat_of_zero_le (show 0 ≤ z by omega)
        have hr2 : (a : Int) ≤ 9 := hr.2
        have hd1 : decide ((a : Int) < 1) = false := by simp; omega
        have hd2 : decide ((a : Int) > 9) = false := by simp; omega
        have e2 := HM.out.bit (show a ≤ 9 by omega)
        by_cases hm : (a : Int) ∈ zs.take k
        · have hbb : (bits .and .i64 ((M : Int) / 2 ^ a) 1 == 1) = true := by rw [e2, if_pos hm]; rfl
          have HMM := Lib.hid hm
          clear e2 hm
          go_wp2_with fail
          go_ret
          refine ⟨?_, rfl⟩
          have : partyB zs = false := decide_eq_false fun hh => by
            have h2 := hh.2.sublist (List.take_sublist (k + 1) zs)
            rw [HT.out, List.nodup_append] at h2
            exact h2.2.2 _ HMM.out _ (by simp) rfl
          rw [this]; rfl
        · have hbb : (bits .and .i64 ((M : Int) / 2 ^ a) 1 == 1) = false := by rw [e2, if_neg hm]; rfl
          have HMM := Lib.hid hm
          clear e2 hm
          go_wp2_with fail
          refine ⟨⟨k + 1, M ||| 2 ^ a, by omega, by go_num, ?_, ?_, ?_, ?_⟩, by simp [intOf] <;> omega⟩
          · have hp : (2 : Nat) ^ a ≤ 512 := Nat.pow_le_pow_right (by omega) (show a ≤ 9 by omega)
            have h2 : wrap64 ((2 : Int) ^ a) = ((2 ^ a : Nat) : Int) := by
              have : ((2 : Int) ^ a) = ((2 ^ a : Nat) : Int) := by simp
              rw [this]
              unfold wrap64
              generalize (2 : Nat) ^ a = q at *
              omega
            rw [h2, i64_or_nat _ _ (by omega) (by omega)]
          · rw [HT.out]; exact HM.out.add (by omega)
          · rw [HT.out]
            intro x hx
            rcases List.mem_append.1 hx with h3 | h3
            · exact HIN.out x h3
            · simp at h3; subst h3; exact hr
          · rw [HT.out, List.nodup_append]
            refine ⟨HND.out, by simp, fun x hx y hy he => ?_⟩
            simp at hy
            subst hy he
            exact HMM.out hx
      · have HF := Lib.hid (show partyB zs = false from decide_eq_false fun hh => hr (hh.1 z (List.mem_of_getElem? HZ.out)))
        by_cases h1 : z < 1
        · clear hr
          go_wp2_with fail
          go_ret
          exact ⟨by rw [HF.out]; rfl, rfl⟩
        · have h2 : z > 9 := by omega
          have hd1 : decide (z < 1) = false := by simp; omega
          clear hr
          go_wp2_with fail
          go_ret
          exact ⟨by rw [HF.out]; rfl, rfl⟩
    · obtain rfl : k = zs.length := by omega
      go_wp2_with fail
      go_ret
      have h1 := HIN.out
      have h2 := HND.out
      rw [List.take_length] at h1 h2
      rw [show partyB zs = true from decide_eq_true ⟨h1, h2⟩]
      exact ⟨rfl, rfl⟩
theorem run_append_none {P : Program} {w : World} (base : Nat) (t ty e : TypeId) (i : TypeInfo) (size c : Nat) (ht : P.underlying t = some (.slice e)) (hi : P.info? e = some i)
    (v : Value) (n : Nat) (xs : List Value) (hown : w.ownsRow base e size v n xs) :
    (Builtin.append_ #[t, t] ty #[v, .slice none 0 c]).run P w = .ok v w := by
  rcases hown.2 with ⟨rfl, rfl⟩ | ⟨g, cap, cur, rfl, _, _, hnc, _⟩
  · simp [Builtin.append_, run_underlying ht, sizeOf, typeInfo, hi, Builtin.lenOf, Builtin.firstCells]
  · simp [Builtin.append_, run_underlying ht, sizeOf, typeInfo, hi, Builtin.lenOf, Builtin.firstCells, hnc, storeCells]
theorem wpList_append_none {P : Program} {w : World} {ops : Array Oper} {rest : List Oper} {o : Oper} {a : Act} {Q : Exit → Act → World → Prop} (hgd : o.guard = none) (s x : Operand) (t : TypeId)
    (ho : o.op = .call { callee := .builtin .append, args := #[s, x], argTypes := #[t, t] })
    (base : Nat) (e : TypeId) (i : TypeInfo) (size c : Nat) (ht : P.underlying t = some (.slice e)) (hi : P.info? e = some i)
    (v : Value) (n : Nat) (xs : List Value) (hs : a.eval s = v) (hown : w.ownsRow base e size v n xs) (hx : a.eval x = .slice none 0 c)
    (h : wpList P ops Q rest (a.put o.dst v) w) : wpList P ops Q (o :: rest) a w := by
  refine wpList_plain hgd fun K hK => ?_
  have hrun := run_append_none (P := P) (w := w) base t o.type e i size c ht hi v n xs hown
  unfold Oper.wp
  simp [execOp, ho, resolve, invoke, builtin, hs, hx, hrun, Result.andThen]
  exact hK _ _ h
theorem wpList_join {ops : Array Oper} {rest : List Oper} {o : Oper} {a : Act} {Q : Exit → Act → World → Prop} {w : World} (hgd : o.guard = none) (s x : Operand)
    (ho : o.op = .call { callee := .builtin .append, args := #[s, x], argTypes := #[64, 64] })
    (base : Nat) (v y : Value) (zs ds : List Int) (hs : a.eval s = v) (hown : OwnNums w base v zs) (hx : a.eval x = y) (hy : IsNums w y ds)
    (hl : zs.length + ds.length ≤ 17592186043904) (hb : base ≤ w.heap.size)
    (h : ∀ v' w', OwnNums w' base v' (zs ++ ds) → Below base w w' → wpList Tryz.prog ops Q rest (a.put o.dst v') w') : wpList Tryz.prog ops Q (o :: rest) a w := by
  obtain ⟨i0, hi, hz0, hz1, hz2⟩ := info_parts uinfo
  obtain ⟨A, cap, rfl, k1, k2, k3, k4, k5⟩ := hy
  cases A with
  | none =>
    have h0 : ds = [] := by
      rcases k5 with k5 | ⟨b, o, k5, _⟩
      · cases ds with
        | nil => rfl
        | cons d ds => simp [u64s] at k5
      · cases k5
    subst h0
    refine wpList_append_none hgd s x 64 ho base 67 i0 1 cap Tryz.underlying64 hi v zs.length (u64s zs) hs hown.1 hx ?_
    exact h v w (by rw [List.append_nil]; exact hown) (Below.refl _ _)
  | some ad =>
    refine wpList_append_own w hgd s x 64 ho base 67 i0 (.int .u64 0) 1 8 Tryz.underlying64 hi hz0 hz1 hz2 rfl (by decide) v zs.length (u64s zs) hs hown.1 ad ds.length cap (u64s ds) hx (by rw [u64s_length]; omega) ?_ (u64s_one ds) ?_ ?_ hb ?_
    · intro j u hu
      rcases k5 with k5 | ⟨b, o, k5, _, hc⟩
      · rw [k5] at hu; simp at hu
      · obtain rfl := Option.some.inj k5
        rw [add_addr, hc j (List.getElem?_eq_some_iff.1 hu).1, hu]
    · unfold maxLen; omega
    · omega
    · intro v' w' h1 h2 _
      refine h v' w' ⟨?_, by simpa using hl, fun z hz => ?_⟩ ((Below.refl _ _).grown h2 hb (fun k hk => (hown.1.lt k hk).1))
      · have e2 : u64s (zs ++ ds) = u64s zs ++ u64s ds := by simp [u64s]
        rw [List.length_append, e2]; exact h1
      · rcases List.mem_append.1 hz with h3 | h3
        · exact hown.2.2 z h3
        · exact k4 z h3
end Go.Proofs.YtploomncapiloaaGreatDoor
namespace Croft
theorem F_ss (x : F) : x - x = 0 := by grind
structure OneAt (ps : List (F × F)) (i k : Nat) (one : List F) : Prop where
  len : one.length ≤ if k ≤ i then k + 1 else k
  self : ∀ s, ps[i]? = some s → peval one s.1 = s.2
  zero : ∀ p s, p < k → p ≠ i → ps[p]? = some s → peval one s.1 = 0
theorem OneAt.start {ps : List (F × F)} {i : Nat} {y x : F} (h : ps[i]? = some (x, y)) : OneAt ps i 0 [y] :=
  ⟨by simp, fun s hs => by obtain rfl := Option.some.inj (h.symm.trans hs); simp only [peval, F_mz, F_az], fun p s hp => by omega⟩
theorem OneAt.skip {ps : List (F × F)} {i : Nat} {one : List F} (h : OneAt ps i i one) : OneAt ps i (i + 1) one := by
  obtain ⟨h1, h2, h3⟩ := h
  rw [if_pos (Nat.le_refl _)] at h1
  refine ⟨by rw [if_neg (by omega)]; exact h1, h2, fun p s hp hne hs => h3 p s (by omega) hne hs⟩
theorem fst_ne {ps : List (F × F)} (hn : (ps.map (·.1)).Nodup) {i k : Nat} {s t : F × F} (hs : ps[i]? = some s) (ht : ps[k]? = some t) (hne : i ≠ k) : s.1 ≠ t.1 := by
  intro he
  have hi : (ps.map (·.1))[i]? = some s.1 := by rw [List.getElem?_map, hs]; rfl
  have hk : (ps.map (·.1))[k]? = some t.1 := by rw [List.getElem?_map, ht]; rfl
  exact hne ((List.getElem?_inj (by have := (List.getElem?_eq_some_iff.1 hi).1; exact this) hn).1 (by rw [hi, hk, he]))
theorem OneAt.step {ps : List (F × F)} (hn : (ps.map (·.1)).Nodup) {i k : Nat} {one : List F} {xi yi xk yk : F} (h : OneAt ps i k one) (hi : ps[i]? = some (xi, yi)) (hk : ps[k]? = some (xk, yk)) (hne : k ≠ i) : OneAt ps i (k + 1) (oneL' xi one xk) := by
  obtain ⟨h1, h2, h3⟩ := h
  have hd : xi - xk ≠ 0 := fun e => fst_ne hn hi hk (Ne.symm hne) (by show xi = xk; grind)
  refine ⟨?_, fun s hs => ?_, fun p s hp hpi hs => ?_⟩
  · by_cases hki : k ≤ i
    · rw [if_pos hki] at h1
      rw [if_pos (by omega)]
      have := oneL'_length xi xk one (k + 1) h1 (by omega)
      omega
    · rw [if_neg hki] at h1
      rw [if_neg (by omega)]
      exact oneL'_length xi xk one k h1 (by omega)
  · rw [oneL'_eval, h2 s hs]
    obtain rfl := Option.some.inj (hi.symm.trans hs)
    show yi * ((xi - xk) * inv (xi - xk)) = yi
    rw [mul_inv hd, F_mo]
  · rw [oneL'_eval]
    by_cases hpk : p = k
    · subst hpk
      obtain rfl := Option.some.inj (hk.symm.trans hs)
      show _ * ((xk - xk) * _) = 0
      rw [F_ss, F_zm, F_mz]
    · rw [h3 p s (by omega) hpi hs, F_zm]
structure SumAt (ps : List (F × F)) (i : Nat) (o : List F) : Prop where
  norm : pnorm o = o
  len : o.length ≤ ps.length
  at_ : ∀ p s, ps[p]? = some s → peval o s.1 = if p < i then s.2 else 0
theorem SumAt.start (ps : List (F × F)) : SumAt ps 0 [] := ⟨rfl, by simp, fun p s _ => by rw [if_neg (by omega)]; rfl⟩
theorem SumAt.step {ps : List (F × F)} {i : Nat} {o one : List F} (h : SumAt ps i o) (hi : i < ps.length) (h1 : OneAt ps i ps.length one) : SumAt ps (i + 1) (pnorm (padd o one)) := by
  obtain ⟨a1, a2, a3⟩ := h
  obtain ⟨b1, b2, b3⟩ := h1
  rw [if_neg (by omega)] at b1
  refine ⟨pnorm_norm _, pnorm_short _ _ (fun k hk => by rw [co_add, co_of_le (by omega), co_of_le (by omega), F_az]), fun p s hs => ?_⟩
  rw [pnorm_eval, peval_add, a3 p s hs]
  by_cases hpi : p = i
  · subst hpi
    rw [b2 s hs, if_neg (by omega), if_pos (by omega)]; grind
  · rw [b3 p s (by have := (List.getElem?_eq_some_iff.1 hs).1; omega) hpi hs, F_az]
    by_cases h : p < i
    · rw [if_pos h, if_pos (by omega)]
    · rw [if_neg h, if_neg (by omega)]
theorem SumAt.done {ps : List (F × F)} {o : List F} (h : SumAt ps ps.length o) : Interp ps o :=
  ⟨h.norm, h.len, fun p hp => by
    obtain ⟨k, hk, hkp⟩ := List.getElem_of_mem hp
    rw [h.at_ k p (by rw [List.getElem?_eq_getElem hk, hkp]), if_pos hk]⟩
end Croft
namespace Croft
def lprod : List F → F
  | [] => 1
  | a :: l => a * lprod l
theorem inv_mul (a b : F) : inv (a * b) = inv a * inv b := by
  by_cases ha : a = 0
  · subst ha; rw [F_zm, inv_zero, F_zm]
  by_cases hb : b = 0
  · subst hb; rw [F_mz, inv_zero, F_mz]
  symm
  apply inv_unique
  have h1 := mul_inv ha
  have h2 := mul_inv hb
  generalize inv a = x at *
  generalize inv b = y at *
  grind
theorem inv_one : inv (1 : F) = 1 := (inv_unique (by grind)).symm
theorem inv_neg (a : F) : inv (-a) = - inv a := by
  by_cases ha : a = 0
  · subst ha
    have : (-0 : F) = 0 := by grind
    rw [this, inv_zero]; grind
  · symm
    apply inv_unique
    have h1 := mul_inv ha
    generalize inv a = x at *
    grind
theorem lprod_append (a b : List F) : lprod (a ++ b) = lprod a * lprod b := by
  induction a with
  | nil => simp [lprod, F_om]
  | cons x a ih => simp only [List.cons_append, lprod, ih]; grind
theorem lprod_snoc (a : List F) (x : F) : lprod (a ++ [x]) = lprod a * x := by rw [lprod_append]; simp [lprod, F_mo]
theorem lprod_zero {l : List F} : lprod l = 0 ↔ 0 ∈ l := by
  induction l with
  | nil => exact ⟨fun h => absurd h one_ne, fun h => by simp at h⟩
  | cons a l ih =>
    rw [lprod, List.mem_cons]
    constructor
    · intro h
      rcases F_mul_zero h with h | h
      · exact .inl h.symm
      · exact .inr (ih.1 h)
    · rintro (h | h)
      · rw [← h, F_zm]
      · rw [ih.2 h, F_mz]
theorem lagr_exists (a : F) (bs : List F) : ∃ q : List F, q.length ≤ bs.length + 1 ∧ ∀ z, peval q z = lprod (bs.map fun b => (z - b) * inv (a - b)) := by
  induction bs with
  | nil => exact ⟨[1], by simp, fun z => by simp only [peval, List.map_nil, lprod, F_mz, F_az]⟩
  | cons b bs ih =>
    obtain ⟨q, hl, he⟩ := ih
    refine ⟨oneL' a q b, by have := oneL'_length a b q _ hl (by omega); simpa using this, fun z => ?_⟩
    rw [oneL'_eval, he z, List.map_cons, lprod]
    grind
def others (xs : List F) (a : F) : List F := xs.filter fun b => b != a
def wtF (xs : List F) (a : F) : F := lprod (others xs a) * inv (lprod ((others xs a).map fun b => b - a))
theorem lag_zero (a : F) (bs : List F) : lprod (bs.map fun b => (0 - b) * inv (a - b)) = lprod bs * inv (lprod (bs.map fun b => b - a)) := by
  induction bs with
  | nil => simp only [List.map_nil, lprod, inv_one, F_mo]
  | cons b bs ih =>
    simp only [List.map_cons, lprod, ih, inv_mul]
    have h : inv (a - b) = - inv (b - a) := by rw [← inv_neg]; congr 1; grind
    rw [h]
    grind
theorem mem_others {xs : List F} {a b : F} : b ∈ others xs a ↔ b ∈ xs ∧ b ≠ a := by simp [others]
theorem others_length {xs : List F} {a : F} (ha : a ∈ xs) : (others xs a).length + 1 ≤ xs.length := by
  have h1 : (others xs a).length < xs.length := by
    unfold others
    rw [List.length_filter_lt_length_iff_exists]
    exact ⟨a, ha, by simp⟩
  omega
theorem lag_self {a : F} {bs : List F} (h : a ∉ bs) : lprod (bs.map fun b => (a - b) * inv (a - b)) = 1 := by
  induction bs with
  | nil => rfl
  | cons b bs ih =>
    simp only [List.map_cons, lprod]
    have hne : a - b ≠ 0 := fun e => h (List.mem_cons.2 (.inl (by grind)))
    rw [ih (fun hm => h (List.mem_cons_of_mem _ hm)), mul_inv hne, F_om]
theorem lag_other {a z : F} {bs : List F} (h : z ∈ bs) : lprod (bs.map fun b => (z - b) * inv (a - b)) = 0 := by
  rw [lprod_zero, List.mem_map]
  exact ⟨z, h, by rw [F_ss, F_zm]⟩
theorem lag_sum (xs : List F) (_hn : xs.Nodup) (y : F → F) : ∀ k, k ≤ xs.length → ∃ q : List F, q.length ≤ xs.length ∧ ∀ z, peval q z = fsum k (fun i => y (co xs i) * lprod ((others xs (co xs i)).map fun b => (z - b) * inv (co xs i - b))) := by
  intro k
  induction k with
  | zero => intro _; exact ⟨[], by simp, fun z => rfl⟩
  | succ k ih =>
    intro hk
    obtain ⟨q, hl, he⟩ := ih (by omega)
    have hm : co xs k ∈ xs := List.mem_of_getElem? (get_co (by omega))
    obtain ⟨p, hpl, hpe⟩ := lagr_exists (co xs k) (others xs (co xs k))
    refine ⟨padd q (pscale (y (co xs k)) p), ?_, fun z => ?_⟩
    · rw [padd_length, pscale_length]
      have := others_length hm
      omega
    · rw [peval_add, peval_scale, he z, hpe z, fsum]
theorem lag_at (xs : List F) (hn : xs.Nodup) (y : F → F) {j : Nat} (hj : j < xs.length) : fsum xs.length (fun i => y (co xs i) * lprod ((others xs (co xs i)).map fun b => (co xs j - b) * inv (co xs i - b))) = y (co xs j) := by
  rw [fsum_one j hj]
  · rw [lag_self (fun h => (mem_others.1 h).2 rfl), F_mo]
  · intro i hi hij
    have hne : co xs j ≠ co xs i := fun e => hij ((List.getElem?_inj hi hn).1 (by rw [get_co hi, get_co hj, e]))
    rw [lag_other (mem_others.2 ⟨List.mem_of_getElem? (get_co hj), hne⟩), F_mz]
theorem lagrange0 (xs : List F) (hn : xs.Nodup) (p : List F) (hp : p.length ≤ xs.length) : fsum xs.length (fun i => wtF xs (co xs i) * peval p (co xs i)) = peval p 0 := by
  obtain ⟨q, hl, he⟩ := lag_sum xs hn (fun x => peval p x) xs.length (Nat.le_refl _)
  have hc := agree p q xs hn hp hl (fun x hx => by
    obtain ⟨j, hj, rfl⟩ := List.getElem_of_mem hx
    have h1 := lag_at xs hn (fun x => peval p x) hj
    have h2 : co xs j = xs[j] := co_get (List.getElem?_eq_getElem hj)
    rw [h2] at h1
    rw [he, h1])
  rw [peval_ext hc 0, he 0]
  apply fsum_congr
  intro i _
  rw [lag_zero]
  show wtF xs (co xs i) * _ = _ * wtF xs (co xs i)
  generalize wtF xs (co xs i) = u
  grind
end Croft
