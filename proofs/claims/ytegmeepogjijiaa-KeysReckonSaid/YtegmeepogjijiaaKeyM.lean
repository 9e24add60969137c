/- A region that draws its order, by an invariant over what is listed. -/
import Derived.Orders
import Derived.RegionTactic
import Derived.Test.YtegmeepogjijiaaTopK
namespace Go.Proofs.Ytegmeepogjijiaa
open Go

section
variable {P : Program} {ops : Array Oper} {Q : Exit → Act → World → Prop} {md : Region.Mode}
def leftN (ops : Array Oper) (listed : Array Bool) : Nat := ((List.range ops.size).filter fun i => !listed.getD i true).length
theorem ready_left {listed : Array Bool} {i : Nat} (h : i ∈ Region.ready md ops listed) : i < ops.size ∧ listed.getD i true = false := by
  unfold Region.ready at h
  obtain ⟨h1, h2⟩ := List.mem_filter.1 h
  rw [List.mem_range] at h1
  simp only [Bool.and_eq_true, Bool.not_eq_true'] at h2
  exact ⟨h1, h2.1⟩
theorem getD_set_any (listed : Array Bool) (i j : Nat) : (listed.setIfInBounds i true).getD j true = if j = i then true else listed.getD j true := by
  rw [Array.getD_eq_getD_getElem?, Array.getD_eq_getD_getElem?, Array.getElem?_setIfInBounds]
  by_cases h : i = j
  · subst h
    by_cases h2 : i < listed.size
    · simp [h2]
    · simp [h2]
  · simp [h, Ne.symm h]
theorem filter_less {l : List Nat} (p q : Nat → Bool) (hle : ∀ x ∈ l, q x = true → p x = true) {i : Nat} (hi : i ∈ l) (hp : p i = true) (hq : q i = false) : (l.filter q).length < (l.filter p).length := by
  induction l with
  | nil => cases hi
  | cons a l ih =>
    have hle' : (l.filter q).length ≤ (l.filter p).length := by
      clear ih hi
      induction l with
      | nil => simp
      | cons b l ih2 =>
        have h2 := ih2 (fun x hx => hle x (by rcases List.mem_cons.1 hx with rfl | hx <;> simp [*]))
        have h3 := hle b (by simp)
        by_cases hqb : q b = true
        · rw [List.filter_cons_of_pos hqb, List.filter_cons_of_pos (h3 hqb)]
          simp only [List.length_cons]; omega
        · rw [List.filter_cons_of_neg hqb]
          by_cases hpb : p b = true
          · rw [List.filter_cons_of_pos hpb]; simp only [List.length_cons]; omega
          · rw [List.filter_cons_of_neg hpb]; exact h2
    rcases List.mem_cons.1 hi with rfl | hi'
    · rw [List.filter_cons_of_pos hp, List.filter_cons_of_neg (by rw [hq]; simp)]
      simp only [List.length_cons]; omega
    · have h2 := ih (fun x hx => hle x (by simp [hx])) hi'
      have h3 := hle a (by simp)
      by_cases hqa : q a = true
      · rw [List.filter_cons_of_pos hqa, List.filter_cons_of_pos (h3 hqa)]
        simp only [List.length_cons]; omega
      · rw [List.filter_cons_of_neg hqa]
        by_cases hpa : p a = true
        · rw [List.filter_cons_of_pos hpa]; simp only [List.length_cons]; omega
        · rw [List.filter_cons_of_neg hpa]; exact h2
theorem left_less {listed : Array Bool} {i : Nat} (h : i ∈ Region.ready md ops listed) : leftN ops (listed.setIfInBounds i true) < leftN ops listed := by
  obtain ⟨h1, h2⟩ := ready_left h
  refine filter_less _ _ (fun x _ hx => ?_) (List.mem_range.2 h1) (by rw [h2]; rfl) (by rw [getD_set_any, if_pos rfl]; rfl)
  rw [getD_set_any] at hx
  by_cases hxi : x = i
  · rw [if_pos hxi] at hx; cases hx
  · rwa [if_neg hxi] at hx
/-- whatever order is drawn: by an invariant over what is listed -/
theorem wpAny_inv (I : Array Bool → Act → World → Prop) (hstep : ∀ listed a w i, I listed a w → i ∈ Region.ready md ops listed → wpOp P ops Q i (I (listed.setIfInBounds i true)) a w)
    (hdone : ∀ listed a w, I listed a w → Region.ready md ops listed = [] → Q .normal a w) :
    ∀ fuel listed a w, I listed a w → leftN ops listed ≤ fuel → wpAny P md ops Q fuel listed a w := by
  intro fuel
  induction fuel with
  | zero =>
    intro listed a w hI hl
    have hr : Region.ready md ops listed = [] := by
      apply List.eq_nil_iff_forall_not_mem.2
      intro i hi
      have := left_less hi
      omega
    exact ⟨hr, hdone listed a w hI hr⟩
  | succ fuel ih =>
    intro listed a w hI hl
    refine ⟨hdone listed a w hI, fun i hi => ?_⟩
    exact wpOp_mono (fun a' w' h => ih _ _ _ h (by have := left_less hi; omega)) (hstep listed a w i hI hi)
theorem wp_region_inv {id : Nat} {a : Act} {w : World} (hm : P.follows .mixedOrders = true) (I : Array Bool → Act → World → Prop)
    (h0 : I (Array.replicate ops.size false) a { w with drawn := w.drawn + 1 })
    (hstep : ∀ listed a w i, I listed a w → i ∈ Region.ready .any ops listed → wpOp P ops Q i (I (listed.setIfInBounds i true)) a w)
    (hdone : ∀ listed a w, I listed a w → Region.ready .any ops listed = [] → Q .normal a w) : (Code.region id ops true).wp P Q a w := by
  refine wp_region_any hm (wpAny_inv I hstep hdone _ _ _ _ h0 ?_)
  unfold leftN
  have := List.length_filter_le (fun i => !(Array.replicate ops.size false).getD i true) (List.range ops.size)
  rwa [List.length_range] at this
/-- what is listed waits for nothing -/
theorem ready_after {listed : Array Bool} {i : Nat} {o : Oper} (h : i ∈ Region.ready md ops listed) (ho : ops[i]? = some o) : ∀ e ∈ o.after, Region.binds md e = true → listed.getD e.on false = true := by
  unfold Region.ready at h
  obtain ⟨_, h2⟩ := List.mem_filter.1 h
  simp only [Bool.and_eq_true, ho, Option.map_some, Option.getD_some] at h2
  intro e he hb
  have := Array.all_eq_true_iff_forall_mem.1 h2.2 e he
  simpa [hb] using this
/-- the slots, once what is listed has put its value -/
def actsL (dst : Nat → Option Tmp) (vals : Nat → Value) (listed : Array Bool) (base : Act) : List Nat → Act
  | [] => base
  | i :: L => if listed.getD i true = true then (actsL dst vals listed base L).put (dst i) (vals i) else actsL dst vals listed base L
variable {dst : Nat → Option Tmp} {vals : Nat → Value} {base : Act}
theorem put_swap (a : Act) {d e : Option Tmp} {u v : Value} (h : d ≠ e ∨ d = none) : (a.put d u).put e v = (a.put e v).put d u := by
  cases d with
  | none => rfl
  | some d =>
    cases e with
    | none => rfl
    | some e =>
      have hne : d ≠ e := fun he => by
        rcases h with h | h
        · exact h (by rw [he])
        · cases h
      simp only [Act.put]
      congr 1
      exact Array.setIfInBounds_comm u v hne
theorem actsL_same {listed listed' : Array Bool} : ∀ L : List Nat, (∀ j ∈ L, listed.getD j true = listed'.getD j true) → actsL dst vals listed base L = actsL dst vals listed' base L
  | [], _ => rfl
  | i :: L, h => by
    rw [actsL, actsL, h i (by simp), actsL_same L (fun j hj => h j (by simp [hj]))]
theorem actsL_set {listed : Array Bool} {i : Nat} (hu : listed.getD i true = false) : ∀ L : List Nat, i ∈ L → L.Nodup → (∀ j ∈ L, j ≠ i → dst i ≠ dst j ∨ dst i = none) →
    actsL dst vals (listed.setIfInBounds i true) base L = (actsL dst vals listed base L).put (dst i) (vals i)
  | [], hi, _, _ => by cases hi
  | j :: L, hi, hn, hd => by
    rw [List.nodup_cons] at hn
    by_cases hji : j = i
    · subst hji
      have h1 : (listed.setIfInBounds j true).getD j true = true := by rw [getD_set_any, if_pos rfl]
      rw [actsL, if_pos h1, actsL, if_neg (by rw [hu]; simp)]
      rw [actsL_same (listed := listed.setIfInBounds j true) (listed' := listed) L (fun k hk => by
        rw [getD_set_any, if_neg (fun e => hn.1 (by rw [← e]; exact hk))])]
    · have h1 : (listed.setIfInBounds i true).getD j true = listed.getD j true := by rw [getD_set_any, if_neg hji]
      have hiL : i ∈ L := by
        rcases List.mem_cons.1 hi with e | e
        · exact absurd e.symm hji
        · exact e
      have ih := actsL_set hu L hiL hn.2 (fun k hk hki => hd k (by simp [hk]) hki)
      rw [actsL, actsL, h1, ih]
      split
      · exact put_swap _ (hd j (by simp) hji)
      · rfl
theorem actsL_size {listed : Array Bool} : ∀ L : List Nat, (actsL dst vals listed base L).tmps.size = base.tmps.size
  | [] => rfl
  | i :: L => by
    rw [actsL]
    split
    · rw [← actsL_size L]
      cases dst i with
      | none => rfl
      | some d => simp [Act.put]
    · exact actsL_size L
theorem actsL_base {listed : Array Bool} {d : Tmp} : ∀ L : List Nat, (∀ j ∈ L, dst j ≠ some d) → (actsL dst vals listed base L).tmps.getD d undef = base.tmps.getD d undef
  | [], _ => rfl
  | i :: L, h => by
    rw [actsL]
    have ih := actsL_base (listed := listed) L (fun j hj => h j (by simp [hj]))
    split
    · rw [← ih]
      have hi := h i (by simp)
      cases hd : dst i with
      | none => rfl
      | some e =>
        rw [hd] at hi
        have hne : e ≠ d := fun he => hi (by rw [he])
        simp [Act.put, Array.getD_eq_getD_getElem?, hne]
    · exact ih
theorem actsL_val {listed : Array Bool} {d : Tmp} {i : Nat} (hl : listed.getD i true = true) (hd : dst i = some d) (hs : d < base.tmps.size) : ∀ L : List Nat, i ∈ L → (∀ j ∈ L, j ≠ i → dst j ≠ some d) → (actsL dst vals listed base L).tmps.getD d undef = vals i
  | [], hi, _ => by cases hi
  | j :: L, hi, h => by
    by_cases hji : j = i
    · subst hji
      rw [actsL, if_pos hl, hd]
      have : d < (actsL dst vals listed base L).tmps.size := by rw [actsL_size]; exact hs
      simp [Act.put, Array.getD_eq_getD_getElem?, this]
    · have hiL : i ∈ L := by
        rcases List.mem_cons.1 hi with e | e
        · exact absurd e.symm hji
        · exact e
      have ih := actsL_val hl hd hs L hiL (fun k hk hki => h k (by simp [hk]) hki)
      have hj := h j (by simp) hji
      rw [actsL]
      split
      · rw [← ih]
        cases hdj : dst j with
        | none => rfl
        | some e =>
          rw [hdj] at hj
          have hne : e ≠ d := fun he => hj (by rw [he])
          simp [Act.put, Array.getD_eq_getD_getElem?, hne]
      · exact ih
end
end Go.Proofs.Ytegmeepogjijiaa
namespace Go.Proofs.Ytegmeepogjijiaa
open Go.RowKit Go.Maps Croft

theorem PlainIs.put_run {w : World} {pb sz : Nat} {S : Int → Option (List Int)} {X : Int → F} (hs : PlainIs w pb sz S X) (h8 : sz ≤ 8) (z : Int) (hz : I64 z) (y : F) (hn : S z = none) (l : List Int) :
    ∃ w', (Instr.mapUpdate 40 (.map (some pb)) (.int .i64 z) (.int .u64 (ofF y))).run Try.prog w = .ok () w' ∧ PlainIs w' pb (sz + 1) (upd S z (some l)) (updX X z y) ∧ w.grownBy w' (some pb) := by
  obtain ⟨D, hD⟩ := hs
  obtain ⟨w', hrun, r1, r2⟩ := hD.1.update ilaw Try.underlying40 (by unfold maxLen; omega) (keyOf_i64 hz) (plainElem_int Try.underlying23 (plain_wf y))
  exact ⟨w', hrun, PlainIs.put hD hn r1, r2⟩
theorem insert_wp {ops : Array Oper} {Q : Exit → Act → World → Prop} {i : Nat} {o : Oper} {a : Act} {w : World} {K : Act → World → Prop} (hi : ops[i]? = some o) (hg : o.guard = none) (m x v : Operand) (hop : o.op = Op.insert 40 m x v)
    {pb sz : Nat} {S : Int → Option (List Int)} {X : Int → F} (hm : a.eval m = .map (some pb)) (hs : PlainIs w pb sz S X) (h8 : sz ≤ 8) (z : Int) (hz : I64 z) (y : F) (hx : a.eval x = .int .i64 z) (hv : a.eval v = .int .u64 (ofF y)) (hn : S z = none) (l : List Int)
    (hK : ∀ w', PlainIs w' pb (sz + 1) (upd S z (some l)) (updX X z y) → w.grownBy w' (some pb) → K (a.put o.dst undef) w') : wpOp Try.prog ops Q i K a w := by
  obtain ⟨w', hrun, h1, h2⟩ := hs.put_run h8 z hz y hn l
  refine wpOp_step hi fun K' hK' => ?_
  rw [if_pos (by simp [Region.wanted, hg])]
  unfold Oper.wp
  simp [execOp, hop, hm, hx, hv, hrun, Result.andThen]
  exact hK' _ _ (hK w' h1 h2)
theorem move_wp {P : Program} {ops : Array Oper} {Q : Exit → Act → World → Prop} {i : Nat} {o : Oper} {a : Act} {w : World} {K : Act → World → Prop} (hi : ops[i]? = some o) (hg : o.guard = none) (x : Operand) (hop : o.op = Op.move x) (hK : K (a.put o.dst (a.eval x)) w) : wpOp P ops Q i K a w := by
  refine wpOp_step hi fun K' hK' => ?_
  rw [if_pos (by simp [Region.wanted, hg])]
  unfold Oper.wp
  simp [execOp, hop]
  exact hK' _ _ hK
theorem assign_wp {P : Program} {ops : Array Oper} {Q : Exit → Act → World → Prop} {i : Nat} {o : Oper} {a : Act} {w : World} {K : Act → World → Prop} (hi : ops[i]? = some o) (hg : o.guard = none) (x : Operand) (hop : o.op = Op.assign x) (hK : K (a.put o.dst (a.eval x)) w) : wpOp P ops Q i K a w := by
  refine wpOp_step hi fun K' hK' => ?_
  rw [if_pos (by simp [Region.wanted, hg])]
  unfold Oper.wp
  simp [execOp, hop]
  exact hK' _ _ hK
theorem call_wp {ops : Array Oper} {Q : Exit → Act → World → Prop} {i : Nat} {o : Oper} {a : Act} {w : World} {K : Act → World → Prop} (hi : ops[i]? = some o) (hg : o.guard = none) (F : FuncId) (x y : Operand) (ts : Array TypeId) (hop : o.op = Op.call { callee := Callee.value (Operand.func F), args := #[x, y], argTypes := ts })
    (hcf : ∀ (x y : Value) (W : World), (callFunc F #[x, y]).run Try.prog W = .ok (.enter F #[x, y]) W)
    {vx vy v : Value} (hx : a.eval x = vx) (hy : a.eval y = vy) (hc : Calls Try.prog F #[vx, vy] w fun e w' => e = .returned v ∧ w = w') (hK : K (a.put o.dst v) w) : wpOp Try.prog ops Q i K a w := by
  refine wpOp_step hi fun K' hK' => ?_
  rw [if_pos (by simp [Region.wanted, hg])]
  have he : (execOp a.eval o).run Try.prog w = .ok (.enter F #[vx, vy]) w := by
    rw [← hcf vx vy w]
    have hF : a.eval (Operand.func F) = .func (.func F) #[] #[] := rfl
    simp [execOp, hop, resolve, invoke, hF, hx, hy, Deferred.ofValue]
  unfold Oper.wp
  rw [he, Oper.upon_enter]
  refine hc.mono ?_
  rintro e w' ⟨rfl, rfl⟩
  exact hK' _ _ hK
theorem makeMap_wp {ops : Array Oper} {Q : Exit → Act → World → Prop} {i : Nat} {o : Oper} {a : Act} {w : World} {K : Act → World → Prop} (hi : ops[i]? = some o) (hg : o.guard = none) (hop : o.op = Op.makeMap 40 none)
    (hK : K (a.put o.dst (.map (some w.heap.size))) (w.alloc (.map #[] 0))) : wpOp Try.prog ops Q i K a w := by
  have hmm := @run_makeMap Try.prog
  refine wpOp_step hi fun K' hK' => ?_
  rw [if_pos (by simp [Region.wanted, hg])]
  unfold Oper.wp
  simp [execOp, hop, hmm]
  exact hK' _ _ hK
theorem PlainIs.made (w : World) (X : Int → F) : PlainIs (w.alloc (.map #[] 0)) w.heap.size 0 (fun _ => none) X := ⟨_, World.ownsMap_made w _ _ _, rfl, fun _ => rfl, fun z d h => by simp at h⟩
end Go.Proofs.Ytegmeepogjijiaa
namespace Go.Proofs.Ytegmeepogjijiaa
open Go.RowKit Go.Maps Croft

def specK : List (Option Tmp × Op × Option (Nat × Bool)) := [(some 183, Op.makeMap 40 none, none), (some 184, Op.move (.tmp 19), none), (some 185, Op.move (.tmp 22), none), (none, Op.insert 40 (.tmp 183) (.tmp 184) (.tmp 185), none), (some 186, Op.move (.tmp 20), none), (some 187, Op.move (.tmp 24), none), (none, Op.insert 40 (.tmp 183) (.tmp 186) (.tmp 187), none), (some 188, Op.move (.tmp 26), none), (some 189, Op.move (.tmp 22), none), (some 190, Op.move (.tmp 4), none), (some 191, Op.call { callee := Callee.value (Operand.func 19), args := #[(.tmp 189), (.tmp 190)], argTypes := #[23, 23] }, none), (none, Op.insert 40 (.tmp 183) (.tmp 188) (.tmp 191), none), (some 192, Op.move (.tmp 27), none), (some 193, Op.move (.tmp 4), none), (some 194, Op.move (.tmp 22), none), (some 195, Op.call { callee := Callee.value (Operand.func 20), args := #[(.tmp 193), (.tmp 194)], argTypes := #[23, 23] }, none), (some 196, Op.move (.tmp 5), none), (some 197, Op.move (.tmp 24), none), (some 198, Op.call { callee := Callee.value (Operand.func 20), args := #[(.tmp 196), (.tmp 197)], argTypes := #[23, 23] }, none), (some 199, Op.call { callee := Callee.value (Operand.func 19), args := #[(.tmp 195), (.tmp 198)], argTypes := #[23, 23] }, none), (none, Op.insert 40 (.tmp 183) (.tmp 192) (.tmp 199), none), (some 200, Op.move (.tmp 28), none), (some 201, Op.move (.tmp 22), none), (some 202, Op.move (.tmp 24), none), (some 203, Op.call { callee := Callee.value (Operand.func 20), args := #[(.tmp 201), (.tmp 202)], argTypes := #[23, 23] }, none), (none, Op.insert 40 (.tmp 183) (.tmp 200) (.tmp 203), none), (some 204, Op.move (.tmp 183), none), (some 29, Op.assign (.tmp 204), none)]
def dstK (i : Nat) : Option Tmp := ([some 183, some 184, some 185, none, some 186, some 187, none, some 188, some 189, some 190, some 191, none, some 192, some 193, some 194, some 195, some 196, some 197, some 198, some 199, none, some 200, some 201, some 202, some 203, none, some 204, some 29] : List (Option Tmp)).getD i none
def depK (i : Nat) : List Nat := ([[], [], [], [0, 1, 2], [], [], [0, 4, 5], [], [], [], [8, 9], [0, 7, 10], [], [], [], [13, 14], [], [], [16, 17], [15, 18], [0, 12, 19], [], [], [], [22, 23], [0, 21, 24], [0, 3, 6, 11, 20, 25], [26, 3, 6, 11, 20, 25]] : List (List Nat)).getD i []
def depsB (ops : Array Oper) : Bool := (List.range 28).all fun i => (depK i).all fun j => match ops[i]? with
  | some o => o.after.any fun e => Region.binds .any e && e.on == j
  | none => false
theorem spec_at {ops : Array Oper} (h : (ops.toList.map fun o => (o.dst, o.op, o.guard)) = specK) {i : Nat} {d : Option Tmp} {op : Op} (hs : specK[i]? = some (d, op, none)) : ∃ o, ops[i]? = some o ∧ o.dst = d ∧ o.op = op ∧ o.guard = none := by
  rw [← h, List.getElem?_map] at hs
  cases ho : ops.toList[i]? with
  | none => rw [ho] at hs; cases hs
  | some o =>
    rw [ho] at hs
    have h2 := Option.some.inj hs
    simp only [Prod.mk.injEq] at h2
    exact ⟨o, by rw [← Array.getElem?_toList]; exact ho, h2.1, h2.2.1, h2.2.2⟩
theorem dep_at {ops : Array Oper} (h : depsB ops = true) {listed : Array Bool} {i : Nat} (hi : i < 28) (hr : i ∈ Region.ready .any ops listed) : ∀ j ∈ depK i, listed.getD j true = true := by
  intro j hj
  have h1 := List.all_eq_true.1 (List.all_eq_true.1 h i (List.mem_range.2 hi)) j hj
  cases ho : ops[i]? with
  | none => rw [ho] at h1; cases h1
  | some o =>
    rw [ho] at h1
    obtain ⟨e, he, hb⟩ := Array.any_eq_true'.1 h1
    simp only [Bool.and_eq_true, beq_iff_eq] at hb
    have h2 := ready_after hr ho e he hb.1
    rw [hb.2] at h2
    rw [Array.getD_eq_getD_getElem?] at h2 ⊢
    cases hl : listed[j]? with
    | none => rw [hl] at h2; cases h2
    | some b => rw [hl] at h2; exact h2
structure Keys5 (kg kh kw kc km : Int) : Prop where
  d : [kg, kh, kw, kc, km].Nodup
  i : I64 kg ∧ I64 kh ∧ I64 kw ∧ I64 kc ∧ I64 km
def keysS (kg kh kw kc km : Int) (b3 b6 b11 b20 b25 : Bool) (z : Int) : Option (List Int) := if (b3 = true ∧ z = kg) ∨ (b6 = true ∧ z = kh) ∨ (b11 = true ∧ z = kw) ∨ (b20 = true ∧ z = kc) ∨ (b25 = true ∧ z = km) then some [] else none
def WI (W : World) (X : Int → F) (kg kh kw kc km : Int) (b0 b3 b6 b11 b20 b25 : Bool) (w : World) : Prop :=
  (b0 = false ∧ b3 = false ∧ b6 = false ∧ b11 = false ∧ b20 = false ∧ b25 = false ∧ w = W) ∨ (b0 = true ∧ PlainIs w W.heap.size (b3.toNat + b6.toNat + b11.toNat + b20.toNat + b25.toNat) (keysS kg kh kw kc km b3 b6 b11 b20 b25) X ∧ Below W.heap.size W w ∧ W.heap.size < w.heap.size)
variable {W w : World} {X : Int → F} {kg kh kw kc km : Int} {b3 b6 b11 b20 b25 : Bool}
theorem updX_same (X : Int → F) (z : Int) : updX X z (X z) = X := by
  funext y
  unfold updX
  split
  · rename_i h; rw [h]
  · rfl
theorem WI.make : WI W X kg kh kw kc km true false false false false false (W.alloc (.map #[] 0)) := by
  refine .inr ⟨rfl, ?_, (Below.refl _ _).alloc (Nat.le_refl _) _, by rw [size_alloc]; omega⟩
  refine (PlainIs.made W X).same fun z => ?_
  simp [keysS]
theorem WI.ins_b3 {w' : World} (hb : Below W.heap.size W w) (hlt : W.heap.size < w.heap.size) (h : PlainIs w' W.heap.size ((false).toNat + b6.toNat + b11.toNat + b20.toNat + b25.toNat + 1) (upd (keysS kg kh kw kc km false b6 b11 b20 b25) kg (some [])) (updX X kg (X kg))) (hg : w.grownBy w' (some W.heap.size)) : WI W X kg kh kw kc km true true b6 b11 b20 b25 w' := by
  rw [updX_same] at h
  refine .inr ⟨rfl, ?_, below_grown hb hg (Nat.le_refl _) (by omega), Nat.lt_of_lt_of_le hlt hg.size⟩
  have e : ((false).toNat + b6.toNat + b11.toNat + b20.toNat + b25.toNat) + 1 = (true).toNat + b6.toNat + b11.toNat + b20.toNat + b25.toNat := by first | (simp only [Bool.toNat_true, Bool.toNat_false]; omega) | simp only [Bool.toNat_true, Bool.toNat_false]
  rw [← e]
  refine h.same fun z => ?_
  unfold upd keysS
  by_cases hz : z = kg <;> simp [hz]
theorem Keys5.fresh_b3 (hk : Keys5 kg kh kw kc km) : keysS kg kh kw kc km false b6 b11 b20 b25 kg = none := by
  have hd := hk.d
  simp only [List.nodup_cons, List.mem_cons, List.not_mem_nil, not_or, not_false_eq_true, and_true, List.nodup_nil, or_false] at hd
  obtain ⟨⟨h1, h2, h3, h4⟩, ⟨h5, h6, h7⟩, ⟨h8, h9⟩, h10⟩ := hd
  unfold keysS
  rw [if_neg]
  rintro (h | h | h | h | h)
  · cases h.1
  · exact absurd h.2 (by omega)
  · exact absurd h.2 (by omega)
  · exact absurd h.2 (by omega)
  · exact absurd h.2 (by omega)
theorem WI.ins_b6 {w' : World} (hb : Below W.heap.size W w) (hlt : W.heap.size < w.heap.size) (h : PlainIs w' W.heap.size (b3.toNat + (false).toNat + b11.toNat + b20.toNat + b25.toNat + 1) (upd (keysS kg kh kw kc km b3 false b11 b20 b25) kh (some [])) (updX X kh (X kh))) (hg : w.grownBy w' (some W.heap.size)) : WI W X kg kh kw kc km true b3 true b11 b20 b25 w' := by
  rw [updX_same] at h
  refine .inr ⟨rfl, ?_, below_grown hb hg (Nat.le_refl _) (by omega), Nat.lt_of_lt_of_le hlt hg.size⟩
  have e : (b3.toNat + (false).toNat + b11.toNat + b20.toNat + b25.toNat) + 1 = b3.toNat + (true).toNat + b11.toNat + b20.toNat + b25.toNat := by first | (simp only [Bool.toNat_true, Bool.toNat_false]; omega) | simp only [Bool.toNat_true, Bool.toNat_false]
  rw [← e]
  refine h.same fun z => ?_
  unfold upd keysS
  by_cases hz : z = kh <;> simp [hz]
theorem Keys5.fresh_b6 (hk : Keys5 kg kh kw kc km) : keysS kg kh kw kc km b3 false b11 b20 b25 kh = none := by
  have hd := hk.d
  simp only [List.nodup_cons, List.mem_cons, List.not_mem_nil, not_or, not_false_eq_true, and_true, List.nodup_nil, or_false] at hd
  obtain ⟨⟨h1, h2, h3, h4⟩, ⟨h5, h6, h7⟩, ⟨h8, h9⟩, h10⟩ := hd
  unfold keysS
  rw [if_neg]
  rintro (h | h | h | h | h)
  · exact absurd h.2 (by omega)
  · cases h.1
  · exact absurd h.2 (by omega)
  · exact absurd h.2 (by omega)
  · exact absurd h.2 (by omega)
theorem WI.ins_b11 {w' : World} (hb : Below W.heap.size W w) (hlt : W.heap.size < w.heap.size) (h : PlainIs w' W.heap.size (b3.toNat + b6.toNat + (false).toNat + b20.toNat + b25.toNat + 1) (upd (keysS kg kh kw kc km b3 b6 false b20 b25) kw (some [])) (updX X kw (X kw))) (hg : w.grownBy w' (some W.heap.size)) : WI W X kg kh kw kc km true b3 b6 true b20 b25 w' := by
  rw [updX_same] at h
  refine .inr ⟨rfl, ?_, below_grown hb hg (Nat.le_refl _) (by omega), Nat.lt_of_lt_of_le hlt hg.size⟩
  have e : (b3.toNat + b6.toNat + (false).toNat + b20.toNat + b25.toNat) + 1 = b3.toNat + b6.toNat + (true).toNat + b20.toNat + b25.toNat := by first | (simp only [Bool.toNat_true, Bool.toNat_false]; omega) | simp only [Bool.toNat_true, Bool.toNat_false]
  rw [← e]
  refine h.same fun z => ?_
  unfold upd keysS
  by_cases hz : z = kw <;> simp [hz]
theorem Keys5.fresh_b11 (hk : Keys5 kg kh kw kc km) : keysS kg kh kw kc km b3 b6 false b20 b25 kw = none := by
  have hd := hk.d
  simp only [List.nodup_cons, List.mem_cons, List.not_mem_nil, not_or, not_false_eq_true, and_true, List.nodup_nil, or_false] at hd
  obtain ⟨⟨h1, h2, h3, h4⟩, ⟨h5, h6, h7⟩, ⟨h8, h9⟩, h10⟩ := hd
  unfold keysS
  rw [if_neg]
  rintro (h | h | h | h | h)
  · exact absurd h.2 (by omega)
  · exact absurd h.2 (by omega)
  · cases h.1
  · exact absurd h.2 (by omega)
  · exact absurd h.2 (by omega)
theorem WI.ins_b20 {w' : World} (hb : Below W.heap.size W w) (hlt : W.heap.size < w.heap.size) (h : PlainIs w' W.heap.size (b3.toNat + b6.toNat + b11.toNat + (false).toNat + b25.toNat + 1) (upd (keysS kg kh kw kc km b3 b6 b11 false b25) kc (some [])) (updX X kc (X kc))) (hg : w.grownBy w' (some W.heap.size)) : WI W X kg kh kw kc km true b3 b6 b11 true b25 w' := by
  rw [updX_same] at h
  refine .inr ⟨rfl, ?_, below_grown hb hg (Nat.le_refl _) (by omega), Nat.lt_of_lt_of_le hlt hg.size⟩
  have e : (b3.toNat + b6.toNat + b11.toNat + (false).toNat + b25.toNat) + 1 = b3.toNat + b6.toNat + b11.toNat + (true).toNat + b25.toNat := by first | (simp only [Bool.toNat_true, Bool.toNat_false]; omega) | simp only [Bool.toNat_true, Bool.toNat_false]
  rw [← e]
  refine h.same fun z => ?_
  unfold upd keysS
  by_cases hz : z = kc <;> simp [hz]
theorem Keys5.fresh_b20 (hk : Keys5 kg kh kw kc km) : keysS kg kh kw kc km b3 b6 b11 false b25 kc = none := by
  have hd := hk.d
  simp only [List.nodup_cons, List.mem_cons, List.not_mem_nil, not_or, not_false_eq_true, and_true, List.nodup_nil, or_false] at hd
  obtain ⟨⟨h1, h2, h3, h4⟩, ⟨h5, h6, h7⟩, ⟨h8, h9⟩, h10⟩ := hd
  unfold keysS
  rw [if_neg]
  rintro (h | h | h | h | h)
  · exact absurd h.2 (by omega)
  · exact absurd h.2 (by omega)
  · exact absurd h.2 (by omega)
  · cases h.1
  · exact absurd h.2 (by omega)
theorem WI.ins_b25 {w' : World} (hb : Below W.heap.size W w) (hlt : W.heap.size < w.heap.size) (h : PlainIs w' W.heap.size (b3.toNat + b6.toNat + b11.toNat + b20.toNat + (false).toNat + 1) (upd (keysS kg kh kw kc km b3 b6 b11 b20 false) km (some [])) (updX X km (X km))) (hg : w.grownBy w' (some W.heap.size)) : WI W X kg kh kw kc km true b3 b6 b11 b20 true w' := by
  rw [updX_same] at h
  refine .inr ⟨rfl, ?_, below_grown hb hg (Nat.le_refl _) (by omega), Nat.lt_of_lt_of_le hlt hg.size⟩
  have e : (b3.toNat + b6.toNat + b11.toNat + b20.toNat + (false).toNat) + 1 = b3.toNat + b6.toNat + b11.toNat + b20.toNat + (true).toNat := by first | (simp only [Bool.toNat_true, Bool.toNat_false]; omega) | simp only [Bool.toNat_true, Bool.toNat_false]
  rw [← e]
  refine h.same fun z => ?_
  unfold upd keysS
  by_cases hz : z = km <;> simp [hz]
theorem Keys5.fresh_b25 (hk : Keys5 kg kh kw kc km) : keysS kg kh kw kc km b3 b6 b11 b20 false km = none := by
  have hd := hk.d
  simp only [List.nodup_cons, List.mem_cons, List.not_mem_nil, not_or, not_false_eq_true, and_true, List.nodup_nil, or_false] at hd
  obtain ⟨⟨h1, h2, h3, h4⟩, ⟨h5, h6, h7⟩, ⟨h8, h9⟩, h10⟩ := hd
  unfold keysS
  rw [if_neg]
  rintro (h | h | h | h | h)
  · exact absurd h.2 (by omega)
  · exact absurd h.2 (by omega)
  · exact absurd h.2 (by omega)
  · exact absurd h.2 (by omega)
  · cases h.1
def valK (W : World) (X : Int → F) (kg kh kw kc km av bv : Int) (i : Nat) : Value := ([.map (some W.heap.size), .int .i64 kg, .int .u64 (ofF (X kg)), undef, .int .i64 kh, .int .u64 (ofF (X kh)), undef, .int .i64 kw, .int .u64 (ofF (X kg)), .int .u64 av, .int .u64 (ofF (X kw)), undef, .int .i64 kc, .int .u64 av, .int .u64 (ofF (X kg)), .int .u64 (ofF (toF av * X kg)), .int .u64 bv, .int .u64 (ofF (X kh)), .int .u64 (ofF (toF bv * X kh)), .int .u64 (ofF (X kc)), undef, .int .i64 km, .int .u64 (ofF (X kg)), .int .u64 (ofF (X kh)), .int .u64 (ofF (X km)), undef, .map (some W.heap.size), .map (some W.heap.size)] : List Value).getD i undef
structure BaseK (base : Act) (X : Int → F) (kg kh kw kc km av bv : Int) : Prop where
  size : 204 < base.tmps.size
  t4 : base.tmps.getD 4 undef = .int .u64 av
  t5 : base.tmps.getD 5 undef = .int .u64 bv
  t19 : base.tmps.getD 19 undef = .int .i64 kg
  t20 : base.tmps.getD 20 undef = .int .i64 kh
  t22 : base.tmps.getD 22 undef = .int .u64 (ofF (X kg))
  t24 : base.tmps.getD 24 undef = .int .u64 (ofF (X kh))
  t26 : base.tmps.getD 26 undef = .int .i64 kw
  t27 : base.tmps.getD 27 undef = .int .i64 kc
  t28 : base.tmps.getD 28 undef = .int .i64 km
  xw : X kw = X kg + toF av
  xc : X kc = toF av * X kg + toF bv * X kh
  xm : X km = X kg * X kh
  av : 0 ≤ av
  bv : 0 ≤ bv
def IK (base : Act) (W : World) (X : Int → F) (kg kh kw kc km av bv : Int) (l : Array Bool) (a : Act) (w : World) : Prop := a = actsL dstK (valK W X kg kh kw kc km av bv) l base (List.range 28) ∧ WI W X kg kh kw kc km (l.getD 0 true) (l.getD 3 true) (l.getD 6 true) (l.getD 11 true) (l.getD 20 true) (l.getD 25 true) w
variable {base : Act} {av bv : Int} {l : Array Bool}
theorem IK.set {i : Nat} (hi : i < 28) (hu : l.getD i true = false) {v : Value} (hv : v = valK W X kg kh kw kc km av bv i) {w' : World} (hw : WI W X kg kh kw kc km ((l.setIfInBounds i true).getD 0 true) ((l.setIfInBounds i true).getD 3 true) ((l.setIfInBounds i true).getD 6 true) ((l.setIfInBounds i true).getD 11 true) ((l.setIfInBounds i true).getD 20 true) ((l.setIfInBounds i true).getD 25 true) w') :
    IK base W X kg kh kw kc km av bv (l.setIfInBounds i true) ((actsL dstK (valK W X kg kh kw kc km av bv) l base (List.range 28)).put (dstK i) v) w' := by
  refine ⟨?_, hw⟩
  rw [hv]
  symm
  refine actsL_set hu _ (List.mem_range.2 hi) List.nodup_range fun j hj hji => ?_
  have h : ∀ i j : Fin 28, j ≠ i → dstK i.1 ≠ dstK j.1 ∨ dstK i.1 = none := by decide
  exact h ⟨i, hi⟩ ⟨j, List.mem_range.1 hj⟩ (fun e => hji (congrArg Fin.val e))
theorem val_at {i : Nat} {d : Tmp} (hl : l.getD i true = true) (hi : i < 28) (hd : dstK i = some d) (hs : 204 < base.tmps.size) : (actsL dstK (valK W X kg kh kw kc km av bv) l base (List.range 28)).eval (.tmp d) = valK W X kg kh kw kc km av bv i := by
  have hd2 : (d : Nat) < 205 := by
    have h : ∀ i : Fin 28, ∀ d, dstK i.1 = some d → d < 205 := by decide
    exact h ⟨i, hi⟩ d hd
  refine actsL_val hl hd (Nat.lt_of_lt_of_le hd2 hs) _ (List.mem_range.2 hi) fun j hj hji e => ?_
  have h : ∀ i j : Fin 28, j ≠ i → dstK i.1 ≠ none → dstK j.1 ≠ dstK i.1 := by decide
  exact h ⟨i, hi⟩ ⟨j, List.mem_range.1 hj⟩ (fun e => hji (congrArg Fin.val e)) (by rw [hd]; simp) (by rw [e, hd])
theorem base_at {d : Tmp} (hd : ((List.range 28).all fun j => dstK j != some d) = true) : (actsL dstK (valK W X kg kh kw kc km av bv) l base (List.range 28)).eval (.tmp d) = base.tmps.getD d undef := by
  refine actsL_base _ fun j hj => ?_
  have := List.all_eq_true.1 hd j hj
  simpa using this
theorem stepK0 {ops : Array Oper} {Q : Exit → Act → World → Prop} (hs : (ops.toList.map fun o => (o.dst, o.op, o.guard)) = specK) {a : Act} (hI : IK base W X kg kh kw kc km av bv l a w) (hr : 0 ∈ Region.ready .any ops l) : wpOp Try.prog ops Q 0 (IK base W X kg kh kw kc km av bv (l.setIfInBounds 0 true)) a w := by
  obtain ⟨rfl, hW⟩ := hI
  have hu := (ready_left hr).2
  obtain ⟨o, ho, h1, h2, h3⟩ := spec_at hs (i := 0) rfl
  rw [hu] at hW
  rcases hW with ⟨_, e3, e6, e11, e20, e25, rfl⟩ | ⟨hf, _⟩
  · refine makeMap_wp ho h3 h2 ?_
    rw [h1]
    refine IK.set (i := 0) (by omega) hu rfl ?_
    simp only [getD_set_any]
    rw [e3, e6, e11, e20, e25]
    exact WI.make
  · cases hf
theorem stepK1 {ops : Array Oper} {Q : Exit → Act → World → Prop} (hs : (ops.toList.map fun o => (o.dst, o.op, o.guard)) = specK) (hd : depsB ops = true) (B : BaseK base X kg kh kw kc km av bv) {a : Act} (hI : IK base W X kg kh kw kc km av bv l a w) (hr : 1 ∈ Region.ready .any ops l) : wpOp Try.prog ops Q 1 (IK base W X kg kh kw kc km av bv (l.setIfInBounds 1 true)) a w := by
  obtain ⟨rfl, hW⟩ := hI
  have hu := (ready_left hr).2
  have hD := dep_at hd (by omega) hr
  obtain ⟨o, ho, h1, h2, h3⟩ := spec_at hs (i := 1) rfl
  refine move_wp ho h3 _ h2 ?_
  rw [h1]
  exact IK.set (i := 1) (by omega) hu ((base_at (by decide)).trans B.t19) (by simp only [getD_set_any]; exact hW)
theorem stepK2 {ops : Array Oper} {Q : Exit → Act → World → Prop} (hs : (ops.toList.map fun o => (o.dst, o.op, o.guard)) = specK) (hd : depsB ops = true) (B : BaseK base X kg kh kw kc km av bv) {a : Act} (hI : IK base W X kg kh kw kc km av bv l a w) (hr : 2 ∈ Region.ready .any ops l) : wpOp Try.prog ops Q 2 (IK base W X kg kh kw kc km av bv (l.setIfInBounds 2 true)) a w := by
  obtain ⟨rfl, hW⟩ := hI
  have hu := (ready_left hr).2
  have hD := dep_at hd (by omega) hr
  obtain ⟨o, ho, h1, h2, h3⟩ := spec_at hs (i := 2) rfl
  refine move_wp ho h3 _ h2 ?_
  rw [h1]
  exact IK.set (i := 2) (by omega) hu ((base_at (by decide)).trans B.t22) (by simp only [getD_set_any]; exact hW)
theorem stepK3 {ops : Array Oper} {Q : Exit → Act → World → Prop} (hs : (ops.toList.map fun o => (o.dst, o.op, o.guard)) = specK) (hd : depsB ops = true) (B : BaseK base X kg kh kw kc km av bv) (hk : Keys5 kg kh kw kc km) {a : Act} (hI : IK base W X kg kh kw kc km av bv l a w) (hr : 3 ∈ Region.ready .any ops l) : wpOp Try.prog ops Q 3 (IK base W X kg kh kw kc km av bv (l.setIfInBounds 3 true)) a w := by
  obtain ⟨rfl, hW⟩ := hI
  have hu := (ready_left hr).2
  have hD := dep_at hd (by omega) hr
  obtain ⟨o, ho, h1, h2, h3⟩ := spec_at hs (i := 3) rfl
  have h0 := hD 0 (by decide)
  rw [h0, hu] at hW
  rcases hW with ⟨hf, _⟩ | ⟨_, hP, hB, hlt⟩
  · cases hf
  refine insert_wp ho h3 _ _ _ h2 ((val_at (hD 0 (by decide)) (by omega) rfl B.size).trans rfl) hP (by have := @Bool.toNat_le; have h9 := this (l.getD 3 true); have h10 := this (l.getD 6 true); have h11 := this (l.getD 11 true); have h12 := this (l.getD 20 true); have h13 := this (l.getD 25 true); simp only [Bool.toNat_false]; omega) kg hk.i.1 (X kg) ((val_at (hD 1 (by decide)) (by omega) rfl B.size).trans rfl) ((val_at (hD 2 (by decide)) (by omega) rfl B.size).trans rfl) (hk.fresh_b3) [] ?_
  intro w' hP' hg
  rw [h1]
  refine IK.set (i := 3) (by omega) hu rfl ?_
  have hW2 := WI.ins_b3 hB hlt hP' hg
  simp only [getD_set_any]
  rw [h0]
  exact hW2
theorem stepK4 {ops : Array Oper} {Q : Exit → Act → World → Prop} (hs : (ops.toList.map fun o => (o.dst, o.op, o.guard)) = specK) (hd : depsB ops = true) (B : BaseK base X kg kh kw kc km av bv) {a : Act} (hI : IK base W X kg kh kw kc km av bv l a w) (hr : 4 ∈ Region.ready .any ops l) : wpOp Try.prog ops Q 4 (IK base W X kg kh kw kc km av bv (l.setIfInBounds 4 true)) a w := by
  obtain ⟨rfl, hW⟩ := hI
  have hu := (ready_left hr).2
  have hD := dep_at hd (by omega) hr
  obtain ⟨o, ho, h1, h2, h3⟩ := spec_at hs (i := 4) rfl
  refine move_wp ho h3 _ h2 ?_
  rw [h1]
  exact IK.set (i := 4) (by omega) hu ((base_at (by decide)).trans B.t20) (by simp only [getD_set_any]; exact hW)
theorem stepK5 {ops : Array Oper} {Q : Exit → Act → World → Prop} (hs : (ops.toList.map fun o => (o.dst, o.op, o.guard)) = specK) (hd : depsB ops = true) (B : BaseK base X kg kh kw kc km av bv) {a : Act} (hI : IK base W X kg kh kw kc km av bv l a w) (hr : 5 ∈ Region.ready .any ops l) : wpOp Try.prog ops Q 5 (IK base W X kg kh kw kc km av bv (l.setIfInBounds 5 true)) a w := by
  obtain ⟨rfl, hW⟩ := hI
  have hu := (ready_left hr).2
  have hD := dep_at hd (by omega) hr
  obtain ⟨o, ho, h1, h2, h3⟩ := spec_at hs (i := 5) rfl
  refine move_wp ho h3 _ h2 ?_
  rw [h1]
  exact IK.set (i := 5) (by omega) hu ((base_at (by decide)).trans B.t24) (by simp only [getD_set_any]; exact hW)
theorem stepK6 {ops : Array Oper} {Q : Exit → Act → World → Prop} (hs : (ops.toList.map fun o => (o.dst, o.op, o.guard)) = specK) (hd : depsB ops = true) (B : BaseK base X kg kh kw kc km av bv) (hk : Keys5 kg kh kw kc km) {a : Act} (hI : IK base W X kg kh kw kc km av bv l a w) (hr : 6 ∈ Region.ready .any ops l) : wpOp Try.prog ops Q 6 (IK base W X kg kh kw kc km av bv (l.setIfInBounds 6 true)) a w := by
  obtain ⟨rfl, hW⟩ := hI
  have hu := (ready_left hr).2
  have hD := dep_at hd (by omega) hr
  obtain ⟨o, ho, h1, h2, h3⟩ := spec_at hs (i := 6) rfl
  have h0 := hD 0 (by decide)
  rw [h0, hu] at hW
  rcases hW with ⟨hf, _⟩ | ⟨_, hP, hB, hlt⟩
  · cases hf
  refine insert_wp ho h3 _ _ _ h2 ((val_at (hD 0 (by decide)) (by omega) rfl B.size).trans rfl) hP (by have := @Bool.toNat_le; have h9 := this (l.getD 3 true); have h10 := this (l.getD 6 true); have h11 := this (l.getD 11 true); have h12 := this (l.getD 20 true); have h13 := this (l.getD 25 true); simp only [Bool.toNat_false]; omega) kh hk.i.2.1 (X kh) ((val_at (hD 4 (by decide)) (by omega) rfl B.size).trans rfl) ((val_at (hD 5 (by decide)) (by omega) rfl B.size).trans rfl) (hk.fresh_b6) [] ?_
  intro w' hP' hg
  rw [h1]
  refine IK.set (i := 6) (by omega) hu rfl ?_
  have hW2 := WI.ins_b6 hB hlt hP' hg
  simp only [getD_set_any]
  rw [h0]
  exact hW2
theorem stepK7 {ops : Array Oper} {Q : Exit → Act → World → Prop} (hs : (ops.toList.map fun o => (o.dst, o.op, o.guard)) = specK) (hd : depsB ops = true) (B : BaseK base X kg kh kw kc km av bv) {a : Act} (hI : IK base W X kg kh kw kc km av bv l a w) (hr : 7 ∈ Region.ready .any ops l) : wpOp Try.prog ops Q 7 (IK base W X kg kh kw kc km av bv (l.setIfInBounds 7 true)) a w := by
  obtain ⟨rfl, hW⟩ := hI
  have hu := (ready_left hr).2
  have hD := dep_at hd (by omega) hr
  obtain ⟨o, ho, h1, h2, h3⟩ := spec_at hs (i := 7) rfl
  refine move_wp ho h3 _ h2 ?_
  rw [h1]
  exact IK.set (i := 7) (by omega) hu ((base_at (by decide)).trans B.t26) (by simp only [getD_set_any]; exact hW)
theorem stepK8 {ops : Array Oper} {Q : Exit → Act → World → Prop} (hs : (ops.toList.map fun o => (o.dst, o.op, o.guard)) = specK) (hd : depsB ops = true) (B : BaseK base X kg kh kw kc km av bv) {a : Act} (hI : IK base W X kg kh kw kc km av bv l a w) (hr : 8 ∈ Region.ready .any ops l) : wpOp Try.prog ops Q 8 (IK base W X kg kh kw kc km av bv (l.setIfInBounds 8 true)) a w := by
  obtain ⟨rfl, hW⟩ := hI
  have hu := (ready_left hr).2
  have hD := dep_at hd (by omega) hr
  obtain ⟨o, ho, h1, h2, h3⟩ := spec_at hs (i := 8) rfl
  refine move_wp ho h3 _ h2 ?_
  rw [h1]
  exact IK.set (i := 8) (by omega) hu ((base_at (by decide)).trans B.t22) (by simp only [getD_set_any]; exact hW)
theorem stepK9 {ops : Array Oper} {Q : Exit → Act → World → Prop} (hs : (ops.toList.map fun o => (o.dst, o.op, o.guard)) = specK) (hd : depsB ops = true) (B : BaseK base X kg kh kw kc km av bv) {a : Act} (hI : IK base W X kg kh kw kc km av bv l a w) (hr : 9 ∈ Region.ready .any ops l) : wpOp Try.prog ops Q 9 (IK base W X kg kh kw kc km av bv (l.setIfInBounds 9 true)) a w := by
  obtain ⟨rfl, hW⟩ := hI
  have hu := (ready_left hr).2
  have hD := dep_at hd (by omega) hr
  obtain ⟨o, ho, h1, h2, h3⟩ := spec_at hs (i := 9) rfl
  refine move_wp ho h3 _ h2 ?_
  rw [h1]
  exact IK.set (i := 9) (by omega) hu ((base_at (by decide)).trans B.t4) (by simp only [getD_set_any]; exact hW)
theorem stepK10 {ops : Array Oper} {Q : Exit → Act → World → Prop} (hs : (ops.toList.map fun o => (o.dst, o.op, o.guard)) = specK) (hd : depsB ops = true) (B : BaseK base X kg kh kw kc km av bv) {a : Act} (hI : IK base W X kg kh kw kc km av bv l a w) (hr : 10 ∈ Region.ready .any ops l) : wpOp Try.prog ops Q 10 (IK base W X kg kh kw kc km av bv (l.setIfInBounds 10 true)) a w := by
  obtain ⟨rfl, hW⟩ := hI
  have hu := (ready_left hr).2
  have hD := dep_at hd (by omega) hr
  obtain ⟨o, ho, h1, h2, h3⟩ := spec_at hs (i := 10) rfl
  refine call_wp ho h3 _ _ _ _ h2 (fun x y W => by kernel_rfl) ((val_at (hD 8 (by decide)) (by omega) rfl B.size).trans rfl) ((val_at (hD 9 (by decide)) (by omega) rfl B.size).trans rfl) (fAdd_any _ _ _ (ofF_nonneg _) B.av) ?_
  rw [h1]
  exact IK.set (i := 10) (by omega) hu (congrArg (fun z => Value.int .u64 (ofF z)) (by rw [toF_ofF, B.xw])) (by simp only [getD_set_any]; exact hW)
theorem stepK11 {ops : Array Oper} {Q : Exit → Act → World → Prop} (hs : (ops.toList.map fun o => (o.dst, o.op, o.guard)) = specK) (hd : depsB ops = true) (B : BaseK base X kg kh kw kc km av bv) (hk : Keys5 kg kh kw kc km) {a : Act} (hI : IK base W X kg kh kw kc km av bv l a w) (hr : 11 ∈ Region.ready .any ops l) : wpOp Try.prog ops Q 11 (IK base W X kg kh kw kc km av bv (l.setIfInBounds 11 true)) a w := by
  obtain ⟨rfl, hW⟩ := hI
  have hu := (ready_left hr).2
  have hD := dep_at hd (by omega) hr
  obtain ⟨o, ho, h1, h2, h3⟩ := spec_at hs (i := 11) rfl
  have h0 := hD 0 (by decide)
  rw [h0, hu] at hW
  rcases hW with ⟨hf, _⟩ | ⟨_, hP, hB, hlt⟩
  · cases hf
  refine insert_wp ho h3 _ _ _ h2 ((val_at (hD 0 (by decide)) (by omega) rfl B.size).trans rfl) hP (by have := @Bool.toNat_le; have h9 := this (l.getD 3 true); have h10 := this (l.getD 6 true); have h11 := this (l.getD 11 true); have h12 := this (l.getD 20 true); have h13 := this (l.getD 25 true); simp only [Bool.toNat_false]; omega) kw hk.i.2.2.1 (X kw) ((val_at (hD 7 (by decide)) (by omega) rfl B.size).trans rfl) ((val_at (hD 10 (by decide)) (by omega) rfl B.size).trans rfl) (hk.fresh_b11) [] ?_
  intro w' hP' hg
  rw [h1]
  refine IK.set (i := 11) (by omega) hu rfl ?_
  have hW2 := WI.ins_b11 hB hlt hP' hg
  simp only [getD_set_any]
  rw [h0]
  exact hW2
theorem stepK12 {ops : Array Oper} {Q : Exit → Act → World → Prop} (hs : (ops.toList.map fun o => (o.dst, o.op, o.guard)) = specK) (hd : depsB ops = true) (B : BaseK base X kg kh kw kc km av bv) {a : Act} (hI : IK base W X kg kh kw kc km av bv l a w) (hr : 12 ∈ Region.ready .any ops l) : wpOp Try.prog ops Q 12 (IK base W X kg kh kw kc km av bv (l.setIfInBounds 12 true)) a w := by
  obtain ⟨rfl, hW⟩ := hI
  have hu := (ready_left hr).2
  have hD := dep_at hd (by omega) hr
  obtain ⟨o, ho, h1, h2, h3⟩ := spec_at hs (i := 12) rfl
  refine move_wp ho h3 _ h2 ?_
  rw [h1]
  exact IK.set (i := 12) (by omega) hu ((base_at (by decide)).trans B.t27) (by simp only [getD_set_any]; exact hW)
theorem stepK13 {ops : Array Oper} {Q : Exit → Act → World → Prop} (hs : (ops.toList.map fun o => (o.dst, o.op, o.guard)) = specK) (hd : depsB ops = true) (B : BaseK base X kg kh kw kc km av bv) {a : Act} (hI : IK base W X kg kh kw kc km av bv l a w) (hr : 13 ∈ Region.ready .any ops l) : wpOp Try.prog ops Q 13 (IK base W X kg kh kw kc km av bv (l.setIfInBounds 13 true)) a w := by
  obtain ⟨rfl, hW⟩ := hI
  have hu := (ready_left hr).2
  have hD := dep_at hd (by omega) hr
  obtain ⟨o, ho, h1, h2, h3⟩ := spec_at hs (i := 13) rfl
  refine move_wp ho h3 _ h2 ?_
  rw [h1]
  exact IK.set (i := 13) (by omega) hu ((base_at (by decide)).trans B.t4) (by simp only [getD_set_any]; exact hW)
theorem stepK14 {ops : Array Oper} {Q : Exit → Act → World → Prop} (hs : (ops.toList.map fun o => (o.dst, o.op, o.guard)) = specK) (hd : depsB ops = true) (B : BaseK base X kg kh kw kc km av bv) {a : Act} (hI : IK base W X kg kh kw kc km av bv l a w) (hr : 14 ∈ Region.ready .any ops l) : wpOp Try.prog ops Q 14 (IK base W X kg kh kw kc km av bv (l.setIfInBounds 14 true)) a w := by
  obtain ⟨rfl, hW⟩ := hI
  have hu := (ready_left hr).2
  have hD := dep_at hd (by omega) hr
  obtain ⟨o, ho, h1, h2, h3⟩ := spec_at hs (i := 14) rfl
  refine move_wp ho h3 _ h2 ?_
  rw [h1]
  exact IK.set (i := 14) (by omega) hu ((base_at (by decide)).trans B.t22) (by simp only [getD_set_any]; exact hW)
theorem stepK15 {ops : Array Oper} {Q : Exit → Act → World → Prop} (hs : (ops.toList.map fun o => (o.dst, o.op, o.guard)) = specK) (hd : depsB ops = true) (B : BaseK base X kg kh kw kc km av bv) {a : Act} (hI : IK base W X kg kh kw kc km av bv l a w) (hr : 15 ∈ Region.ready .any ops l) : wpOp Try.prog ops Q 15 (IK base W X kg kh kw kc km av bv (l.setIfInBounds 15 true)) a w := by
  obtain ⟨rfl, hW⟩ := hI
  have hu := (ready_left hr).2
  have hD := dep_at hd (by omega) hr
  obtain ⟨o, ho, h1, h2, h3⟩ := spec_at hs (i := 15) rfl
  refine call_wp ho h3 _ _ _ _ h2 (fun x y W => by kernel_rfl) ((val_at (hD 13 (by decide)) (by omega) rfl B.size).trans rfl) ((val_at (hD 14 (by decide)) (by omega) rfl B.size).trans rfl) (fMul_any _ _ _ B.av (ofF_nonneg _)) ?_
  rw [h1]
  exact IK.set (i := 15) (by omega) hu (congrArg (fun z => Value.int .u64 (ofF z)) (by rw [toF_ofF])) (by simp only [getD_set_any]; exact hW)
theorem stepK16 {ops : Array Oper} {Q : Exit → Act → World → Prop} (hs : (ops.toList.map fun o => (o.dst, o.op, o.guard)) = specK) (hd : depsB ops = true) (B : BaseK base X kg kh kw kc km av bv) {a : Act} (hI : IK base W X kg kh kw kc km av bv l a w) (hr : 16 ∈ Region.ready .any ops l) : wpOp Try.prog ops Q 16 (IK base W X kg kh kw kc km av bv (l.setIfInBounds 16 true)) a w := by
  obtain ⟨rfl, hW⟩ := hI
  have hu := (ready_left hr).2
  have hD := dep_at hd (by omega) hr
  obtain ⟨o, ho, h1, h2, h3⟩ := spec_at hs (i := 16) rfl
  refine move_wp ho h3 _ h2 ?_
  rw [h1]
  exact IK.set (i := 16) (by omega) hu ((base_at (by decide)).trans B.t5) (by simp only [getD_set_any]; exact hW)
theorem stepK17 {ops : Array Oper} {Q : Exit → Act → World → Prop} (hs : (ops.toList.map fun o => (o.dst, o.op, o.guard)) = specK) (hd : depsB ops = true) (B : BaseK base X kg kh kw kc km av bv) {a : Act} (hI : IK base W X kg kh kw kc km av bv l a w) (hr : 17 ∈ Region.ready .any ops l) : wpOp Try.prog ops Q 17 (IK base W X kg kh kw kc km av bv (l.setIfInBounds 17 true)) a w := by
  obtain ⟨rfl, hW⟩ := hI
  have hu := (ready_left hr).2
  have hD := dep_at hd (by omega) hr
  obtain ⟨o, ho, h1, h2, h3⟩ := spec_at hs (i := 17) rfl
  refine move_wp ho h3 _ h2 ?_
  rw [h1]
  exact IK.set (i := 17) (by omega) hu ((base_at (by decide)).trans B.t24) (by simp only [getD_set_any]; exact hW)
theorem stepK18 {ops : Array Oper} {Q : Exit → Act → World → Prop} (hs : (ops.toList.map fun o => (o.dst, o.op, o.guard)) = specK) (hd : depsB ops = true) (B : BaseK base X kg kh kw kc km av bv) {a : Act} (hI : IK base W X kg kh kw kc km av bv l a w) (hr : 18 ∈ Region.ready .any ops l) : wpOp Try.prog ops Q 18 (IK base W X kg kh kw kc km av bv (l.setIfInBounds 18 true)) a w := by
  obtain ⟨rfl, hW⟩ := hI
  have hu := (ready_left hr).2
  have hD := dep_at hd (by omega) hr
  obtain ⟨o, ho, h1, h2, h3⟩ := spec_at hs (i := 18) rfl
  refine call_wp ho h3 _ _ _ _ h2 (fun x y W => by kernel_rfl) ((val_at (hD 16 (by decide)) (by omega) rfl B.size).trans rfl) ((val_at (hD 17 (by decide)) (by omega) rfl B.size).trans rfl) (fMul_any _ _ _ B.bv (ofF_nonneg _)) ?_
  rw [h1]
  exact IK.set (i := 18) (by omega) hu (congrArg (fun z => Value.int .u64 (ofF z)) (by rw [toF_ofF])) (by simp only [getD_set_any]; exact hW)
theorem stepK19 {ops : Array Oper} {Q : Exit → Act → World → Prop} (hs : (ops.toList.map fun o => (o.dst, o.op, o.guard)) = specK) (hd : depsB ops = true) (B : BaseK base X kg kh kw kc km av bv) {a : Act} (hI : IK base W X kg kh kw kc km av bv l a w) (hr : 19 ∈ Region.ready .any ops l) : wpOp Try.prog ops Q 19 (IK base W X kg kh kw kc km av bv (l.setIfInBounds 19 true)) a w := by
  obtain ⟨rfl, hW⟩ := hI
  have hu := (ready_left hr).2
  have hD := dep_at hd (by omega) hr
  obtain ⟨o, ho, h1, h2, h3⟩ := spec_at hs (i := 19) rfl
  refine call_wp ho h3 _ _ _ _ h2 (fun x y W => by kernel_rfl) ((val_at (hD 15 (by decide)) (by omega) rfl B.size).trans rfl) ((val_at (hD 18 (by decide)) (by omega) rfl B.size).trans rfl) (fAdd_any _ _ _ (ofF_nonneg _) (ofF_nonneg _)) ?_
  rw [h1]
  exact IK.set (i := 19) (by omega) hu (congrArg (fun z => Value.int .u64 (ofF z)) (by rw [toF_ofF, toF_ofF, B.xc])) (by simp only [getD_set_any]; exact hW)
theorem stepK20 {ops : Array Oper} {Q : Exit → Act → World → Prop} (hs : (ops.toList.map fun o => (o.dst, o.op, o.guard)) = specK) (hd : depsB ops = true) (B : BaseK base X kg kh kw kc km av bv) (hk : Keys5 kg kh kw kc km) {a : Act} (hI : IK base W X kg kh kw kc km av bv l a w) (hr : 20 ∈ Region.ready .any ops l) : wpOp Try.prog ops Q 20 (IK base W X kg kh kw kc km av bv (l.setIfInBounds 20 true)) a w := by
  obtain ⟨rfl, hW⟩ := hI
  have hu := (ready_left hr).2
  have hD := dep_at hd (by omega) hr
  obtain ⟨o, ho, h1, h2, h3⟩ := spec_at hs (i := 20) rfl
  have h0 := hD 0 (by decide)
  rw [h0, hu] at hW
  rcases hW with ⟨hf, _⟩ | ⟨_, hP, hB, hlt⟩
  · cases hf
  refine insert_wp ho h3 _ _ _ h2 ((val_at (hD 0 (by decide)) (by omega) rfl B.size).trans rfl) hP (by have := @Bool.toNat_le; have h9 := this (l.getD 3 true); have h10 := this (l.getD 6 true); have h11 := this (l.getD 11 true); have h12 := this (l.getD 20 true); have h13 := this (l.getD 25 true); simp only [Bool.toNat_false]; omega) kc hk.i.2.2.2.1 (X kc) ((val_at (hD 12 (by decide)) (by omega) rfl B.size).trans rfl) ((val_at (hD 19 (by decide)) (by omega) rfl B.size).trans rfl) (hk.fresh_b20) [] ?_
  intro w' hP' hg
  rw [h1]
  refine IK.set (i := 20) (by omega) hu rfl ?_
  have hW2 := WI.ins_b20 hB hlt hP' hg
  simp only [getD_set_any]
  rw [h0]
  exact hW2
theorem stepK21 {ops : Array Oper} {Q : Exit → Act → World → Prop} (hs : (ops.toList.map fun o => (o.dst, o.op, o.guard)) = specK) (hd : depsB ops = true) (B : BaseK base X kg kh kw kc km av bv) {a : Act} (hI : IK base W X kg kh kw kc km av bv l a w) (hr : 21 ∈ Region.ready .any ops l) : wpOp Try.prog ops Q 21 (IK base W X kg kh kw kc km av bv (l.setIfInBounds 21 true)) a w := by
  obtain ⟨rfl, hW⟩ := hI
  have hu := (ready_left hr).2
  have hD := dep_at hd (by omega) hr
  obtain ⟨o, ho, h1, h2, h3⟩ := spec_at hs (i := 21) rfl
  refine move_wp ho h3 _ h2 ?_
  rw [h1]
  exact IK.set (i := 21) (by omega) hu ((base_at (by decide)).trans B.t28) (by simp only [getD_set_any]; exact hW)
theorem stepK22 {ops : Array Oper} {Q : Exit → Act → World → Prop} (hs : (ops.toList.map fun o => (o.dst, o.op, o.guard)) = specK) (hd : depsB ops = true) (B : BaseK base X kg kh kw kc km av bv) {a : Act} (hI : IK base W X kg kh kw kc km av bv l a w) (hr : 22 ∈ Region.ready .any ops l) : wpOp Try.prog ops Q 22 (IK base W X kg kh kw kc km av bv (l.setIfInBounds 22 true)) a w := by
  obtain ⟨rfl, hW⟩ := hI
  have hu := (ready_left hr).2
  have hD := dep_at hd (by omega) hr
  obtain ⟨o, ho, h1, h2, h3⟩ := spec_at hs (i := 22) rfl
  refine move_wp ho h3 _ h2 ?_
  rw [h1]
  exact IK.set (i := 22) (by omega) hu ((base_at (by decide)).trans B.t22) (by simp only [getD_set_any]; exact hW)
theorem stepK23 {ops : Array Oper} {Q : Exit → Act → World → Prop} (hs : (ops.toList.map fun o => (o.dst, o.op, o.guard)) = specK) (hd : depsB ops = true) (B : BaseK base X kg kh kw kc km av bv) {a : Act} (hI : IK base W X kg kh kw kc km av bv l a w) (hr : 23 ∈ Region.ready .any ops l) : wpOp Try.prog ops Q 23 (IK base W X kg kh kw kc km av bv (l.setIfInBounds 23 true)) a w := by
  obtain ⟨rfl, hW⟩ := hI
  have hu := (ready_left hr).2
  have hD := dep_at hd (by omega) hr
  obtain ⟨o, ho, h1, h2, h3⟩ := spec_at hs (i := 23) rfl
  refine move_wp ho h3 _ h2 ?_
  rw [h1]
  exact IK.set (i := 23) (by omega) hu ((base_at (by decide)).trans B.t24) (by simp only [getD_set_any]; exact hW)
theorem stepK24 {ops : Array Oper} {Q : Exit → Act → World → Prop} (hs : (ops.toList.map fun o => (o.dst, o.op, o.guard)) = specK) (hd : depsB ops = true) (B : BaseK base X kg kh kw kc km av bv) {a : Act} (hI : IK base W X kg kh kw kc km av bv l a w) (hr : 24 ∈ Region.ready .any ops l) : wpOp Try.prog ops Q 24 (IK base W X kg kh kw kc km av bv (l.setIfInBounds 24 true)) a w := by
  obtain ⟨rfl, hW⟩ := hI
  have hu := (ready_left hr).2
  have hD := dep_at hd (by omega) hr
  obtain ⟨o, ho, h1, h2, h3⟩ := spec_at hs (i := 24) rfl
  refine call_wp ho h3 _ _ _ _ h2 (fun x y W => by kernel_rfl) ((val_at (hD 22 (by decide)) (by omega) rfl B.size).trans rfl) ((val_at (hD 23 (by decide)) (by omega) rfl B.size).trans rfl) (fMul_any _ _ _ (ofF_nonneg _) (ofF_nonneg _)) ?_
  rw [h1]
  exact IK.set (i := 24) (by omega) hu (congrArg (fun z => Value.int .u64 (ofF z)) (by rw [toF_ofF, toF_ofF, B.xm])) (by simp only [getD_set_any]; exact hW)
theorem stepK25 {ops : Array Oper} {Q : Exit → Act → World → Prop} (hs : (ops.toList.map fun o => (o.dst, o.op, o.guard)) = specK) (hd : depsB ops = true) (B : BaseK base X kg kh kw kc km av bv) (hk : Keys5 kg kh kw kc km) {a : Act} (hI : IK base W X kg kh kw kc km av bv l a w) (hr : 25 ∈ Region.ready .any ops l) : wpOp Try.prog ops Q 25 (IK base W X kg kh kw kc km av bv (l.setIfInBounds 25 true)) a w := by
  obtain ⟨rfl, hW⟩ := hI
  have hu := (ready_left hr).2
  have hD := dep_at hd (by omega) hr
  obtain ⟨o, ho, h1, h2, h3⟩ := spec_at hs (i := 25) rfl
  have h0 := hD 0 (by decide)
  rw [h0, hu] at hW
  rcases hW with ⟨hf, _⟩ | ⟨_, hP, hB, hlt⟩
  · cases hf
  refine insert_wp ho h3 _ _ _ h2 ((val_at (hD 0 (by decide)) (by omega) rfl B.size).trans rfl) hP (by have := @Bool.toNat_le; have h9 := this (l.getD 3 true); have h10 := this (l.getD 6 true); have h11 := this (l.getD 11 true); have h12 := this (l.getD 20 true); have h13 := this (l.getD 25 true); simp only [Bool.toNat_false]; omega) km hk.i.2.2.2.2 (X km) ((val_at (hD 21 (by decide)) (by omega) rfl B.size).trans rfl) ((val_at (hD 24 (by decide)) (by omega) rfl B.size).trans rfl) (hk.fresh_b25) [] ?_
  intro w' hP' hg
  rw [h1]
  refine IK.set (i := 25) (by omega) hu rfl ?_
  have hW2 := WI.ins_b25 hB hlt hP' hg
  simp only [getD_set_any]
  rw [h0]
  exact hW2
theorem stepK26 {ops : Array Oper} {Q : Exit → Act → World → Prop} (hs : (ops.toList.map fun o => (o.dst, o.op, o.guard)) = specK) (hd : depsB ops = true) (B : BaseK base X kg kh kw kc km av bv) {a : Act} (hI : IK base W X kg kh kw kc km av bv l a w) (hr : 26 ∈ Region.ready .any ops l) : wpOp Try.prog ops Q 26 (IK base W X kg kh kw kc km av bv (l.setIfInBounds 26 true)) a w := by
  obtain ⟨rfl, hW⟩ := hI
  have hu := (ready_left hr).2
  have hD := dep_at hd (by omega) hr
  obtain ⟨o, ho, h1, h2, h3⟩ := spec_at hs (i := 26) rfl
  refine move_wp ho h3 _ h2 ?_
  rw [h1]
  exact IK.set (i := 26) (by omega) hu ((val_at (hD 0 (by decide)) (by omega) rfl B.size).trans rfl) (by simp only [getD_set_any]; exact hW)
theorem stepK27 {ops : Array Oper} {Q : Exit → Act → World → Prop} (hs : (ops.toList.map fun o => (o.dst, o.op, o.guard)) = specK) (hd : depsB ops = true) (B : BaseK base X kg kh kw kc km av bv) {a : Act} (hI : IK base W X kg kh kw kc km av bv l a w) (hr : 27 ∈ Region.ready .any ops l) : wpOp Try.prog ops Q 27 (IK base W X kg kh kw kc km av bv (l.setIfInBounds 27 true)) a w := by
  obtain ⟨rfl, hW⟩ := hI
  have hu := (ready_left hr).2
  have hD := dep_at hd (by omega) hr
  obtain ⟨o, ho, h1, h2, h3⟩ := spec_at hs (i := 27) rfl
  refine assign_wp ho h3 _ h2 ?_
  rw [h1]
  exact IK.set (i := 27) (by omega) hu ((val_at (hD 26 (by decide)) (by omega) rfl B.size).trans rfl) (by simp only [getD_set_any]; exact hW)
theorem all_of_none {ops : Array Oper} {l : Array Bool} (hls : l.size = ops.size) (hacc : ((List.range ops.size).all fun i => match ops[i]? with | some o => o.after.all (fun e => decide (e.on < i)) | none => true) = true) (hr : Region.ready .any ops l = []) : ∀ i, i < ops.size → l.getD i true = true := by
  intro i
  induction i using Nat.strongRecOn with
  | _ i ih =>
    intro hi
    cases hl : l.getD i true with
    | true => rfl
    | false =>
      exfalso
      have hm : i ∈ Region.ready .any ops l := by
        unfold Region.ready
        refine List.mem_filter.2 ⟨List.mem_range.2 hi, ?_⟩
        have ho : ops[i]? = some ops[i] := Array.getElem?_eq_getElem hi
        have h1 := List.all_eq_true.1 hacc i (List.mem_range.2 hi)
        rw [ho] at h1
        simp only [hl, Bool.not_false, Bool.true_and, ho, Option.map_some, Option.getD_some]
        rw [Array.all_eq_true_iff_forall_mem]
        intro e he
        have h2 := of_decide_eq_true (Array.all_eq_true_iff_forall_mem.1 h1 e he)
        have h3 := ih e.on h2 (by omega)
        have h4 : e.on < l.size := by omega
        rw [Array.getD_eq_getD_getElem?, Array.getElem?_eq_getElem h4] at h3
        rw [Array.getD_eq_getD_getElem?, Array.getElem?_eq_getElem h4]
        simp only [Option.getD_some] at h3 ⊢
        rw [h3]
        simp
      rw [hr] at hm
      cases hm
theorem actsL_full {dst : Nat → Option Tmp} {vals : Nat → Value} {l : Array Bool} : ∀ L : List Nat, (∀ j ∈ L, l.getD j true = true) → actsL dst vals l base L = L.foldr (fun i a => a.put (dst i) (vals i)) base
  | [], _ => rfl
  | i :: L, h => by
    rw [actsL, if_pos (h i (by simp)), actsL_full L (fun j hj => h j (by simp [hj]))]
    rfl
theorem stepK {ops : Array Oper} {Q : Exit → Act → World → Prop} (hs : (ops.toList.map fun o => (o.dst, o.op, o.guard)) = specK) (hd : depsB ops = true) (B : BaseK base X kg kh kw kc km av bv) (hk : Keys5 kg kh kw kc km) {a : Act} {i : Nat} (hi : i < 28) (hI : IK base W X kg kh kw kc km av bv l a w) (hr : i ∈ Region.ready .any ops l) : wpOp Try.prog ops Q i (IK base W X kg kh kw kc km av bv (l.setIfInBounds i true)) a w := by
  match i, hi with
  | 0, _ => exact stepK0 hs hI hr
  | 1, _ => exact stepK1 hs hd B hI hr
  | 2, _ => exact stepK2 hs hd B hI hr
  | 3, _ => exact stepK3 hs hd B hk hI hr
  | 4, _ => exact stepK4 hs hd B hI hr
  | 5, _ => exact stepK5 hs hd B hI hr
  | 6, _ => exact stepK6 hs hd B hk hI hr
  | 7, _ => exact stepK7 hs hd B hI hr
  | 8, _ => exact stepK8 hs hd B hI hr
  | 9, _ => exact stepK9 hs hd B hI hr
  | 10, _ => exact stepK10 hs hd B hI hr
  | 11, _ => exact stepK11 hs hd B hk hI hr
  | 12, _ => exact stepK12 hs hd B hI hr
  | 13, _ => exact stepK13 hs hd B hI hr
  | 14, _ => exact stepK14 hs hd B hI hr
  | 15, _ => exact stepK15 hs hd B hI hr
  | 16, _ => exact stepK16 hs hd B hI hr
  | 17, _ => exact stepK17 hs hd B hI hr
  | 18, _ => exact stepK18 hs hd B hI hr
  | 19, _ => exact stepK19 hs hd B hI hr
  | 20, _ => exact stepK20 hs hd B hk hI hr
  | 21, _ => exact stepK21 hs hd B hI hr
  | 22, _ => exact stepK22 hs hd B hI hr
  | 23, _ => exact stepK23 hs hd B hI hr
  | 24, _ => exact stepK24 hs hd B hI hr
  | 25, _ => exact stepK25 hs hd B hk hI hr
  | 26, _ => exact stepK26 hs hd B hI hr
  | 27, _ => exact stepK27 hs hd B hI hr
  | n + 28, h => exact absurd h (by omega)
theorem mapLit {ops : Array Oper} {Q : Exit → Act → World → Prop} {id : Nat} (hs : (ops.toList.map fun o => (o.dst, o.op, o.guard)) = specK) (hd : depsB ops = true)
    (hacc : ((List.range ops.size).all fun i => match ops[i]? with | some o => o.after.all (fun e => decide (e.on < i)) | none => true) = true)
    (B : BaseK base X kg kh kw kc km av bv) (hk : Keys5 kg kh kw kc km)
    (hQ : ∀ w', PlainIs w' w.heap.size 5 (keysS kg kh kw kc km true true true true true) X → Below w.heap.size w w' → Q .normal ((List.range 28).foldr (fun i a => a.put (dstK i) (valK { w with drawn := w.drawn + 1 } X kg kh kw kc km av bv i)) base) w') :
    (Code.region id ops true).wp Try.prog Q base w := by
  have hn : ops.size = 28 := by
    have := congrArg List.length hs
    simpa [specK] using this
  refine wp_region_inv (by kernel_rfl) (fun l a w' => IK base { w with drawn := w.drawn + 1 } X kg kh kw kc km av bv l a w' ∧ l.size = ops.size) ⟨⟨?_, ?_⟩, by simp⟩ ?_ ?_
  · rw [hn]
    have : ∀ L : List Nat, (∀ j ∈ L, j < 28) → actsL dstK (valK { w with drawn := w.drawn + 1 } X kg kh kw kc km av bv) (Array.replicate 28 false) base L = base := by
      intro L hL
      induction L with
      | nil => rfl
      | cons j L ih =>
        rw [actsL, if_neg, ih (fun k hk => hL k (by simp [hk]))]
        have := hL j (by simp)
        simp [Array.getD_eq_getD_getElem?, this]
    exact (this _ (fun j hj => List.mem_range.1 hj)).symm
  · rw [hn]
    exact .inl ⟨rfl, rfl, rfl, rfl, rfl, rfl, rfl⟩
  · rintro l a w' i ⟨hI, hl⟩ hr
    have hi : i < 28 := by have := (ready_left hr).1; omega
    exact wpOp_mono (fun a w h => ⟨h, by rw [Array.size_setIfInBounds]; exact hl⟩) (stepK hs hd B hk hi hI hr)
  · rintro l a w' ⟨⟨rfl, hW⟩, hl⟩ hr
    have hall := all_of_none hl hacc hr
    rw [hn] at hall
    rw [actsL_full _ (fun j hj => hall j (List.mem_range.1 hj))]
    rw [hall 0 (by omega), hall 3 (by omega), hall 6 (by omega), hall 11 (by omega), hall 20 (by omega), hall 25 (by omega)] at hW
    rcases hW with ⟨hf, _⟩ | ⟨_, hP, hB, _⟩
    · cases hf
    · exact hQ w' hP (below_trans (below_drewN (Below.refl _ _) 1) hB (Nat.le_refl _))
end Go.Proofs.Ytegmeepogjijiaa
