/- A run's memory: what parties have of each wire, and what each has seen. -/
import Derived.Test.YtegmeepogjijiaaPushW
import Derived.Test.YtegmeepogjijiaaBox
import Derived.Test.YtegmeepogjijiaaEngP
import Derived.Deep.RegionHeld3
import Derived.Deep.RegionLaw
namespace Go.Proofs.Ytegmeepogjijiaa
open Go.RowKit Croft

def FarAll (u : Value) (vs : List Value) : Prop := ∀ (j : Nat) (y : Value), vs[j]? = some y → Far u y
theorem FarAll.set {u y : Value} {vs : List Value} (h : FarAll u vs) (hy : Far u y) (j : Nat) : FarAll u (vs.set j y) := fun i z hz => by
  by_cases e : i = j
  · subst e
    have hl := (List.getElem?_eq_some_iff.1 hz).1
    rw [List.getElem?_set_self (by simpa using hl)] at hz
    obtain rfl := Option.some.inj hz
    exact hy
  · rw [List.getElem?_set_ne (Ne.symm e)] at hz
    exact h i z hz
theorem FarAll.fresh {w : World} {base : Nat} {v u : Value} {vs : List Value} {rows : List (List Int)} (h : Grid w base v vs rows) (hu : ∀ b, u.ownBlock = some b → w.heap.size ≤ b) : FarAll u vs := fun j y hy b hb hyb => by
  have hj := (List.getElem?_eq_some_iff.1 hy).1
  rw [h.vlen] at hj
  have h2 := ((h.row j y _ hy (List.getElem?_eq_getElem hj)).1.lt b hyb).2
  have := hu b hb
  omega
theorem OwnNums.over {w : World} {base : Nat} {v : Value} {zs : List Int} (h : OwnNums w base v zs) (b : Nat) (hb : v.ownBlock = some b) : base ≤ b := (h.1.lt b hb).1
theorem box_row_ne {w : World} {q : Nat} {ty : TypeId} {cs : List Value} {b2 : Nat} {e2 : TypeId} {s2 n2 : Nat} {v2 : Value} {x2 : List Value} (h : Box w q ty cs) (h2 : w.ownsRow b2 e2 s2 v2 n2 x2) (hne : ty ≠ e2) : v2.ownBlock ≠ some q := fun hg => by
  obtain ⟨c, k⟩ := own_block_form h2 hg
  unfold Box at h
  rw [h] at k
  injection k with k
  injection k with _ k
  exact hne k
/-- what is left alone between two worlds -/
structure Keeps (b : Nat) (w w' : World) (vss vss' : List Value) : Prop where
  size : w.heap.size ≤ w'.heap.size
  box : ∀ (q : Nat) (ty : TypeId) (cs : List Value), q ≠ b → ty ≠ 23 → ty ≠ 22 → Box w q ty cs → Box w' q ty cs
  own : ∀ (u : Value) (l : List Int) (base : Nat), OwnNums w base u l → FarAll u vss → OwnNums w' base u l ∧ FarAll u vss'
theorem Keeps.refl (b : Nat) (w : World) (vss : List Value) : Keeps b w w vss vss := ⟨Nat.le_refl _, fun _ _ _ _ _ _ h => h, fun _ _ _ h1 h2 => ⟨h1, h2⟩⟩
theorem Keeps.trans {b : Nat} {w1 w2 w3 : World} {s1 s2 s3 : List Value} (h : Keeps b w1 w2 s1 s2) (k : Keeps b w2 w3 s2 s3) : Keeps b w1 w3 s1 s3 :=
  ⟨by have := h.size; have := k.size; omega, fun q ty cs h1 h2 h3 hb => k.box q ty cs h1 h2 h3 (h.box q ty cs h1 h2 h3 hb), fun u l base h1 h2 => by
    obtain ⟨a, c⟩ := h.own u l base h1 h2
    exact k.own u l base a c⟩
theorem Keeps.of_below {b : Nat} {w w' : World} {s : List Value} (h : Below w.heap.size w w') : Keeps b w w' s s :=
  ⟨h.size, fun _ _ _ _ _ _ hb => hb.below h, fun _ _ _ h1 h2 => ⟨h1.below h, h2⟩⟩
theorem Keeps.of_box {b : Nat} {w : World} {s : List Value} {ty : TypeId} {cs : List Value} (hb : Box w b ty cs) (hty : ty ≠ 23) (k : Nat) (v : Value) : Keeps b w (w.setCell ⟨b, k, none⟩ v) s s :=
  ⟨(set_grown w b k v).size, fun q _ _ h1 _ _ h => h.far h1 k v, fun u l base h1 h2 => ⟨h1.kept (set_grown w b k v) (by
    cases hu : u.ownBlock with
    | none => exact .inl rfl
    | some c => exact .inr fun e => box_row_ne hb h1.1 hty (hu.trans e)), h2⟩⟩
/-- wires, and what is seen -/
structure Pl (W0 w : World) (g n : Nat) (vw : Value) (vws vss : List Value) (ws seen : List (List Int)) : Prop where
  bel : Below W0.heap.size W0 w
  wires : Grid w W0.heap.size vw vws ws
  seen : Grid w W0.heap.size (.slice (some ⟨g, 0, none⟩) n n) vss seen
  far : Far vw (.slice (some ⟨g, 0, none⟩) n n)
  rows : ∀ (i : Nat) (x : Value), vws[i]? = some x → FarAll x vss
section
variable {W0 w : World} {g n : Nat} {vw : Value} {vws vss : List Value} {ws seen : List (List Int)}
theorem Pl.below {w' : World} (h : Pl W0 w g n vw vws vss ws seen) (hb : Below w.heap.size w w') : Pl W0 w' g n vw vws vss ws seen :=
  ⟨below_trans h.bel hb h.bel.size, h.wires.below hb, h.seen.below hb, h.far, h.rows⟩
theorem Pl.drewN (h : Pl W0 w g n vw vws vss ws seen) (d : Nat) : Pl W0 (w.drewN d) g n vw vws vss ws seen := h.below (below_drewN (Below.refl _ _) d)
theorem Grid.box_kept {w : World} {base : Nat} {v : Value} {vs : List Value} {rows : List (List Int)} {b : Nat} {ty : TypeId} {cs : List Value} (h : Grid w base v vs rows) (hb : Box w b ty cs) (h1 : ty ≠ 23) (h2 : ty ≠ 22) (k : Nat) (u : Value) : Grid (w.setCell ⟨b, k, none⟩ u) base v vs rows := by
  have hg := set_grown w b k u
  refine ⟨h.outer.kept hg ?_, h.len, fun i x r hx hr => (h.row i x r hx hr).kept hg ?_, h.apart⟩
  · cases hv : v.ownBlock with
    | none => exact .inl rfl
    | some c => exact .inr fun e => box_row_ne hb h.outer h2 (hv.trans e)
  · cases hv : x.ownBlock with
    | none => exact .inl rfl
    | some c => exact .inr fun e => box_row_ne hb (h.row i x r hx hr).1 h1 (hv.trans e)
theorem Pl.box {b : Nat} {ty : TypeId} {cs : List Value} (h : Pl W0 w g n vw vws vss ws seen) (hb : Box w b ty cs) (h1 : ty ≠ 23) (h2 : ty ≠ 22) (hB : W0.heap.size ≤ b) (k : Nat) (u : Value) : Pl W0 (w.setCell ⟨b, k, none⟩ u) g n vw vws vss ws seen :=
  ⟨h.bel.setCell (p := ⟨b, k, none⟩) hB u, h.wires.box_kept hb h1 h2 k u, h.seen.box_kept hb h1 h2 k u, h.far, h.rows⟩
/-- a party sees more -/
theorem Pl.push (h : Pl W0 w g n vw vws vss ws seen) {j : Nat} {y y' : Value} {r zs : List Int} {w' : World} (hv : vss[j]? = some y) (hr : seen[j]? = some r) (h1 : OwnNums w' W0.heap.size y' (r ++ zs)) (h2 : w.grownBy w' y.ownBlock) (h3 : y'.ownBlock = y.ownBlock ∨ y'.ownBlock = some w.heap.size) (b : Nat) :
    w'.cell? ⟨g, j, none⟩ = some y ∧ w'.frozen? ⟨g, j, none⟩ = false ∧ Pl W0 (w'.setCell ⟨g, j, none⟩ y') g n vw vws (vss.set j y') ws (seen.set j (r ++ zs)) ∧ Keeps b w (w'.setCell ⟨g, j, none⟩ y') vss (vss.set j y') := by
  obtain ⟨k1, k2, k3⟩ := h.seen.pushed hv hr h1 h2 h3
  have hy := h.seen.row j y r hv hr
  have hout' := h.seen.outer.kept h2 (.inr (fun e => kinds_apart hy.1 h.seen.outer (by decide) e.symm rfl))
  have hg2 := set_grown w' g j y'
  have own : ∀ (u : Value) (l : List Int) (base : Nat), OwnNums w base u l → FarAll u vss → OwnNums (w'.setCell ⟨g, j, none⟩ y') base u l ∧ FarAll u (vss.set j y') := fun u l base hu hf => by
    have hu1 := hu.kept h2 (hf j y hv).kept
    have hu2 := hu1.kept hg2 (by
      cases hb : u.ownBlock with
      | none => exact .inl rfl
      | some c => exact .inr fun e => kinds_apart hu1.1 hout' (by decide) hb e.symm)
    exact ⟨hu2, hf.set ((hf j y hv).grow hu.under h3) j⟩
  have hgsz := (h.seen.outer.lt g rfl)
  refine ⟨k1, k2, ⟨?_, ?_, k3, h.far, fun i x hx => ?_⟩, ?_⟩
  · exact ((h.bel).grown h2 h.bel.size (fun k hk => (hy.1.lt k hk).1)).setCell (p := ⟨g, j, none⟩) hgsz.1 y'
  · refine ⟨(h.wires.outer.kept h2 ?_).kept hg2 ?_, h.wires.len, fun i x s hx hs => (own x s _ (h.wires.row i x s hx hs) (h.rows i x hx)).1, h.wires.apart⟩
    · cases hb : vw.ownBlock with
      | none => exact .inl rfl
      | some c => exact .inr fun e => kinds_apart h.wires.outer hy.1 (by decide) hb e.symm
    · exact h.far.kept
  · have hi := (List.getElem?_eq_some_iff.1 hx).1
    rw [h.wires.vlen] at hi
    exact (own x _ _ (h.wires.row i x _ hx (List.getElem?_eq_getElem hi)) (h.rows i x hx)).2
  · refine ⟨by have := h2.size; have := hg2.size; omega, fun q ty cs _ n1 n2 hb => ?_, own⟩
    have hb1 := hb.grown h2 (fun e => box_row_ne hb hy.1 n1 e)
    exact hb1.far (fun e => by subst e; exact box_row_ne hb1 hout' n2 rfl) j y'
theorem Pl.push_outer (h : Pl W0 w g n vw vws vss ws seen) {j : Nat} {y y' : Value} {r : List Int} {w' : World} (hv : vss[j]? = some y) (hr : seen[j]? = some r) (h2 : w.grownBy w' y.ownBlock) {u : Value} {n2 base : Nat} {xs : List Value} (hu : w.ownsRow base 22 1 u n2 xs) (hg : u.ownBlock ≠ some g) : (w'.setCell ⟨g, j, none⟩ y').ownsRow base 22 1 u n2 xs :=
  (hu.kept h2 (by
    cases hc : u.ownBlock with
    | none => exact .inl rfl
    | some c => exact .inr fun e => kinds_apart hu (h.seen.row j y r hv hr).1 (by decide) hc e.symm)).kept (set_grown w' g j y') (.inr hg)
/-- a wire more -/
theorem Pl.wire (h : Pl W0 w g n vw vws vss ws seen) {x v' : Value} {r : List Int} {w' : World} (hw : Grid w' W0.heap.size v' (vws ++ [x]) (ws ++ [r])) (hb : Below W0.heap.size w w') (h2 : w.grownBy w' vw.ownBlock) (h3 : v'.ownBlock = vw.ownBlock ∨ v'.ownBlock = some w.heap.size) (hx : FarAll x vss) (b : Nat) :
    Pl W0 w' g n v' (vws ++ [x]) vss (ws ++ [r]) seen ∧ Keeps b w w' vss vss := by
  have own : ∀ (u : Value) (l : List Int) (base : Nat), OwnNums w base u l → OwnNums w' base u l := fun u l base hu => hu.kept h2 (by
    cases hc : u.ownBlock with
    | none => exact .inl rfl
    | some c => exact .inr fun e => kinds_apart hu.1 h.wires.outer (by decide) hc e.symm)
  refine ⟨⟨h.bel.trans hb, hw, ⟨h.seen.outer.kept h2 h.far.symm.kept, h.seen.len, fun i y s hy hs => own y s _ (h.seen.row i y s hy hs), h.seen.apart⟩, ?_, fun i y hy => ?_⟩, ?_⟩
  · exact (h.far.symm.grow (fun c hc => (h.seen.outer.lt c hc).2) h3).symm
  · rcases Nat.lt_or_ge i vws.length with hi | hi
    · rw [List.getElem?_append_left hi] at hy
      exact h.rows i y hy
    · rw [List.getElem?_append_right hi] at hy
      have h0 : i - vws.length = 0 := by
        have := (List.getElem?_eq_some_iff.1 hy).1
        simpa using this
      rw [h0] at hy
      simp at hy
      subst hy
      exact hx
  · exact ⟨h2.size, fun q ty cs _ n1 n2 hb => hb.grown h2 (fun e => box_row_ne hb h.wires.outer n2 e), fun u l base hu hf => ⟨own u l base hu, hf⟩⟩
end
/-- rows, one a party -/
def rowsN (n : Nat) (s : Nat → List Int) : List (List Int) := (List.range n).map s
theorem rowsN_length (n : Nat) (s : Nat → List Int) : (rowsN n s).length = n := by simp [rowsN]
theorem rowsN_get {n j : Nat} (s : Nat → List Int) (h : j < n) : (rowsN n s)[j]? = some (s j) := by simp [rowsN, h]
def mixR (s' s : Nat → List Int) (j : Nat) : Nat → List Int := fun q => if q < j then s' q else s q
theorem mixR_zero (s' s : Nat → List Int) : mixR s' s 0 = s := by funext q; unfold mixR; rw [if_neg (by omega)]
theorem mixR_at (s' s : Nat → List Int) (j : Nat) : mixR s' s j j = s j := by unfold mixR; rw [if_neg (by omega)]
theorem mixR_all (s' s : Nat → List Int) (n : Nat) : rowsN n (mixR s' s n) = rowsN n s' := List.map_congr_left fun q hq => by unfold mixR; rw [if_pos (List.mem_range.1 hq)]
theorem mixR_set {n j : Nat} (s' s : Nat → List Int) (h : j < n) : (rowsN n (mixR s' s j)).set j (s' j) = rowsN n (mixR s' s (j + 1)) := by
  apply List.ext_getElem?
  intro q
  by_cases hq : q < n
  · rw [rowsN_get _ hq]
    by_cases e : q = j
    · subst e
      rw [List.getElem?_set_self (by rw [rowsN_length]; exact h)]
      unfold mixR
      rw [if_pos (by omega)]
    · rw [List.getElem?_set_ne (Ne.symm e), rowsN_get _ hq]
      unfold mixR
      by_cases h2 : q < j
      · rw [if_pos h2, if_pos (by omega)]
      · rw [if_neg h2, if_neg (by omega)]
  · rw [List.getElem?_eq_none (by rw [List.length_set, rowsN_length]; omega), List.getElem?_eq_none (by rw [rowsN_length]; omega)]
/-- append of one number, as a step of a region that draws -/
theorem step_push_lies {ops : Array Oper} {o : Oper} {a : Act} {K : Act → World → Prop} {Q : Exit → Act → World → Prop} {E : Prop} {w : World} (hgd : o.guard = none) (s x : Operand)
    (ho : o.op = .call { callee := .builtin .append, args := #[s, x], argTypes := #[22, 22] })
    (base : Nat) (v : Value) (r : List Int) (z : Int) (gg cc : Nat) (hs : a.eval s = v) (hown : OwnNums w base v r) (hx : a.eval x = .slice (some ⟨gg, 0, none⟩) 1 cc)
    (hc : w.cell? ⟨gg, 0, none⟩ = some (.int .u64 z)) (hz : U64 z) (hl : r.length + 1 ≤ 17592186043904) (hb : base ≤ w.heap.size)
    (h : ∀ b cap w', OwnNums w' base (.slice (some ⟨b, 0, none⟩) (r.length + 1) cap) (r ++ [z]) → w.grownBy w' v.ownBlock → ((Value.slice (some ⟨b, 0, none⟩) (r.length + 1) cap).ownBlock = v.ownBlock ∨ (Value.slice (some ⟨b, 0, none⟩) (r.length + 1) cap).ownBlock = some w.heap.size) → K (a.put o.dst (.slice (some ⟨b, 0, none⟩) (r.length + 1) cap)) w') : if Region.wanted o (yielded ops a.tmps) = true then Oper.wp Try.prog o a w K Q else E := by
  obtain ⟨i0, hi, hz0, hz1, hz2⟩ := info_parts uinfo
  refine step_append_lies w hgd s x 22 ho base 23 i0 (.int .u64 0) 1 8 Try.underlying22 hi hz0 hz1 hz2 rfl (by decide) v r.length (u64s r) hs hown.1 ⟨gg, 0, none⟩ 1 cc [.int .u64 z] hx rfl ?_ ?_ (by omega) ?_ ?_ hb _ rfl ?_
  · intro j u hu
    match j, hu with
    | 0, hu =>
      simp at hu
      subst hu
      rw [add_addr]; exact hc
  · intro u hu
    simp at hu
    subst hu; rfl
  · unfold maxLen; omega
  · omega
  · intro b cap w' h1 h2 h4 _
    refine h b cap w' ⟨?_, by simpa using hl, fun y hy => ?_⟩ h2 ?_
    · have e : (r ++ [z]).length = r.length + 1 := by simp
      have e2 : u64s (r ++ [z]) = u64s r ++ [.int .u64 z] := by simp [u64s]
      rw [e, e2]; exact h1
    · rcases List.mem_append.1 hy with h5 | h5
      · exact hown.2.2 y h5
      · simp at h5; subst h5; exact hz
    · rcases h4 with h4 | h4
      · left; rw [h4]; rfl
      · right; rw [h4]; rfl
/-- append of many numbers -/
theorem wpList_push_nums4 {ops : Array Oper} {rest : List Oper} {o : Oper} {a : Act} {Q : Exit → Act → World → Prop} {w : World} (hgd : o.guard = none) (s x : Operand)
    (ho : o.op = .call { callee := .builtin .append, args := #[s, x], argTypes := #[22, 22] })
    (base : Nat) (v : Value) (r zs : List Int) (x2 : Value) (hs : a.eval s = v) (hown : OwnNums w base v r) (hx : a.eval x = x2) (hx2 : IsNums w x2 zs) (hp : 0 < zs.length) (hl : r.length + zs.length ≤ 17592186043904) (hb : base ≤ w.heap.size)
    (h : ∀ v' w', OwnNums w' base v' (r ++ zs) → w.grownBy w' v.ownBlock → (v'.ownBlock = v.ownBlock ∨ v'.ownBlock = some w.heap.size) → wpList Try.prog ops Q rest (a.put o.dst v') w') : wpList Try.prog ops Q (o :: rest) a w := by
  obtain ⟨i0, hi, hz0, hz1, hz2⟩ := info_parts uinfo
  obtain ⟨A, c, rfl, _, _, _, hu, hc⟩ := hx2
  obtain ⟨b, off, rfl, hbl, hcell⟩ := hc.at_ (j := 0) (by rw [u64s_length]; exact hp)
  refine wpList_append_own_at w hgd s x 22 ho base 23 i0 (.int .u64 0) 1 8 Try.underlying22 hi hz0 hz1 hz2 rfl (by decide) v r.length (u64s r) hs hown.1 ⟨b, off, none⟩ zs.length c (u64s zs) hx (by rw [u64s_length]; omega) ?_ (u64s_one zs) ?_ ?_ hb ?_
  · intro j u hj
    have hjl := (List.getElem?_eq_some_iff.1 hj).1
    rw [add_addr, hcell j hjl]
    exact hj
  · unfold maxLen; omega
  · omega
  · intro v' w' h1 h2 _ h4
    refine h v' w' ⟨?_, by simpa using hl, fun y hy => ?_⟩ h2 h4
    · have e : (r ++ zs).length = r.length + zs.length := by simp
      have e2 : u64s (r ++ zs) = u64s r ++ u64s zs := by simp [u64s]
      rw [e, e2]; exact h1
    · rcases List.mem_append.1 hy with h5 | h5
      · exact hown.2.2 y h5
      · exact hu y h5
end Go.Proofs.Ytegmeepogjijiaa
namespace Go.Proofs.Ytegmeepogjijiaa
open Go.RowKit Croft

theorem nslice_rest_run (A : Option Addr) (m c lo : Nat) (h1 : lo ≤ m) (W : World) :
    (Instr.sliceAt 22 (.slice A m c) (some (.int .i64 (lo : Int))) none none).run Try.prog W = .ok (.slice (if c = lo then A else A.map (·.add (lo * 1))) (m - lo) (c - lo)) W := by
  have hU : Program.underlying Try.prog 22 = some (.slice (Program.elem Try.prog 22)) := by kernel_rfl
  have hs : ∀ W, (sizeOf (Program.elem Try.prog 22)).run Try.prog W = .ok 1 W := fun W => by kernel_rfl
  rw [run_sliceAt_slice _ _ _ _ _ _ hU, run_slice_l W _ A m c hU .i64 _ (by omega) (by omega), hs]
  simp [Result.andThen, sliced]
/-- a run's state -/
structure St (W0 w : World) (b g n t : Nat) (vi vd vw : Value) (vws vss : List Value) (ins ds : List Int) (ws seen : List (List Int)) : Prop where
  pl : Pl W0 w g n vw vws vss ws seen
  box : Box w b 129 [.int .i64 n, .int .i64 t, vi, vd, vw, .slice (some ⟨g, 0, none⟩) n n]
  le : W0.heap.size ≤ b
  ins : IsNums W0 vi ins
  ds : IsNums W0 vd ds
section
variable {W0 w : World} {b g n t : Nat} {vi vd vw : Value} {vws vss : List Value} {ins ds : List Int} {ws seen : List (List Int)}
theorem St.below {w' : World} (h : St W0 w b g n t vi vd vw vws vss ins ds ws seen) (hb : Below w.heap.size w w') : St W0 w' b g n t vi vd vw vws vss ins ds ws seen :=
  ⟨h.pl.below hb, h.box.below hb, h.le, h.ins, h.ds⟩
theorem St.push (h : St W0 w b g n t vi vd vw vws vss ins ds ws seen) {j : Nat} {y y' : Value} {r zs : List Int} {w' : World} (hv : vss[j]? = some y) (hr : seen[j]? = some r) (h1 : OwnNums w' W0.heap.size y' (r ++ zs)) (h2 : w.grownBy w' y.ownBlock) (h3 : y'.ownBlock = y.ownBlock ∨ y'.ownBlock = some w.heap.size) :
    w'.cell? ⟨g, j, none⟩ = some y ∧ w'.frozen? ⟨g, j, none⟩ = false ∧ St W0 (w'.setCell ⟨g, j, none⟩ y') b g n t vi vd vw vws (vss.set j y') ins ds ws (seen.set j (r ++ zs)) ∧ Keeps (w'.heap.size) w (w'.setCell ⟨g, j, none⟩ y') vss (vss.set j y') := by
  obtain ⟨k1, k2, k3, k4⟩ := h.pl.push hv hr h1 h2 h3 w'.heap.size
  refine ⟨k1, k2, ⟨k3, k4.box b _ _ ?_ (by decide) (by decide) h.box, h.le, h.ins, h.ds⟩, k4⟩
  have := h.box.lt
  have := h2.size
  omega
theorem Keeps.weaken {b b' : Nat} {w w' : World} {s s' : List Value} (h : Keeps b w w' s s') (hb : w.heap.size ≤ b) : Keeps b' w w' s s' :=
  ⟨h.size, fun q ty cs _ h2 h3 hx => h.box q ty cs (by have := hx.lt; omega) h2 h3 hx, h.own⟩
end
/-- what a step of a run leaves -/
def StRes (W0 w : World) (b g n t : Nat) (vw : Value) (vws vss : List Value) (ws : List (List Int)) (e : Ending) (w' : World) (ins ds l : List Int) (seen : List (List Int)) : Prop :=
  ∃ v vi vd vss', e = .returned v ∧ OwnNums w' W0.heap.size v l ∧ (∀ c, v.ownBlock = some c → w.heap.size ≤ c) ∧ FarAll v vss' ∧ St W0 w' b g n t vi vd vw vws vss' ins ds ws seen ∧ Keeps b w w' vss vss'
theorem eDrawn_any (w : World) (b L c k : Nat) (kz : Int) (hkz : kz = (k : Int)) (A : Option Addr) (x0 x1 x2 x4 x5 : Value) (h : Box w b 129 [x0, x1, x2, .slice A L c, x4, x5]) (hk : k ≤ L) (hc : L ≤ c) :
    Calls Try.prog 143 #[.pointer (some ⟨b, 0, none⟩), .int .i64 kz] w fun e w' => e = .returned (.slice A k c) ∧ w.setCell ⟨b, 3, none⟩ (.slice (if c = k then A else A.map (·.add (k * 1))) (L - k) (c - k)) = w' := by
  subst hkz
  have hc3 := h.cell (i := 3) rfl
  have hf3 := h.frozen 3
  have hsl := nslice_rest_run A L c k hk
  obtain ⟨A2, hA⟩ : ∃ A2, A2 = (if c = k then A else A.map (·.add (k * 1))) := ⟨_, rfl⟩
  obtain ⟨L2, hL⟩ : ∃ L2, L2 = L - k := ⟨_, rfl⟩
  obtain ⟨c2, hc2⟩ : ∃ c2, c2 = c - k := ⟨_, rfl⟩
  rw [← hA, ← hL, ← hc2] at hsl ⊢
  clear hA hL hc2
  go_enter Try.func143, Try.ntmps143
  go_wp2_with fail
  go_ret
  exact ⟨rfl, rfl⟩
theorem IsNums.first {w : World} {A : Option Addr} {len c : Nat} {zs : List Int} (h : IsNums w (.slice A len c) zs) (k : Nat) (hk : k ≤ zs.length) : IsNums w (.slice A k c) (zs.take k) := by
  obtain ⟨A1, c1, e, h1, h2, h3, h4, h5⟩ := h
  injection e with e1 e2 e3
  subst e1 e2 e3
  have hl : (zs.take k).length = k := by simp; omega
  exact ⟨_, _, by rw [hl], by rw [hl]; omega, h2, by rw [hl]; omega, fun z hz => h4 z (List.mem_of_mem_take hz), by rw [u64s_take]; exact h5.take _⟩
theorem IsNums.last {w : World} {A : Option Addr} {c : Nat} {zs : List Int} (h : IsNums w (.slice A zs.length c) zs) (k : Nat) (hk : k ≤ zs.length) : IsNums w (.slice (if c = k then A else A.map (·.add (k * 1))) (zs.length - k) (c - k)) (zs.drop k) := by
  have h2 := h.cut k zs.length hk (Nat.le_refl _)
  rwa [List.take_of_length_le (by simp)] at h2
set_option maxRecDepth 100000 in
set_option maxHeartbeats 4000000 in
theorem eInput_ok (W0 w : World) (b g n t : Nat) (vi vd vw : Value) (vws vss : List Value) (x : Int) (ins ds : List Int) (ws : List (List Int)) (s : Nat → List Int)
    (h : St W0 w b g n t vi vd vw vws vss (x :: ins) ds ws (rowsN n s)) (ht : t ≤ 4) (hn : t + 1 ≤ n) (hn9 : n ≤ 9) (hd : t ≤ ds.length) (hs : ∀ q, q < n → (s q).length ≤ 1000) :
    Calls Try.prog 125 #[.pointer (some ⟨b, 0, none⟩)] w fun e w' => StRes W0 w b g n t vw vws vss ws e w' ins (ds.drop t) (ofFs (deal n (toFs (x :: ds.take t)))) (rowsN n fun q => s q ++ [ofF (co (deal n (toFs (x :: ds.take t))) q)]) := by
  have H := Lib.hid h
  have HS := Lib.hid hs
  obtain ⟨R, hR⟩ : ∃ R, R = deal n (toFs (x :: ds.take t)) := ⟨_, rfl⟩
  rw [← hR]
  have HR := Lib.hid hR
  have HRL := Lib.hid (show R.length = n by rw [hR, deal_length])
  obtain ⟨s', hs'⟩ : ∃ s', s' = fun q => s q ++ [ofF (co R q)] := ⟨_, rfl⟩
  rw [← hs']
  have HSE := Lib.hid hs'
  suffices hgoal : ∀ Post : Ending → World → Prop, (∀ e w', StRes W0 w b g n t vw vws vss ws e w' ins (ds.drop t) (ofFs R) (rowsN n s') → Post e w') → Calls Try.prog 125 #[.pointer (some ⟨b, 0, none⟩)] w Post from hgoal _ fun e w' h => h
  intro Post hpo
  have HPO := Lib.hid hpo
  clear hpo hs hs' hR
  obtain ⟨Ai, ci, hvi, hci, _, hli, hui, hri⟩ := h.ins
  obtain ⟨Ad, cd, hvd, hcd, _, _, _, _⟩ := h.ds
  subst hvi hvd
  obtain ⟨b1, o1, z, rfl, hb1, hgz, hz64, hcz0⟩ := nums_at hri hui (k := 0) (by simp)
  have hze : z = x := by simpa using hgz.symm
  subst hze
  rw [Nat.add_zero] at hcz0
  have hcz := (h.pl.bel.cell (p := ⟨b1, o1, none⟩) hb1).trans hcz0
  have hB0 : W0.heap.size ≤ w.heap.size := h.pl.bel.size
  have hbb : b1 < b := Nat.lt_of_lt_of_le hb1 h.le
  have hc0 := h.box.cell (i := 0) rfl
  have hc1 := h.box.cell (i := 1) rfl
  have hc2 := h.box.cell (i := 2) rfl
  have BX := Lib.hid h.box
  have BX1 := Lib.hid (h.box.drewN 1)
  have HDL := Lib.hid hd
  have KTAKE := Lib.hid (h.ds.first t hd)
  have KLAST := Lib.hid (h.ds.last t hd)
  have KTL := Lib.hid (show (ds.take t).length = t by simp; omega)
  have BEL1 := Lib.hid (h.pl.bel.mono (Nat.le_refl _))
  rw [List.length_cons] at hli hci
  have KIN := Lib.hid h.ins
  have HALL := Lib.hid (show ∀ W1, (w.drewN 1).setCell ⟨b, 3, none⟩ (.slice (if cd = t then Ad else Ad.map (·.add (t * 1))) (ds.length - t) (cd - t)) = W1 → W1.cell? ⟨b1, o1, none⟩ = some (.int .u64 z) ∧ St W0 W1 b g n t (.slice (some ⟨b1, o1, none⟩) (z :: ins).length ci) (.slice (if cd = t then Ad else Ad.map (·.add (t * 1))) (ds.length - t) (cd - t)) vw vws vss (z :: ins) (ds.drop t) ws (rowsN n s) ∧ Keeps b w W1 vss vss from fun W1 hw => by
    subst hw
    refine ⟨(World.cell?_of_block (Below.heap_setCell _ _ _ _ (by show b1 ≠ b; omega))).trans hcz, ⟨(h.pl.drewN 1).box BX1.out (by decide) (by decide) h.le _ _, BX1.out.set 3 _, h.le, h.ins, KLAST.out⟩, ?_⟩
    exact (Keeps.of_below (below_drewN (Below.refl _ _) 1)).trans (Keeps.of_box BX1.out (by decide) _ _))
  clear hui hri h hb1 hgz hcz0
  go_enter Try.func125, Try.ntmps125
  go_wp2_with fail
  go_region_held3 (fun w' => w'.cell? ⟨b, 0, none⟩ = some (.int .i64 n) ∧ w'.cell? ⟨b, 1, none⟩ = some (.int .i64 t) ∧ w'.cell? ⟨b, 2, none⟩ = some (.slice (some ⟨b1, o1, none⟩) (z :: ins).length ci) ∧ w'.cell? ⟨b1, o1, none⟩ = some (.int .u64 z)) (go_keep) (first | (go_at_call 143; refine (eDrawn_any _ b ds.length cd t _ rfl Ad _ _ _ _ _ BX1.out HDL.out hcd).mono ?_; rintro e W1 ⟨rfl, hw⟩; obtain ⟨q3, ST1, KP1⟩ := HALL.out W1 hw; have q0 := ST1.box.cell (i := 0) rfl; have q1 := ST1.box.cell (i := 1) rfl; have q2 := ST1.box.cell (i := 2) rfl; have BL := ST1.pl.bel) | (go_at_call 32; refine (sDeal_ok _ _ _ n _ hz64 (KTAKE.out.below BL) (by rw [KTL.out]; exact ht) (by rw [KTL.out]; exact hn) hn9).mono ?_; rintro e W2 ⟨vl, rfl, ho, hb2⟩; have q4 := (ST1.below hb2).box.cell (i := 0) rfl; have q5 := (ST1.below hb2).box.cell (i := 1) rfl; have q6 := (ST1.below hb2).box.cell (i := 2) rfl; have q7 := (hb2.cell (p := ⟨b1, o1, none⟩) (Nat.lt_trans hbb ST1.box.lt)).trans q3))
  have ST2 := ST1.below hb2
  have KP2 := KP1.trans (Keeps.of_below (s := vss) hb2)
  have hszl : w.heap.size ≤ W1.heap.size := KP1.size
  rw [← HR.out] at ho
  have hi2 := ST2.box.cell (i := 2) rfl
  have hf2 := ST2.box.frozen 2
  have hsl := nslice_rest_run (some ⟨b1, o1, none⟩) (ins.length + 1) ci 1 (by omega)
  have hin2 := KIN.out.last 1 (by simp)
  simp only [List.length_cons, List.drop_one, List.tail_cons, Nat.add_sub_cancel] at hin2 hsl hi2
  obtain ⟨A2, hA2⟩ : ∃ A2, A2 = (if ci = 1 then (some ⟨b1, o1, none⟩ : Option Addr) else (some ⟨b1, o1, none⟩ : Option Addr).map (·.add (1 * 1))) := ⟨_, rfl⟩
  rw [← hA2] at hin2 hsl
  obtain ⟨c2, hc2'⟩ : ∃ c2, c2 = ci - 1 := ⟨_, rfl⟩
  rw [← hc2'] at hin2 hsl
  have hsl' : ∀ W, (Instr.sliceAt 22 (.slice (some ⟨b1, o1, none⟩) (ins.length + 1) ci) (some (.int .i64 1)) none none).run Try.prog W = .ok (.slice A2 ins.length c2) W := hsl
  clear hsl hA2 hc2'
  have HVL := Lib.hid (show ∀ c, vl.ownBlock = some c → W1.heap.size ≤ c from ho.over)
  obtain ⟨gl, cl, hvl, hgl1, hgl2⟩ := own_slice ho.1 (by rw [ofFs_length, HRL.out]; omega)
  rw [ofFs_length, HRL.out] at hvl
  subst hvl
  have ST3 := Lib.hid (show St W0 (W2.setCell ⟨b, 2, none⟩ (.slice A2 ins.length c2)) b g n t (.slice A2 ins.length c2) (.slice (if cd = t then Ad else Ad.map (·.add (t * 1))) (ds.length - t) (cd - t)) vw vws vss ins (ds.drop t) ws (rowsN n s) from
    ⟨ST2.pl.box ST2.box (by decide) (by decide) ST2.le _ _, ST2.box.set 2 _, ST2.le, hin2, ST2.ds⟩)
  have KP3 := Lib.hid (KP2.trans (Keeps.of_box (s := vss) ST2.box (by decide) 2 (.slice A2 ins.length c2)))
  have KL3 := Lib.hid ((Keeps.of_box (s := vss) ST2.box (by decide) 2 (.slice A2 ins.length c2)).own _ _ _ ho (FarAll.fresh ST1.pl.seen ho.over))
  have hglw : w.heap.size ≤ gl := by omega
  clear ST1 ST2 KP1 KP2 ho hb2 q0 q1 q2 q3 q4 q5 q6 q7 BL hcz hc0 hc1 hc2 BX BX1 KTAKE KLAST KTL BEL1 KIN HALL H hin2 hgl1 hgl2 HVL
  go_wp2_with fail
  generalize hW3 : W2.setCell ⟨b, 2, none⟩ (.slice A2 ins.length c2) = W3 at *
  clear hW3 hsl' hi2 hf2
  go_loopw [37] (fun x wr => ∃ (j : Nat) (vss' : List Value), j ≤ n ∧ x = .int .i64 j ∧ St W0 wr b g n t (.slice A2 ins.length c2) (.slice (if cd = t then Ad else Ad.map (·.add (t * 1))) (ds.length - t) (cd - t)) vw vws vss' ins (ds.drop t) ws (rowsN n (mixR s' s j)) ∧ OwnNums wr W1.heap.size (.slice (some ⟨gl, 0, none⟩) n cl) (ofFs R) ∧ FarAll (.slice (some ⟨gl, 0, none⟩) n cl) vss' ∧ Keeps b w wr vss vss') (fun x _ => n - (intOf x).toNat)
  case atStart => exact ⟨0, vss, Nat.zero_le _, rfl, by rw [mixR_zero]; exact ST3.out, KL3.out.1, KL3.out.2, KP3.out⟩
  case round =>
    obtain ⟨j, vss', hj, rfl, hst, hown, hfar, hkp⟩ := hrel
    clear ST3 KL3 KP3
    have ST3 := Lib.hid hst
    have KO := Lib.hid hown
    have FA := Lib.hid hfar
    have KP := Lib.hid hkp
    clear hst hown hfar hkp
    by_cases hlt : j < n
    · have hdj : decide ((j : Int) < (n : Int)) = true := by simp; omega
      have hcl := KO.out.cell (ofFs_get (get_co (l := R) (j := j) (by rw [HRL.out]; exact hlt)))
      have hc5 := ST3.out.box.cell (i := 5) rfl
      obtain ⟨y, hy⟩ : ∃ y, vss'[j]? = some y := ⟨_, List.getElem?_eq_getElem (by rw [ST3.out.pl.seen.vlen, rowsN_length]; exact hlt)⟩
      have hcg := ST3.out.pl.seen.cell hy
      have hrj : (rowsN n (mixR s' s j))[j]? = some (s j) := by rw [rowsN_get _ hlt, mixR_at]
      have hrow := ST3.out.pl.seen.row j y _ hy hrj
      have HY := Lib.hid hy
      have HRJ := Lib.hid hrj
      have HROW := Lib.hid hrow
      have hsl1 := HS.out j hlt
      have hB : W0.heap.size ≤ ((wr.drewN 1).alloc (.cells #[.int .u64 (ofF (co R j))] 23)).heap.size := by rw [size_alloc]; exact Nat.le_succ_of_le ST3.out.pl.bel.size
      have hgb : g < wr.heap.size := (ST3.out.pl.seen.outer.lt g rfl).2
      have hbb2 : b < wr.heap.size := ST3.out.box.lt
      have HPUSH := Lib.hid (show ∀ (bb cap : Nat) (w7 : World), OwnNums w7 W0.heap.size (.slice (some ⟨bb, 0, none⟩) ((s j).length + 1) cap) (s j ++ [ofF (co R j)]) → ((wr.drewN 1).alloc (.cells #[.int .u64 (ofF (co R j))] 23)).grownBy w7 y.ownBlock → ((Value.slice (some ⟨bb, 0, none⟩) ((s j).length + 1) cap).ownBlock = y.ownBlock ∨ (Value.slice (some ⟨bb, 0, none⟩) ((s j).length + 1) cap).ownBlock = some ((wr.drewN 1).alloc (.cells #[.int .u64 (ofF (co R j))] 23)).heap.size) →
          w7.cell? ⟨b, 5, none⟩ = some (.slice (some ⟨g, 0, none⟩) n n) ∧ w7.cell? ⟨g, j, none⟩ = some y ∧ w7.frozen? ⟨g, j, none⟩ = false ∧ St W0 (w7.setCell ⟨g, j, none⟩ (.slice (some ⟨bb, 0, none⟩) ((s j).length + 1) cap)) b g n t (.slice A2 ins.length c2) (.slice (if cd = t then Ad else Ad.map (·.add (t * 1))) (ds.length - t) (cd - t)) vw vws (vss'.set j (.slice (some ⟨bb, 0, none⟩) ((s j).length + 1) cap)) ins (ds.drop t) ws (rowsN n (mixR s' s (j + 1))) ∧ Keeps b wr (w7.setCell ⟨g, j, none⟩ (.slice (some ⟨bb, 0, none⟩) ((s j).length + 1) cap)) vss' (vss'.set j (.slice (some ⟨bb, 0, none⟩) ((s j).length + 1) cap)) from fun bb cap w7 ho hg hat => by
        have STa := ST3.out.below (((Below.refl wr.heap.size wr).alloc (Nat.le_refl _) (.cells #[.int .u64 (ofF (co R j))] 23)))
        have hb1 : Below wr.heap.size wr ((wr.drewN 1).alloc (.cells #[.int .u64 (ofF (co R j))] 23)) := (below_drewN (Below.refl _ _) 1).alloc (Nat.le_refl _) _
        have STb := ST3.out.below hb1
        obtain ⟨k1, k2, k3, k4⟩ := STb.push HY.out HRJ.out ho hg hat
        have hbx := (STb.box.grown hg (fun e => box_row_ne STb.box (STb.pl.seen.row j y _ HY.out HRJ.out).1 (by decide) e)).cell (i := 5) rfl
        have hk3 : (rowsN n (mixR s' s j)).set j (s j ++ [ofF (co R j)]) = rowsN n (mixR s' s (j + 1)) := by
          have h := mixR_set s' s hlt
          rw [show s' j = s j ++ [ofF (co R j)] by rw [HSE.out]] at h
          exact h
        rw [hk3] at k3
        exact ⟨hbx, k1, k2, k3, (Keeps.of_below (s := vss') hb1).trans (k4.weaken (by have := hg.size; omega))⟩)
      clear hy hrj hrow
      go_wp2_with fail
      go_region_law ((refine step_push_lies rfl _ _ (by rfl) W0.heap.size y (s j) (ofF (co R j)) _ 1 (by rfl) ((HROW.out.drewN 1).alloc _) (by rfl) (new_cell _ _ _) (U64.of_ofF _) (by omega) hB ?_; intro bb cap w7 ho7 hg7 hat7; obtain ⟨hc7, hk7, hf7, ST7, KP7⟩ := HPUSH.out bb cap w7 ho7 hg7 hat7))
      all_goals
        have KO8 := Lib.hid (KP7.own _ _ _ KO.out FA.out)
        have ST8 := Lib.hid ST7
        have KP8 := Lib.hid (KP.out.trans KP7)
        clear hc7 hk7 hf7 ST7 KP7 ho7 hg7 hat7 hcl hc5 hcg
        go_wp2_with fail
        exact ⟨⟨j + 1, vss'.set j (.slice (some ⟨bb, 0, none⟩) ((s j).length + 1) cap), by omega, by go_num, ST8.out, KO8.out.1, KO8.out.2, KP8.out⟩, by simp [intOf] <;> omega⟩
    · obtain rfl : n = j := by omega
      rw [mixR_all] at ST3
      have hdj : decide ((n : Int) < (n : Int)) = false := by simp
      go_wp2_with fail
      exact HPO.out _ _ ⟨_, _, _, vss', rfl, KO.out.less (by omega), (fun c hc => by injection hc with hc; subst hc; exact hglw), FA.out, ST3.out, KP.out⟩
end Go.Proofs.Ytegmeepogjijiaa
