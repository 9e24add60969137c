/- Parts of the proof, put together by a program: EngU. No condition. -/
import Derived.Test.YtploomncapiloaaGreatDoorDAM
import Derived.Test.YtploomncapiloaaGreatDoorDAN
namespace Go.Proofs.YtploomncapiloaaGreatDoor
open Go.RowKit Croft
def FarAll (u : Value) (vs : List Value) : Prop := ∀ (j : Nat) (y : Value), vs[j]? = some y → Far u y
theorem FarAll.set {u y : Value} {vs : List Value} (h : FarAll u vs) (hy : Far u y) (j : Nat) : FarAll u (vs.set j y) := fun i z hz => by
  by_cases e : i = j
  · subst e
    have hl := (List.getElem?_eq_some_iff.1 hz).1
    rw [List.getElem?_set_self (by simpa using hl)] at hz
    obtain rfl := Option.some.inj hz
    exact hy
  · rw [List.getElem?_set_ne (Ne.symm e)] at hz
    exact h i z hz
theorem FarAll.fresh {w : World} {base : Nat} {v u : Value} {vs : List Value} {rows : List (List Int)} (h : Grid w base v vs rows) (hu : ∀ b, u.ownBlock = some b → w.heap.size ≤ b) : FarAll u vs := fun j y hy b hb hyb => by
  have hj := (List.getElem?_eq_some_iff.1 hy).1
  rw [h.vlen] at hj
  have h2 := ((h.row j y _ hy (List.getElem?_eq_getElem hj)).1.lt b hyb).2
  have := hu b hb
  omega
theorem OwnNums.over {w : World} {base : Nat} {v : Value} {zs : List Int} (h : OwnNums w base v zs) (b : Nat) (hb : v.ownBlock = some b) : base ≤ b := (h.1.lt b hb).1
theorem box_row_ne {w : World} {q : Nat} {ty : TypeId} {cs : List Value} {b2 : Nat} {e2 : TypeId} {s2 n2 : Nat} {v2 : Value} {x2 : List Value} (h : Box w q ty cs) (h2 : w.ownsRow b2 e2 s2 v2 n2 x2) (hne : ty ≠ e2) : v2.ownBlock ≠ some q := fun hg => by
  obtain ⟨c, k⟩ := own_block_form h2 hg
  unfold Box at h
  rw [h] at k
  injection k with k
  injection k with _ k
  exact hne k
structure Keeps (b : Nat) (w w' : World) (vss vss' : List Value) : Prop where
  size : w.heap.size ≤ w'.heap.size
  box : ∀ (q : Nat) (ty : TypeId) (cs : List Value), q ≠ b → ty ≠ 67 → ty ≠ 64 → Box w q ty cs → Box w' q ty cs
  own : ∀ (u : Value) (l : List Int) (base : Nat), OwnNums w base u l → FarAll u vss → OwnNums w' base u l ∧ FarAll u vss'
theorem Keeps.trans {b : Nat} {w1 w2 w3 : World} {s1 s2 s3 : List Value} (h : Keeps b w1 w2 s1 s2) (k : Keeps b w2 w3 s2 s3) : Keeps b w1 w3 s1 s3 :=
  ⟨by have := h.size; have := k.size; omega, fun q ty cs h1 h2 h3 hb => k.box q ty cs h1 h2 h3 (h.box q ty cs h1 h2 h3 hb), fun u l base h1 h2 => by
    obtain ⟨a, c⟩ := h.own u l base h1 h2
    exact k.own u l base a c⟩
theorem Keeps.of_below {b : Nat} {w w' : World} {s : List Value} (h : Below w.heap.size w w') : Keeps b w w' s s :=
  ⟨h.size, fun _ _ _ _ _ _ hb => hb.below h, fun _ _ _ h1 h2 => ⟨h1.below h, h2⟩⟩
theorem Keeps.of_box {b : Nat} {w : World} {s : List Value} {ty : TypeId} {cs : List Value} (hb : Box w b ty cs) (hty : ty ≠ 67) (k : Nat) (v : Value) : Keeps b w (w.setCell ⟨b, k, none⟩ v) s s :=
  ⟨(set_grown w b k v).size, fun q _ _ h1 _ _ h => h.far h1 k v, fun u l base h1 h2 => ⟨h1.kept (set_grown w b k v) (by
    cases hu : u.ownBlock with
    | none => exact .inl rfl
    | some c => exact .inr fun e => box_row_ne hb h1.1 hty (hu.trans e)), h2⟩⟩
structure Pl (W0 w : World) (g n : Nat) (vw : Value) (vws vss : List Value) (ws seen : List (List Int)) : Prop where
  bel : Below W0.heap.size W0 w
  wires : Grid w W0.heap.size vw vws ws
  seen : Grid w W0.heap.size (.slice (some ⟨g, 0, none⟩) n n) vss seen
  far : Far vw (.slice (some ⟨g, 0, none⟩) n n)
  rows : ∀ (i : Nat) (x : Value), vws[i]? = some x → FarAll x vss
section
variable {W0 w : World} {g n : Nat} {vw : Value} {vws vss : List Value} {ws seen : List (List Int)}
theorem Pl.below {w' : World} (h : Pl W0 w g n vw vws vss ws seen) (hb : Below w.heap.size w w') : Pl W0 w' g n vw vws vss ws seen :=
  ⟨below_trans h.bel hb h.bel.size, h.wires.below hb, h.seen.below hb, h.far, h.rows⟩
theorem Pl.drewN (h : Pl W0 w g n vw vws vss ws seen) (d : Nat) : Pl W0 (w.drewN d) g n vw vws vss ws seen := h.below (below_drewN (Below.refl _ _) d)
theorem Grid.box_kept {w : World} {base : Nat} {v : Value} {vs : List Value} {rows : List (List Int)} {b : Nat} {ty : TypeId} {cs : List Value} (h : Grid w base v vs rows) (hb : Box w b ty cs) (h1 : ty ≠ 67) (h2 : ty ≠ 64) (k : Nat) (u : Value) : Grid (w.setCell ⟨b, k, none⟩ u) base v vs rows := by
  have hg := set_grown w b k u
  refine ⟨h.outer.kept hg ?_, h.len, fun i x r hx hr => (h.row i x r hx hr).kept hg ?_, h.apart⟩
  · cases hv : v.ownBlock with
    | none => exact .inl rfl
    | some c => exact .inr fun e => box_row_ne hb h.outer h2 (hv.trans e)
  · cases hv : x.ownBlock with
    | none => exact .inl rfl
    | some c => exact .inr fun e => box_row_ne hb (h.row i x r hx hr).1 h1 (hv.trans e)
theorem Pl.box {b : Nat} {ty : TypeId} {cs : List Value} (h : Pl W0 w g n vw vws vss ws seen) (hb : Box w b ty cs) (h1 : ty ≠ 67) (h2 : ty ≠ 64) (hB : W0.heap.size ≤ b) (k : Nat) (u : Value) : Pl W0 (w.setCell ⟨b, k, none⟩ u) g n vw vws vss ws seen :=
  ⟨h.bel.setCell (p := ⟨b, k, none⟩) hB u, h.wires.box_kept hb h1 h2 k u, h.seen.box_kept hb h1 h2 k u, h.far, h.rows⟩
theorem Pl.push (h : Pl W0 w g n vw vws vss ws seen) {j : Nat} {y y' : Value} {r zs : List Int} {w' : World} (hv : vss[j]? = some y) (hr : seen[j]? = some r) (h1 : OwnNums w' W0.heap.size y' (r ++ zs)) (h2 : w.grownBy w' y.ownBlock) (h3 : y'.ownBlock = y.ownBlock ∨ y'.ownBlock = some w.heap.size) (b : Nat) :
    w'.cell? ⟨g, j, none⟩ = some y ∧ w'.frozen? ⟨g, j, none⟩ = false ∧ Pl W0 (w'.setCell ⟨g, j, none⟩ y') g n vw vws (vss.set j y') ws (seen.set j (r ++ zs)) ∧ Keeps b w (w'.setCell ⟨g, j, none⟩ y') vss (vss.set j y') := by
  obtain ⟨k1, k2, k3⟩ := h.seen.pushed hv hr h1 h2 h3
  have hy := h.seen.row j y r hv hr
  have hout' := h.seen.outer.kept h2 (.inr (fun e => kinds_apart hy.1 h.seen.outer (by decide) e.symm rfl))
  have hg2 := set_grown w' g j y'
  have own : ∀ (u : Value) (l : List Int) (base : Nat), OwnNums w base u l → FarAll u vss → OwnNums (w'.setCell ⟨g, j, none⟩ y') base u l ∧ FarAll u (vss.set j y') := fun u l base hu hf => by
    have hu1 := hu.kept h2 (hf j y hv).kept
    have hu2 := hu1.kept hg2 (by
      cases hb : u.ownBlock with
      | none => exact .inl rfl
      | some c => exact .inr fun e => kinds_apart hu1.1 hout' (by decide) hb e.symm)
    exact ⟨hu2, hf.set ((hf j y hv).grow hu.under h3) j⟩
  have hgsz := (h.seen.outer.lt g rfl)
  refine ⟨k1, k2, ⟨?_, ?_, k3, h.far, fun i x hx => ?_⟩, ?_⟩
  · exact ((h.bel).grown h2 h.bel.size (fun k hk => (hy.1.lt k hk).1)).setCell (p := ⟨g, j, none⟩) hgsz.1 y'
  · refine ⟨(h.wires.outer.kept h2 ?_).kept hg2 ?_, h.wires.len, fun i x s hx hs => (own x s _ (h.wires.row i x s hx hs) (h.rows i x hx)).1, h.wires.apart⟩
    · cases hb : vw.ownBlock with
      | none => exact .inl rfl
      | some c => exact .inr fun e => kinds_apart h.wires.outer hy.1 (by decide) hb e.symm
    · exact h.far.kept
  · have hi := (List.getElem?_eq_some_iff.1 hx).1
    rw [h.wires.vlen] at hi
    exact (own x _ _ (h.wires.row i x _ hx (List.getElem?_eq_getElem hi)) (h.rows i x hx)).2
  · refine ⟨by have := h2.size; have := hg2.size; omega, fun q ty cs _ n1 n2 hb => ?_, own⟩
    have hb1 := hb.grown h2 (fun e => box_row_ne hb hy.1 n1 e)
    exact hb1.far (fun e => by subst e; exact box_row_ne hb1 hout' n2 rfl) j y'
theorem Pl.push_outer (h : Pl W0 w g n vw vws vss ws seen) {j : Nat} {y y' : Value} {r : List Int} {w' : World} (hv : vss[j]? = some y) (hr : seen[j]? = some r) (h2 : w.grownBy w' y.ownBlock) {u : Value} {n2 base : Nat} {xs : List Value} (hu : w.ownsRow base 64 1 u n2 xs) (hg : u.ownBlock ≠ some g) : (w'.setCell ⟨g, j, none⟩ y').ownsRow base 64 1 u n2 xs :=
  (hu.kept h2 (by
    cases hc : u.ownBlock with
    | none => exact .inl rfl
    | some c => exact .inr fun e => kinds_apart hu (h.seen.row j y r hv hr).1 (by decide) hc e.symm)).kept (set_grown w' g j y') (.inr hg)
theorem Pl.wire (h : Pl W0 w g n vw vws vss ws seen) {x v' : Value} {r : List Int} {w' : World} (hw : Grid w' W0.heap.size v' (vws ++ [x]) (ws ++ [r])) (hb : Below W0.heap.size w w') (h2 : w.grownBy w' vw.ownBlock) (h3 : v'.ownBlock = vw.ownBlock ∨ v'.ownBlock = some w.heap.size) (hx : FarAll x vss) (b : Nat) :
    Pl W0 w' g n v' (vws ++ [x]) vss (ws ++ [r]) seen ∧ Keeps b w w' vss vss := by
  have own : ∀ (u : Value) (l : List Int) (base : Nat), OwnNums w base u l → OwnNums w' base u l := fun u l base hu => hu.kept h2 (by
    cases hc : u.ownBlock with
    | none => exact .inl rfl
    | some c => exact .inr fun e => kinds_apart hu.1 h.wires.outer (by decide) hc e.symm)
  refine ⟨⟨h.bel.trans hb, hw, ⟨h.seen.outer.kept h2 h.far.symm.kept, h.seen.len, fun i y s hy hs => own y s _ (h.seen.row i y s hy hs), h.seen.apart⟩, ?_, fun i y hy => ?_⟩, ?_⟩
  · exact (h.far.symm.grow (fun c hc => (h.seen.outer.lt c hc).2) h3).symm
  · rcases Nat.lt_or_ge i vws.length with hi | hi
    · rw [List.getElem?_append_left hi] at hy
      exact h.rows i y hy
    · rw [List.getElem?_append_right hi] at hy
      have h0 : i - vws.length = 0 := by
        have := (List.getElem?_eq_some_iff.1 hy).1
        simpa using this
      rw [h0] at hy
      simp at hy
      subst hy
      exact hx
  · exact ⟨h2.size, fun q ty cs _ n1 n2 hb => hb.grown h2 (fun e => box_row_ne hb h.wires.outer n2 e), fun u l base hu hf => ⟨own u l base hu, hf⟩⟩
end
def rowsN (n : Nat) (s : Nat → List Int) : List (List Int) := (List.range n).map s
theorem rowsN_length (n : Nat) (s : Nat → List Int) : (rowsN n s).length = n := by simp [rowsN]
theorem rowsN_get {n j : Nat} (s : Nat → List Int) (h : j < n) : (rowsN n s)[j]? = some (s j) := by simp [rowsN, h]
def mixR (s' s : Nat → List Int) (j : Nat) : Nat → List Int := fun q => if q < j then s' q else s q
theorem mixR_zero (s' s : Nat → List Int) : mixR s' s 0 = s := by funext q; unfold mixR; rw [if_neg (by omega)]
theorem mixR_at (s' s : Nat → List Int) (j : Nat) : mixR s' s j j = s j := by unfold mixR; rw [if_neg (by omega)]
theorem mixR_all (s' s : Nat → List Int) (n : Nat) : rowsN n (mixR s' s n) = rowsN n s' := List.map_congr_left fun q hq => by unfold mixR; rw [if_pos (List.mem_range.1 hq)]
theorem mixR_set {n j : Nat} (s' s : Nat → List Int) (h : j < n) : (rowsN n (mixR s' s j)).set j (s' j) = rowsN n (mixR s' s (j + 1)) := by
  apply List.ext_getElem?
  intro q
  by_cases hq : q < n
  · rw [rowsN_get _ hq]
    by_cases e : q = j
    · subst e
      rw [List.getElem?_set_self (by rw [rowsN_length]; exact h)]
      unfold mixR
      rw [if_pos (by omega)]
    · rw [List.getElem?_set_ne (Ne.symm e), rowsN_get _ hq]
      unfold mixR
      by_cases h2 : q < j
      · rw [if_pos h2, if_pos (by omega)]
      · rw [if_neg h2, if_neg (by omega)]
  · rw [List.getElem?_eq_none (by rw [List.length_set, rowsN_length]; omega), List.getElem?_eq_none (by rw [rowsN_length]; omega)]
theorem step_push_lies {ops : Array Oper} {o : Oper} {a : Act} {K : Act → World → Prop} {Q : Exit → Act → World → Prop} {E : Prop} {w : World} (hgd : o.guard = none) (s x : Operand)
    (ho : o.op = .call { callee := .builtin .append, args := #[s, x], argTypes := #[64, 64] })
    (base : Nat) (v : Value) (r : List Int) (z : Int) (gg cc : Nat) (hs : a.eval s = v) (hown : OwnNums w base v r) (hx : a.eval x = .slice (some ⟨gg, 0, none⟩) 1 cc)
    (hc : w.cell? ⟨gg, 0, none⟩ = some (.int .u64 z)) (hz : U64 z) (hl : r.length + 1 ≤ 17592186043904) (hb : base ≤ w.heap.size)
    (h : ∀ b cap w', OwnNums w' base (.slice (some ⟨b, 0, none⟩) (r.length + 1) cap) (r ++ [z]) → w.grownBy w' v.ownBlock → ((Value.slice (some ⟨b, 0, none⟩) (r.length + 1) cap).ownBlock = v.ownBlock ∨ (Value.slice (some ⟨b, 0, none⟩) (r.length + 1) cap).ownBlock = some w.heap.size) → K (a.put o.dst (.slice (some ⟨b, 0, none⟩) (r.length + 1) cap)) w') : if Region.wanted o (yielded ops a.tmps) = true then Oper.wp Tryz.prog o a w K Q else E := by
  obtain ⟨i0, hi, hz0, hz1, hz2⟩ := info_parts uinfo
  refine step_append_lies w hgd s x 64 ho base 67 i0 (.int .u64 0) 1 8 Tryz.underlying64 hi hz0 hz1 hz2 rfl (by decide) v r.length (u64s r) hs hown.1 ⟨gg, 0, none⟩ 1 cc [.int .u64 z] hx rfl ?_ ?_ (by omega) ?_ ?_ hb _ rfl ?_
  · intro j u hu
    match j, hu with
    | 0, hu =>
      simp at hu
      subst hu
      rw [add_addr]; exact hc
  · intro u hu
    simp at hu
    subst hu; rfl
  · unfold maxLen; omega
  · omega
  · intro b cap w' h1 h2 h4 _
    refine h b cap w' ⟨?_, by simpa using hl, fun y hy => ?_⟩ h2 ?_
    · have e : (r ++ [z]).length = r.length + 1 := by simp
      have e2 : u64s (r ++ [z]) = u64s r ++ [.int .u64 z] := by simp [u64s]
      rw [e, e2]; exact h1
    · rcases List.mem_append.1 hy with h5 | h5
      · exact hown.2.2 y h5
      · simp at h5; subst h5; exact hz
    · rcases h4 with h4 | h4
      · left; rw [h4]; rfl
      · right; rw [h4]; rfl
theorem nslice_rest_run (A : Option Addr) (m c lo : Nat) (h1 : lo ≤ m) (W : World) :
    (Instr.sliceAt 64 (.slice A m c) (some (.int .i64 (lo : Int))) none none).run Tryz.prog W = .ok (.slice (if c = lo then A else A.map (·.add (lo * 1))) (m - lo) (c - lo)) W := by
  have hU : Program.underlying Tryz.prog 64 = some (.slice (Program.elem Tryz.prog 64)) := by kernel_rfl
  have hs : ∀ W, (sizeOf (Program.elem Tryz.prog 64)).run Tryz.prog W = .ok 1 W := fun W => by kernel_rfl
  rw [run_sliceAt_slice _ _ _ _ _ _ hU, run_slice_l W _ A m c hU .i64 _ (by omega) (by omega), hs]
  simp [Result.andThen, sliced]
structure St (W0 w : World) (b g n t : Nat) (vi vd vw : Value) (vws vss : List Value) (ins ds : List Int) (ws seen : List (List Int)) : Prop where
  pl : Pl W0 w g n vw vws vss ws seen
  box : Box w b 131 [.int .i64 n, .int .i64 t, vi, vd, vw, .slice (some ⟨g, 0, none⟩) n n]
  le : W0.heap.size ≤ b
  ins : IsNums W0 vi ins
  ds : IsNums W0 vd ds
section
variable {W0 w : World} {b g n t : Nat} {vi vd vw : Value} {vws vss : List Value} {ins ds : List Int} {ws seen : List (List Int)}
theorem St.below {w' : World} (h : St W0 w b g n t vi vd vw vws vss ins ds ws seen) (hb : Below w.heap.size w w') : St W0 w' b g n t vi vd vw vws vss ins ds ws seen :=
  ⟨h.pl.below hb, h.box.below hb, h.le, h.ins, h.ds⟩
theorem St.push (h : St W0 w b g n t vi vd vw vws vss ins ds ws seen) {j : Nat} {y y' : Value} {r zs : List Int} {w' : World} (hv : vss[j]? = some y) (hr : seen[j]? = some r) (h1 : OwnNums w' W0.heap.size y' (r ++ zs)) (h2 : w.grownBy w' y.ownBlock) (h3 : y'.ownBlock = y.ownBlock ∨ y'.ownBlock = some w.heap.size) :
    w'.cell? ⟨g, j, none⟩ = some y ∧ w'.frozen? ⟨g, j, none⟩ = false ∧ St W0 (w'.setCell ⟨g, j, none⟩ y') b g n t vi vd vw vws (vss.set j y') ins ds ws (seen.set j (r ++ zs)) ∧ Keeps (w'.heap.size) w (w'.setCell ⟨g, j, none⟩ y') vss (vss.set j y') := by
  obtain ⟨k1, k2, k3, k4⟩ := h.pl.push hv hr h1 h2 h3 w'.heap.size
  refine ⟨k1, k2, ⟨k3, k4.box b _ _ ?_ (by decide) (by decide) h.box, h.le, h.ins, h.ds⟩, k4⟩
  have := h.box.lt
  have := h2.size
  omega
theorem Keeps.weaken {b b' : Nat} {w w' : World} {s s' : List Value} (h : Keeps b w w' s s') (hb : w.heap.size ≤ b) : Keeps b' w w' s s' :=
  ⟨h.size, fun q ty cs _ h2 h3 hx => h.box q ty cs (by have := hx.lt; omega) h2 h3 hx, h.own⟩
end
def StRes (W0 w : World) (b g n t : Nat) (vw : Value) (vws vss : List Value) (ws : List (List Int)) (e : Ending) (w' : World) (ins ds l : List Int) (seen : List (List Int)) : Prop :=
  ∃ v vi vd vss', e = .returned v ∧ OwnNums w' W0.heap.size v l ∧ (∀ c, v.ownBlock = some c → w.heap.size ≤ c) ∧ FarAll v vss' ∧ St W0 w' b g n t vi vd vw vws vss' ins ds ws seen ∧ Keeps b w w' vss vss'
theorem eDrawn_any (w : World) (b L c k : Nat) (kz : Int) (hkz : kz = (k : Int)) (A : Option Addr) (x0 x1 x2 x4 x5 : Value) (h : Box w b 131 [x0, x1, x2, .slice A L c, x4, x5]) (hk : k ≤ L) (hc : L ≤ c) :
    Calls Tryz.prog 178 #[.pointer (some ⟨b, 0, none⟩), .int .i64 kz] w fun e w' => e = .returned (.slice A k c) ∧ w.setCell ⟨b, 3, none⟩ (.slice (if c = k then A else A.map (·.add (k * 1))) (L - k) (c - k)) = w' := by
  subst hkz
  have hc3 := h.cell (i := 3) rfl
  have hf3 := h.frozen 3
  have hsl := nslice_rest_run A L c k hk
  obtain ⟨A2, hA⟩ : ∃ A2, A2 = (if c = k then A else A.map (·.add (k * 1))) := ⟨_, rfl⟩
  obtain ⟨L2, hL⟩ : ∃ L2, L2 = L - k := ⟨_, rfl⟩
  obtain ⟨c2, hc2⟩ : ∃ c2, c2 = c - k := ⟨_, rfl⟩
  rw [← hA, ← hL, ← hc2] at hsl ⊢
  clear hA hL hc2
  go_enter Tryz.func178, Tryz.ntmps178
  go_wp2_with fail
  go_ret
  exact ⟨rfl, rfl⟩
theorem IsNums.first {w : World} {A : Option Addr} {len c : Nat} {zs : List Int} (h : IsNums w (.slice A len c) zs) (k : Nat) (hk : k ≤ zs.length) : IsNums w (.slice A k c) (zs.take k) := by
  obtain ⟨A1, c1, e, h1, h2, h3, h4, h5⟩ := h
  injection e with e1 e2 e3
  subst e1 e2 e3
  have hl : (zs.take k).length = k := by simp; omega
  exact ⟨_, _, by rw [hl], by rw [hl]; omega, h2, by rw [hl]; omega, fun z hz => h4 z (List.mem_of_mem_take hz), by rw [u64s_take]; exact h5.take _⟩
theorem IsNums.last {w : World} {A : Option Addr} {c : Nat} {zs : List Int} (h : IsNums w (.slice A zs.length c) zs) (k : Nat) (hk : k ≤ zs.length) : IsNums w (.slice (if c = k then A else A.map (·.add (k * 1))) (zs.length - k) (c - k)) (zs.drop k) := by
  have h2 := h.cut k zs.length hk (Nat.le_refl _)
  rwa [List.take_of_length_le (by simp)] at h2
set_option maxRecDepth 100000 in
set_option maxHeartbeats 4000000 in
theorem eInput_ok (W0 w : World) (b g n t : Nat) (vi vd vw : Value) (vws vss : List Value) (x : Int) (ins ds : List Int) (ws : List (List Int)) (s : Nat → List Int)
    (h : St W0 w b g n t vi vd vw vws vss (x :: ins) ds ws (rowsN n s)) (ht : t ≤ 4) (hn : t + 1 ≤ n) (hn9 : n ≤ 9) (hd : t ≤ ds.length) (hs : ∀ q, q < n → (s q).length ≤ 1000) :
    Calls Tryz.prog 147 #[.pointer (some ⟨b, 0, none⟩)] w fun e w' => StRes W0 w b g n t vw vws vss ws e w' ins (ds.drop t) (ofFs (deal n (toFs (x :: ds.take t)))) (rowsN n fun q => s q ++ [ofF (co (deal n (toFs (x :: ds.take t))) q)]) := by
  have H := Lib.hid h
  have HS := Lib.hid hs
  obtain ⟨R, hR⟩ : ∃ R, R = deal n (toFs (x :: ds.take t)) := ⟨_, rfl⟩
  rw [← hR]
  have HR := Lib.hid hR
  have HRL := Lib.hid (show R.length = n by rw [hR, deal_length])
  obtain ⟨s', hs'⟩ : ∃ s', s' = fun q => s q ++ [ofF (co R q)] := ⟨_, rfl⟩
  rw [← hs']
  have HSE := Lib.hid hs'
  suffices hgoal : ∀ Post : Ending → World → Prop, (∀ e w', StRes W0 w b g n t vw vws vss ws e w' ins (ds.drop t) (ofFs R) (rowsN n s') → Post e w') → Calls Tryz.prog 147 #[.pointer (some ⟨b, 0, none⟩)] w Post from hgoal _ fun e w' h => h
  intro Post hpo
  have HPO := Lib.hid hpo
  clear hpo hs hs' hR
  obtain ⟨Ai, ci, hvi, hci, _, hli, hui, hri⟩ := h.ins
  obtain ⟨Ad, cd, hvd, hcd, _, _, _, _⟩ := h.ds
  subst hvi hvd
  obtain ⟨b1, o1, z, rfl, hb1, hgz, hz64, hcz0⟩ := nums_at hri hui (k := 0) (by simp)
  have hze : z = x := by simpa using hgz.symm
  subst hze
  rw [Nat.add_zero] at hcz0
  have hcz := (h.pl.bel.cell (p := ⟨b1, o1, none⟩) hb1).trans hcz0
  have hB0 : W0.heap.size ≤ w.heap.size := h.pl.bel.size
  have hbb : b1 < b := Nat.lt_of_lt_of_le hb1 h.le
  have hc0 := h.box.cell (i := 0) rfl
  have hc1 := h.box.cell (i := 1) rfl
  have hc2 := h.box.cell (i := 2) rfl
  have BX := Lib.hid h.box
  have BX1 := Lib.hid (h.box.drewN 1)
  have HDL := Lib.hid hd
  have KTAKE := Lib.hid (h.ds.first t hd)
  have KLAST := Lib.hid (h.ds.last t hd)
  have KTL := Lib.hid (show (ds.take t).length = t by simp; omega)
  have BEL1 := Lib.hid (h.pl.bel.mono (Nat.le_refl _))
  rw [List.length_cons] at hli hci
  have KIN := Lib.hid h.ins
  have HALL := Lib.hid (show ∀ W1, (w.drewN 1).setCell ⟨b, 3, none⟩ (.slice (if cd = t then Ad else Ad.map (·.add (t * 1))) (ds.length - t) (cd - t)) = W1 → W1.cell? ⟨b1, o1, none⟩ = some (.int .u64 z) ∧ St W0 W1 b g n t (.slice (some ⟨b1, o1, none⟩) (z :: ins).length ci) (.slice (if cd = t then Ad else Ad.map (·.add (t * 1))) (ds.length - t) (cd - t)) vw vws vss (z :: ins) (ds.drop t) ws (rowsN n s) ∧ Keeps b w W1 vss vss from fun W1 hw => by
    subst hw
    refine ⟨(World.cell?_of_block (Below.heap_setCell _ _ _ _ (by show b1 ≠ b; omega))).trans hcz, ⟨(h.pl.drewN 1).box BX1.out (by decide) (by decide) h.le _ _, BX1.out.set 3 _, h.le, h.ins, KLAST.out⟩, ?_⟩
    exact (Keeps.of_below (below_drewN (Below.refl _ _) 1)).trans (Keeps.of_box BX1.out (by decide) _ _))
  clear hui hri h hb1 hgz hcz0
  go_enter Tryz.func147, Tryz.ntmps147
  go_wp2_with fail
  go_region_held3 (fun w' => w'.cell? ⟨b, 0, none⟩ = some (.int .i64 n) ∧ w'.cell? ⟨b, 1, none⟩ = some (.int .i64 t) ∧ w'.cell? ⟨b, 2, none⟩ = some (.slice (some ⟨b1, o1, none⟩) (z :: ins).length ci) ∧ w'.cell? ⟨b1, o1, none⟩ = some (.int .u64 z)) (go_keep) (first | (go_at_call 178; refine (eDrawn_any _ b ds.length cd t _ rfl Ad _ _ _ _ _ BX1.out HDL.out hcd).mono ?_; rintro e W1 ⟨rfl, hw⟩; obtain ⟨q3, ST1, KP1⟩ := HALL.out W1 hw; have q0 := ST1.box.cell (i := 0) rfl; have q1 := ST1.box.cell (i := 1) rfl; have q2 := ST1.box.cell (i := 2) rfl; have BL := ST1.pl.bel) | (go_at_call 56; refine (sDeal_ok _ _ _ n _ hz64 (KTAKE.out.below BL) (by rw [KTL.out]; exact ht) (by rw [KTL.out]; exact hn) hn9).mono ?_; rintro e W2 ⟨vl, rfl, ho, hb2⟩; have q4 := (ST1.below hb2).box.cell (i := 0) rfl; have q5 := (ST1.below hb2).box.cell (i := 1) rfl; have q6 := (ST1.below hb2).box.cell (i := 2) rfl; have q7 := (hb2.cell (p := ⟨b1, o1, none⟩) (Nat.lt_trans hbb ST1.box.lt)).trans q3))
  have ST2 := ST1.below hb2
  have KP2 := KP1.trans (Keeps.of_below (s := vss) hb2)
  have hszl : w.heap.size ≤ W1.heap.size := KP1.size
  rw [← HR.out] at ho
  have hi2 := ST2.box.cell (i := 2) rfl
  have hf2 := ST2.box.frozen 2
  have hsl := nslice_rest_run (some ⟨b1, o1, none⟩) (ins.length + 1) ci 1 (by omega)
  have hin2 := KIN.out.last 1 (by simp)
  simp only [List.length_cons, List.drop_one, List.tail_cons, Nat.add_sub_cancel] at hin2 hsl hi2
  obtain ⟨A2, hA2⟩ : ∃ A2, A2 = (if ci = 1 then (some ⟨b1, o1, none⟩ : Option Addr) else (some ⟨b1, o1, none⟩ : Option Addr).map (·.add (1 * 1))) := ⟨_, rfl⟩
  rw [← hA2] at hin2 hsl
  obtain ⟨c2, hc2'⟩ : ∃ c2, c2 = ci - 1 := ⟨_, rfl⟩
  rw [← hc2'] at hin2 hsl
  have hsl' : ∀ W, (Instr.sliceAt 64 (.slice (some ⟨b1, o1, none⟩) (ins.length + 1) ci) (some (.int .i64 1)) none none).run Tryz.prog W = .ok (.slice A2 ins.length c2) W := hsl
  clear hsl hA2 hc2'
  have HVL := Lib.hid (show ∀ c, vl.ownBlock = some c → W1.heap.size ≤ c from ho.over)
  obtain ⟨gl, cl, hvl, hgl1, hgl2⟩ := own_slice ho.1 (by rw [ofFs_length, HRL.out]; omega)
  rw [ofFs_length, HRL.out] at hvl
  subst hvl
  have ST3 := Lib.hid (show St W0 (W2.setCell ⟨b, 2, none⟩ (.slice A2 ins.length c2)) b g n t (.slice A2 ins.length c2) (.slice (if cd = t then Ad else Ad.map (·.add (t * 1))) (ds.length - t) (cd - t)) vw vws vss ins (ds.drop t) ws (rowsN n s) from
    ⟨ST2.pl.box ST2.box (by decide) (by decide) ST2.le _ _, ST2.box.set 2 _, ST2.le, hin2, ST2.ds⟩)
  have KP3 := Lib.hid (KP2.trans (Keeps.of_box (s := vss) ST2.box (by decide) 2 (.slice A2 ins.length c2)))
  have KL3 := Lib.hid ((Keeps.of_box (s := vss) ST2.box (by decide) 2 (.slice A2 ins.length c2)).own _ _ _ ho (FarAll.fresh ST1.pl.seen ho.over))
  have hglw : w.heap.size ≤ gl := by omega
  clear ST1 ST2 KP1 KP2 ho hb2 q0 q1 q2 q3 q4 q5 q6 q7 BL hcz hc0 hc1 hc2 BX BX1 KTAKE KLAST KTL BEL1 KIN HALL H hin2 hgl1 hgl2 HVL
  go_wp2_with fail
  generalize hW3 : W2.setCell ⟨b, 2, none⟩ (.slice A2 ins.length c2) = W3 at *
  clear hW3 hsl' hi2 hf2
  go_loopw [37] (fun x wr => ∃ (j : Nat) (vss' : List Value), j ≤ n ∧ x = .int .i64 j ∧ St W0 wr b g n t (.slice A2 ins.length c2) (.slice (if cd = t then Ad else Ad.map (·.add (t * 1))) (ds.length - t) (cd - t)) vw vws vss' ins (ds.drop t) ws (rowsN n (mixR s' s j)) ∧ OwnNums wr W1.heap.size (.slice (some ⟨gl, 0, none⟩) n cl) (ofFs R) ∧ FarAll (.slice (some ⟨gl, 0, none⟩) n cl) vss' ∧ Keeps b w wr vss vss') (fun x _ => n - (intOf x).toNat)
  case atStart => exact ⟨0, vss, Nat.zero_le _, rfl, by rw [mixR_zero]; exact ST3.out, KL3.out.1, KL3.out.2, KP3.out⟩
  case round =>
    obtain ⟨j, vss', hj, rfl, hst, hown, hfar, hkp⟩ := hrel
    clear ST3 KL3 KP3
    have ST3 := Lib.hid hst
    have KO := Lib.hid hown
    have FA := Lib.hid hfar
    have KP := Lib.hid hkp
    clear hst hown hfar hkp
    by_cases hlt : j < n
    · have hdj : decide ((j : Int) < (n : Int)) = true := by simp; omega
      have hcl := KO.out.cell (ofFs_get (get_co (l := R) (j := j) (by rw [HRL.out]; exact hlt)))
      have hc5 := ST3.out.box.cell (i := 5) rfl
      obtain ⟨y, hy⟩ : ∃ y, vss'[j]? = some y := ⟨_, List.getElem?_eq_getElem (by rw [ST3.out.pl.seen.vlen, rowsN_length]; exact hlt)⟩
      have hcg := ST3.out.pl.seen.cell hy
      have hrj : (rowsN n (mixR s' s j))[j]? = some (s j) := by rw [rowsN_get _ hlt, mixR_at]
      have hrow := ST3.out.pl.seen.row j y _ hy hrj
      have HY := Lib.hid hy
      have HRJ := Lib.hid hrj
      have HROW := Lib.hid hrow
      have hsl1 := HS.out j hlt
      have hB : W0.heap.size ≤ ((wr.drewN 1).alloc (.cells #[.int .u64 (ofF (co R j))] 67)).heap.size := by rw [size_alloc]; exact Nat.le_succ_of_le ST3.out.pl.bel.size
      have hgb : g < wr.heap.size := (ST3.out.pl.seen.outer.lt g rfl).2
      have hbb2 : b < wr.heap.size := ST3.out.box.lt
      have HPUSH := Lib.hid (show ∀ (bb cap : Nat) (w7 : World), OwnNums w7 W0.heap.size (.slice (some ⟨bb, 0, none⟩) ((s j).length + 1) cap) (s j ++ [ofF (co R j)]) → ((wr.drewN 1).alloc (.cells #[.int .u64 (ofF (co R j))] 67)).grownBy w7 y.ownBlock → ((Value.slice (some ⟨bb, 0, none⟩) ((s j).length + 1) cap).ownBlock = y.ownBlock ∨ (Value.slice (some ⟨bb, 0, none⟩) ((s j).length + 1) cap).ownBlock = some ((wr.drewN 1).alloc (.cells #[.int .u64 (ofF (co R j))] 67)).heap.size) →
          w7.cell? ⟨b, 5, none⟩ = some (.slice (some ⟨g, 0, none⟩) n n) ∧ w7.cell? ⟨g, j, none⟩ = some y ∧ w7.frozen? ⟨g, j, none⟩ = false ∧ St W0 (w7.setCell ⟨g, j, none⟩ (.slice (some ⟨bb, 0, none⟩) ((s j).length + 1) cap)) b g n t (.slice A2 ins.length c2) (.slice (if cd = t then Ad else Ad.map (·.add (t * 1))) (ds.length - t) (cd - t)) vw vws (vss'.set j (.slice (some ⟨bb, 0, none⟩) ((s j).length + 1) cap)) ins (ds.drop t) ws (rowsN n (mixR s' s (j + 1))) ∧ Keeps b wr (w7.setCell ⟨g, j, none⟩ (.slice (some ⟨bb, 0, none⟩) ((s j).length + 1) cap)) vss' (vss'.set j (.slice (some ⟨bb, 0, none⟩) ((s j).length + 1) cap)) from fun bb cap w7 ho hg hat => by
        have STa := ST3.out.below (((Below.refl wr.heap.size wr).alloc (Nat.le_refl _) (.cells #[.int .u64 (ofF (co R j))] 67)))
        have hb1 : Below wr.heap.size wr ((wr.drewN 1).alloc (.cells #[.int .u64 (ofF (co R j))] 67)) := (below_drewN (Below.refl _ _) 1).alloc (Nat.le_refl _) _
        have STb := ST3.out.below hb1
        obtain ⟨k1, k2, k3, k4⟩ := STb.push HY.out HRJ.out ho hg hat
        have hbx := (STb.box.grown hg (fun e => box_row_ne STb.box (STb.pl.seen.row j y _ HY.out HRJ.out).1 (by decide) e)).cell (i := 5) rfl
        have hk3 : (rowsN n (mixR s' s j)).set j (s j ++ [ofF (co R j)]) = rowsN n (mixR s' s (j + 1)) := by
          have h := mixR_set s' s hlt
          rw [show s' j = s j ++ [ofF (co R j)] by rw [HSE.out]] at h
          exact h
        rw [hk3] at k3
        exact ⟨hbx, k1, k2, k3, (Keeps.of_below (s := vss') hb1).trans (k4.weaken (by have := hg.size; omega))⟩)
      clear hy hrj hrow
      go_wp2_with fail
      go_region_law ((refine step_push_lies rfl _ _ (by rfl) W0.heap.size y (s j) (ofF (co R j)) _ 1 (by rfl) ((HROW.out.drewN 1).alloc _) (by rfl) (new_cell _ _ _) (U64.of_ofF _) (by omega) hB ?_; intro bb cap w7 ho7 hg7 hat7; obtain ⟨hc7, hk7, hf7, ST7, KP7⟩ := HPUSH.out bb cap w7 ho7 hg7 hat7))
      all_goals
        have KO8 := Lib.hid (KP7.own _ _ _ KO.out FA.out)
        have ST8 := Lib.hid ST7
        have KP8 := Lib.hid (KP.out.trans KP7)
        clear hc7 hk7 hf7 ST7 KP7 ho7 hg7 hat7 hcl hc5 hcg
        go_wp2_with fail
        exact ⟨⟨j + 1, vss'.set j (.slice (some ⟨bb, 0, none⟩) ((s j).length + 1) cap), by omega, by go_num, ST8.out, KO8.out.1, KO8.out.2, KP8.out⟩, by simp [intOf] <;> omega⟩
    · obtain rfl : n = j := by omega
      rw [mixR_all] at ST3
      have hdj : decide ((n : Int) < (n : Int)) = false := by simp
      go_wp2_with fail
      exact HPO.out _ _ ⟨_, _, _, vss', rfl, KO.out.less (by omega), (fun c hc => by injection hc with hc; subst hc; exact hglw), FA.out, ST3.out, KP.out⟩
structure Got (w : World) (vg : Value) (n : Nat) (vgs : List Value) (rows : List (List Int)) (vss : List Value) : Prop where
  outer : w.ownsRow 0 64 1 vg n vgs
  row : ∀ (i : Nat) (x : Value) (r : List Int), vgs[i]? = some x → rows[i]? = some r → OwnNums w 0 x r ∧ FarAll x vss
theorem Got.step {w w' : World} {b n : Nat} {vg : Value} {vgs vss vss' : List Value} {rows : List (List Int)} (h : Got w vg n vgs rows vss) (k : Keeps b w w' vss vss') (ho : w'.ownsRow 0 64 1 vg n vgs) : Got w' vg n vgs rows vss' :=
  ⟨ho, fun i x r hx hr => k.own _ _ _ (h.row i x r hx hr).1 (h.row i x r hx hr).2⟩
theorem ownsRow_zero {w : World} {base : Nat} {e : TypeId} {size n : Nat} {v : Value} {xs : List Value} (h : w.ownsRow base e size v n xs) : w.ownsRow 0 e size v n xs := by
  refine ⟨h.1, ?_⟩
  rcases h.2 with h1 | ⟨g, cap, cur, hv, hg, r⟩
  · exact .inl h1
  · exact .inr ⟨g, cap, cur, hv, Nat.zero_le _, r⟩
theorem step_push_many {ops : Array Oper} {o : Oper} {a : Act} {K : Act → World → Prop} {Q : Exit → Act → World → Prop} {E : Prop} {w : World} (hgd : o.guard = none) (s x : Operand)
    (ho : o.op = .call { callee := .builtin .append, args := #[s, x], argTypes := #[64, 64] })
    (base base2 : Nat) (v : Value) (r zs : List Int) (gg n cc : Nat) (hs : a.eval s = v) (hown : OwnNums w base v r) (hx : a.eval x = .slice (some ⟨gg, 0, none⟩) n cc)
    (hc : OwnNums w base2 (.slice (some ⟨gg, 0, none⟩) n cc) zs) (hp : 0 < n) (hl : r.length + n ≤ 17592186043904) (hb : base ≤ w.heap.size)
    (h : ∀ b cap w', OwnNums w' base (.slice (some ⟨b, 0, none⟩) (r.length + n) cap) (r ++ zs) → w.grownBy w' v.ownBlock → ((Value.slice (some ⟨b, 0, none⟩) (r.length + n) cap).ownBlock = v.ownBlock ∨ (Value.slice (some ⟨b, 0, none⟩) (r.length + n) cap).ownBlock = some w.heap.size) → K (a.put o.dst (.slice (some ⟨b, 0, none⟩) (r.length + n) cap)) w') : if Region.wanted o (yielded ops a.tmps) = true then Oper.wp Tryz.prog o a w K Q else E := by
  obtain ⟨i0, hi, hz0, hz1, hz2⟩ := info_parts uinfo
  have hn : n = zs.length := hc.len
  refine step_append_lies w hgd s x 64 ho base 67 i0 (.int .u64 0) 1 8 Tryz.underlying64 hi hz0 hz1 hz2 rfl (by decide) v r.length (u64s r) hs hown.1 ⟨gg, 0, none⟩ n cc (u64s zs) hx (by rw [u64s_length]; omega) ?_ (u64s_one zs) (by omega) ?_ ?_ hb _ rfl ?_
  · intro j u hu
    rw [u64s_get] at hu
    obtain ⟨z, hz, hzu⟩ := Option.map_eq_some_iff.1 hu
    rw [add_addr, ← hzu]
    simp only [Nat.zero_add]
    exact hc.cell hz
  · unfold maxLen; omega
  · omega
  · intro b cap w' h1 h2 h4 _
    refine h b cap w' ⟨?_, by simpa [hn] using hl, fun y hy => ?_⟩ h2 ?_
    · have e : (r ++ zs).length = r.length + n := by simp [hn]
      have e2 : u64s (r ++ zs) = u64s r ++ u64s zs := by simp [u64s]
      rw [e, e2]; exact h1
    · rcases List.mem_append.1 hy with h5 | h5
      · exact hown.2.2 y h5
      · exact hc.2.2 y h5
    · rcases h4 with h4 | h4
      · left; rw [h4]; rfl
      · right; rw [h4]; rfl
set_option maxRecDepth 100000 in
set_option maxHeartbeats 1000000 in
theorem eMul_ok (W0 w : World) (b g n t : Nat) (vi vd vw vx vy : Value) (vws vss : List Value) (xs ys ins ds : List Int) (ws : List (List Int)) (s : Nat → List Int)
    (h : St W0 w b g n t vi vd vw vws vss ins ds ws (rowsN n s)) (hx : OwnNums w W0.heap.size vx xs) (hy : OwnNums w W0.heap.size vy ys) (hfx : FarAll vx vss) (hfy : FarAll vy vss) (hxl : xs.length = n) (hyl : ys.length = n) (ht : t ≤ 4) (hn : 2 * t + 1 ≤ n) (hn9 : n ≤ 9) (hd : n * t ≤ ds.length) (hs : ∀ q, q < n → (s q).length ≤ 1000) :
    Calls Tryz.prog 150 #[.pointer (some ⟨b, 0, none⟩), vx, vy] w fun e w' => StRes W0 w b g n t vw vws vss ws e w' ins (ds.drop (n * t)) (ofFs (mulOut n t (toFs xs) (toFs ys) (toFs (ds.take (n * t))))) (rowsN n fun q => s q ++ ofFs ((gotM n t (toFs xs) (toFs ys) (toFs (ds.take (n * t)))).getD q [])) := by
  have H := Lib.hid h
  have HS := Lib.hid hs
  have HX := Lib.hid hx
  have HY := Lib.hid hy
  have HXL := Lib.hid hxl
  have HYL := Lib.hid hyl
  obtain ⟨M, hM⟩ : ∃ M, M = mulOut n t (toFs xs) (toFs ys) (toFs (ds.take (n * t))) := ⟨_, rfl⟩
  obtain ⟨G, hG⟩ : ∃ G, G = gotM n t (toFs xs) (toFs ys) (toFs (ds.take (n * t))) := ⟨_, rfl⟩
  have HGR := Lib.hid (show ∀ q, q < n → (G.map ofFs)[q]? = some (ofFs (G.getD q [])) ∧ (G.getD q []).length = n from fun q hq => by
    rw [hG]
    unfold gotM
    simp [List.getD, hq])
  rw [← hM, ← hG]
  have HML := Lib.hid (show M.length = n by rw [hM]; simp [mulOut, gotM])
  have HM := Lib.hid hM
  have HG := Lib.hid hG
  obtain ⟨s', hs'⟩ : ∃ s', s' = fun q => s q ++ ofFs (G.getD q []) := ⟨_, rfl⟩
  rw [← hs']
  have HSE := Lib.hid hs'
  suffices hgoal : ∀ Post : Ending → World → Prop, (∀ e w', StRes W0 w b g n t vw vws vss ws e w' ins (ds.drop (n * t)) (ofFs M) (rowsN n s') → Post e w') → Calls Tryz.prog 150 #[.pointer (some ⟨b, 0, none⟩), vx, vy] w Post from hgoal _ fun e w' h => h
  intro Post hpo
  have HPO := Lib.hid hpo
  have hnT : n * t ≤ 36 := Nat.mul_le_mul hn9 ht
  obtain ⟨K, hK⟩ : ∃ K, K = n * t := ⟨_, rfl⟩
  have hmul : ((n : Nat) : Int) * (t : Int) = ((K : Nat) : Int) := by rw [hK]; simp
  have HMUL := Lib.hid hmul
  have HK := Lib.hid hK
  rw [← hK] at hnT hd hpo
  obtain ⟨Ax, cx, hvx, _, _⟩ := own_form hx.1
  obtain ⟨Ay, cy, hvy, _, _⟩ := own_form hy.1
  obtain ⟨Ad, cd, hvd, hcd, _, _, _, _⟩ := h.ds
  subst hvd hvx hvy
  have hc0 := h.box.cell (i := 0) rfl
  have hc1 := h.box.cell (i := 1) rfl
  have BX1 := Lib.hid (h.box.drewN 1)
  have HDL := Lib.hid hd
  have KTAKE := Lib.hid (h.ds.first K hd)
  have KLAST := Lib.hid (h.ds.last K hd)
  have KTL := Lib.hid (show (ds.take K).length = n * t by rw [← hK]; simp; omega)
  have hB0 : W0.heap.size ≤ w.heap.size := h.pl.bel.size
  have HALL := Lib.hid (show ∀ W1, (w.drewN 1).setCell ⟨b, 3, none⟩ (.slice (if cd = K then Ad else Ad.map (·.add (K * 1))) (ds.length - K) (cd - K)) = W1 → St W0 W1 b g n t vi (.slice (if cd = K then Ad else Ad.map (·.add (K * 1))) (ds.length - K) (cd - K)) vw vws vss ins (ds.drop K) ws (rowsN n s) ∧ Keeps b w W1 vss vss ∧ IsNums W1 (.slice Ax xs.length cx) xs ∧ IsNums W1 (.slice Ay ys.length cy) ys from fun W1 hw => by
    subst hw
    have kp : Keeps b w ((w.drewN 1).setCell ⟨b, 3, none⟩ (.slice (if cd = K then Ad else Ad.map (·.add (K * 1))) (ds.length - K) (cd - K))) vss vss := (Keeps.of_below (below_drewN (Below.refl _ _) 1)).trans (Keeps.of_box BX1.out (by decide) _ _)
    exact ⟨⟨(h.pl.drewN 1).box BX1.out (by decide) (by decide) h.le _ _, BX1.out.set 3 _, h.le, h.ins, KLAST.out⟩, kp, (kp.own _ _ _ hx hfx).1.is, (kp.own _ _ _ hy hfy).1.is⟩)
  clear hK
  have hw1 : IntKind.i64.wrap ((n : Int) * (t : Int)) = (n : Int) * (t : Int) := IntWalk.i64_in _ (by rw [hmul]; omega)
  have hnT0 : 0 ≤ (n : Int) * (t : Int) ∧ (n : Int) * (t : Int) ≤ 36 := by rw [hmul]; omega
  clear h hmul hpo hfx hfy hs hs' hM hG hxl hyl
  go_enter Tryz.func150, Tryz.ntmps150
  go_wp2_with fail
  go_region_held3 (fun w' => w'.cell? ⟨b, 0, none⟩ = some (.int .i64 n) ∧ w'.cell? ⟨b, 1, none⟩ = some (.int .i64 t)) (go_keep) (first | (go_at_call 178; refine (eDrawn_any _ b ds.length cd K _ HMUL.out Ad _ _ _ _ _ BX1.out HDL.out hcd).mono ?_; rintro e W1 ⟨rfl, hw⟩; obtain ⟨ST1, KP1, KX1, KY1⟩ := HALL.out W1 hw; have q0 := ST1.box.cell (i := 0) rfl; have q1 := ST1.box.cell (i := 1) rfl; have BL := ST1.pl.bel) | (go_at_call 124; refine (gMul_ok n t _ _ _ xs ys (ds.take K) _ KX1 KY1 (KTAKE.out.below BL) HXL.out HYL.out KTL.out ht hn hn9).mono ?_; rintro e W2 ⟨vl, vg, vgs, rfl, ho, hgr, hap, hb2⟩; have q4 := (ST1.below hb2).box.cell (i := 0) rfl; have q5 := (ST1.below hb2).box.cell (i := 1) rfl; have HO := Lib.hid ho; have HGRD := Lib.hid hgr; have HB2 := Lib.hid hb2; clear ho hgr hap hb2))
  have ho := HO.out
  have hgr := HGRD.out
  have hb2 := HB2.out
  have ST2 := ST1.below hb2
  have KP2 := KP1.trans (Keeps.of_below (s := vss) hb2)
  have hszl : w.heap.size ≤ W1.heap.size := KP1.size
  rw [HK.out, ← HM.out] at ho
  rw [HK.out, ← HG.out] at hgr
  have hgl : (G.map ofFs).length = n := by rw [HG.out]; simp [gotM]
  obtain ⟨gl, cl, hvl, hgl1, hgl2⟩ := own_slice ho.1 (by rw [ofFs_length, HML.out]; omega)
  rw [ofFs_length, HML.out] at hvl
  obtain ⟨gg, cg, hvg, hgg1, hgg2⟩ := own_slice hgr.outer (by rw [hgl]; omega)
  rw [hgl] at hvg
  subst hvl hvg
  have hgn : gg ≠ g := by have := (ST1.pl.seen.outer.lt g rfl).2; omega
  have ST3 := Lib.hid ST2
  have KP3 := Lib.hid KP2
  have KL3 := Lib.hid (show OwnNums W2 W1.heap.size (.slice (some ⟨gl, 0, none⟩) n cl) (ofFs M) ∧ FarAll (.slice (some ⟨gl, 0, none⟩) n cl) vss from ⟨ho, FarAll.fresh ST1.pl.seen ho.over⟩)
  have hout := hgr.outer
  rw [hgl] at hout
  have KG3 := Lib.hid (show Got W2 (.slice (some ⟨gg, 0, none⟩) n cg) n vgs (G.map ofFs) vss from
    ⟨ownsRow_zero hout, fun i x r hx hr => ⟨(hgr.row i x r hx hr).less (Nat.zero_le _), FarAll.fresh ST1.pl.seen (hgr.row i x r hx hr).over⟩⟩)
  have HGV := Lib.hid (show vgs.length = n by rw [hgr.vlen, hgl])
  have hglw : w.heap.size ≤ gl := by omega
  clear ST1 ST2 KP1 KP2 KX1 KY1 ho hgr hb2 hout q0 q1 q4 q5 BL hc0 hc1 BX1 KTAKE KLAST KTL HALL H HO HGRD HB2 hgl1 hgl2 hgg1 hgg2 hgl
  go_wp2_with fail
  go_loopw [36] (fun x wr => ∃ (j : Nat) (vss' : List Value), j ≤ n ∧ x = .int .i64 j ∧ St W0 wr b g n t vi (.slice (if cd = K then Ad else Ad.map (·.add (K * 1))) (ds.length - K) (cd - K)) vw vws vss' ins (ds.drop K) ws (rowsN n (mixR s' s j)) ∧ OwnNums wr W1.heap.size (.slice (some ⟨gl, 0, none⟩) n cl) (ofFs M) ∧ FarAll (.slice (some ⟨gl, 0, none⟩) n cl) vss' ∧ Got wr (.slice (some ⟨gg, 0, none⟩) n cg) n vgs (G.map ofFs) vss' ∧ Keeps b w wr vss vss') (fun x _ => n - (intOf x).toNat)
  case atStart => exact ⟨0, vss, Nat.zero_le _, rfl, by rw [mixR_zero]; exact ST3.out, KL3.out.1, KL3.out.2, KG3.out, KP3.out⟩
  case round =>
    obtain ⟨j, vss', hj, rfl, hst, hown, hfar, hgot, hkp⟩ := hrel
    clear ST3 KL3 KP3 KG3
    have ST3 := Lib.hid hst
    have KO := Lib.hid hown
    have FA := Lib.hid hfar
    have KP := Lib.hid hkp
    have KG := Lib.hid hgot
    clear hst hown hfar hkp hgot
    by_cases hlt : j < n
    · have hdj : decide ((j : Int) < (n : Int)) = true := by simp; omega
      obtain ⟨hGj, hGl⟩ := HGR.out j hlt
      obtain ⟨xg, hxg⟩ : ∃ xg, vgs[j]? = some xg := ⟨_, List.getElem?_eq_getElem (by rw [HGV.out]; exact hlt)⟩
      have hrg := (KG.out.row j xg _ hxg hGj).1
      obtain ⟨gx, cx2, hvx, hgx1, hgx2⟩ := own_slice hrg.1 (by rw [ofFs_length, hGl]; omega)
      rw [ofFs_length, hGl] at hvx
      subst hvx
      have hcg0 := KG.out.outer.cellAt j (by omega)
      rw [hxg] at hcg0
      have hc5 := ST3.out.box.cell (i := 5) rfl
      obtain ⟨y, hy⟩ : ∃ y, vss'[j]? = some y := ⟨_, List.getElem?_eq_getElem (by rw [ST3.out.pl.seen.vlen, rowsN_length]; exact hlt)⟩
      have hcg := ST3.out.pl.seen.cell hy
      have hrj : (rowsN n (mixR s' s j))[j]? = some (s j) := by rw [rowsN_get _ hlt, mixR_at]
      have hrow := ST3.out.pl.seen.row j y _ hy hrj
      have HY := Lib.hid hy
      have HRJ := Lib.hid hrj
      have HROW := Lib.hid hrow
      have HRG := Lib.hid hrg
      have HXG := Lib.hid hxg
      have HGJ := Lib.hid hGj
      have hsl1 := HS.out j hlt
      have hB : W0.heap.size ≤ wr.heap.size := ST3.out.pl.bel.size
      have hgb : g < wr.heap.size := (ST3.out.pl.seen.outer.lt g rfl).2
      have hbb2 : b < wr.heap.size := ST3.out.box.lt
      have HPUSH := Lib.hid (show ∀ (bb cap : Nat) (w7 : World), OwnNums w7 W0.heap.size (.slice (some ⟨bb, 0, none⟩) ((s j).length + n) cap) (s j ++ (ofFs (G.getD j []))) → (wr.drewN 1).grownBy w7 y.ownBlock → ((Value.slice (some ⟨bb, 0, none⟩) ((s j).length + n) cap).ownBlock = y.ownBlock ∨ (Value.slice (some ⟨bb, 0, none⟩) ((s j).length + n) cap).ownBlock = some (wr.drewN 1).heap.size) →
          w7.cell? ⟨b, 5, none⟩ = some (.slice (some ⟨g, 0, none⟩) n n) ∧ w7.cell? ⟨g, j, none⟩ = some y ∧ w7.frozen? ⟨g, j, none⟩ = false ∧ St W0 (w7.setCell ⟨g, j, none⟩ (.slice (some ⟨bb, 0, none⟩) ((s j).length + n) cap)) b g n t vi (.slice (if cd = K then Ad else Ad.map (·.add (K * 1))) (ds.length - K) (cd - K)) vw vws (vss'.set j (.slice (some ⟨bb, 0, none⟩) ((s j).length + n) cap)) ins (ds.drop K) ws (rowsN n (mixR s' s (j + 1))) ∧ Keeps b wr (w7.setCell ⟨g, j, none⟩ (.slice (some ⟨bb, 0, none⟩) ((s j).length + n) cap)) vss' (vss'.set j (.slice (some ⟨bb, 0, none⟩) ((s j).length + n) cap)) ∧ Got (w7.setCell ⟨g, j, none⟩ (.slice (some ⟨bb, 0, none⟩) ((s j).length + n) cap)) (.slice (some ⟨gg, 0, none⟩) n cg) n vgs (G.map ofFs) (vss'.set j (.slice (some ⟨bb, 0, none⟩) ((s j).length + n) cap)) from fun bb cap w7 ho hg hat => by
        have hb1 : Below wr.heap.size wr (wr.drewN 1) := below_drewN (Below.refl _ _) 1
        have STb := ST3.out.below hb1
        obtain ⟨k1, k2, k3, k4⟩ := STb.push HY.out HRJ.out ho hg hat
        have hbx := (STb.box.grown hg (fun e => box_row_ne STb.box (STb.pl.seen.row j y _ HY.out HRJ.out).1 (by decide) e)).cell (i := 5) rfl
        have hk3 : (rowsN n (mixR s' s j)).set j (s j ++ (ofFs (G.getD j []))) = rowsN n (mixR s' s (j + 1)) := by
          have h := mixR_set s' s hlt
          rw [show s' j = s j ++ (ofFs (G.getD j [])) by rw [HSE.out]] at h
          exact h
        have kp := (Keeps.of_below (b := b) (s := vss') hb1).trans (k4.weaken (by have := hg.size; omega))
        have ko := STb.pl.push_outer HY.out HRJ.out hg (own_kept KG.out.outer hb1) (j := j) (y' := (.slice (some ⟨bb, 0, none⟩) ((s j).length + n) cap)) (fun e => hgn (Option.some.inj e))
        rw [hk3] at k3
        exact ⟨hbx, k1, k2, k3, kp, KG.out.step kp ko⟩)
      clear hy hrj hrow hrg hxg hGj hGl
      go_wp2_with fail
      go_region_law ((refine step_push_many rfl _ _ (by rfl) W0.heap.size 0 y (s j) (ofFs (G.getD j [])) gx n cx2 (by rfl) (HROW.out.drewN 1) (by rfl) (HRG.out.drewN 1) (by omega) (by omega) hB ?_; intro bb cap w7 ho7 hg7 hat7; obtain ⟨hc7, hk7, hf7, ST7, KP7, KG7⟩ := HPUSH.out bb cap w7 ho7 hg7 hat7))
      all_goals
        have KO8 := Lib.hid (KP7.own _ _ _ KO.out FA.out)
        have ST8 := Lib.hid ST7
        have KP8 := Lib.hid (KP.out.trans KP7)
        have KG8 := Lib.hid KG7
        clear hc7 hk7 hf7 ST7 KP7 ho7 hg7 hat7 hcg0 hc5 hcg KG7
        go_wp2_with fail
        exact ⟨⟨j + 1, vss'.set j (.slice (some ⟨bb, 0, none⟩) ((s j).length + n) cap), by omega, by go_num, ST8.out, KO8.out.1, KO8.out.2, KG8.out, KP8.out⟩, by simp [intOf] <;> omega⟩
    · obtain rfl : n = j := by omega
      rw [mixR_all] at ST3
      have hdj : decide ((n : Int) < (n : Int)) = false := by simp
      go_wp2_with fail
      refine HPO.out _ _ ⟨_, vi, (.slice (if cd = K then Ad else Ad.map (·.add (K * 1))) (ds.length - K) (cd - K)), vss', rfl, KO.out.less (by omega), (fun c hc => by injection hc with hc; subst hc; exact hglw), FA.out, ?_, KP.out⟩
      rw [← HK.out]
      exact ST3.out
section
variable {W0 w w1 w' : World} {b g n t : Nat} {vi vd vw v : Value} {vws vss : List Value} {ins ds ins' ds' l : List Int} {ws seen seen' : List (List Int)} {e : Ending}
theorem St.made (h : St W0 w b g n t vi vd vw vws vss ins ds ws seen) {B : Nat} (hb : Below w.heap.size w w') (ho : OwnNums w' B v l) (hB : w.heap.size ≤ B) : StRes W0 w b g n t vw vws vss ws (.returned v) w' ins ds l seen :=
  ⟨v, vi, vd, vss, rfl, ho.less (Nat.le_trans h.pl.bel.size hB), fun c hc => Nat.le_trans hB (ho.over c hc), FarAll.fresh h.pl.seen (fun c hc => Nat.le_trans hB (ho.over c hc)), h.below hb, Keeps.of_below hb⟩
theorem StRes.after (hb : Below w.heap.size w w1) (h : StRes W0 w1 b g n t vw vws vss ws e w' ins ds l seen) : StRes W0 w b g n t vw vws vss ws e w' ins ds l seen := by
  obtain ⟨v, vi, vd, vss', he, ho, hv, hf, hs, hk⟩ := h
  exact ⟨v, vi, vd, vss', he, ho, fun c hc => Nat.le_trans hb.size (hv c hc), hf, hs, (Keeps.of_below hb).trans hk⟩
theorem St.wireAt {WF : List (List F)} (h : St W0 w b g n t vi vd vw vws vss ins ds (WF.map ofFs) seen) {a : Nat} (ha : a < WF.length) : ∃ x, vws[a]? = some x ∧ OwnNums w W0.heap.size x (ofFs (wr WF a)) ∧ FarAll x vss := by
  have hl := h.pl.wires.vlen
  rw [List.length_map] at hl
  obtain ⟨x, hx⟩ : ∃ x, vws[a]? = some x := ⟨_, List.getElem?_eq_getElem (by omega)⟩
  exact ⟨x, hx, h.pl.wires.row a x _ hx (by rw [List.getElem?_map, wr_get ha]; rfl), h.pl.rows a x hx⟩
end
theorem zipS_ofFs (op : F → F → F) (a b : List F) : zipS op (ofFs a) (ofFs b) = ofFs (List.zipWith op a b) := by
  have e : ∀ l : List F, (ofFs l).map toF = l := fun l => toFs_ofFs l
  unfold zipS
  rw [e, e]; rfl
theorem eachL_ofFs (op : F → F → F) {a b : List F} {n : Nat} (ha : a.length = n) (hb : b.length = n) (h1 : 1 ≤ n) (h9 : n ≤ 9) : eachL op (ofFs a) (ofFs b) = ofFs (List.zipWith op a b) := by
  unfold eachL
  rw [if_pos (wire2E_ok (by rw [ofFs_length]; omega) (by rw [ofFs_length]; omega) (by rw [ofFs_length, ofFs_length]; omega)), zipS_ofFs]
theorem oneL_ofFs {a : List F} {n : Nat} (x : Int) (ha : a.length = n) (h1 : 1 ≤ n) (h9 : n ≤ 9) : oneL (· * ·) (ofFs a) x = ofFs (a.map (· * toF x)) := by
  unfold oneL
  rw [if_pos (by unfold wireE wireB; rw [if_pos (by simp [ofFs_length]; omega)])]
  simp [ofFs, toF_ofF, Function.comp_def]
set_option maxRecDepth 100000 in
set_option maxHeartbeats 1000000 in
theorem eWire_3 (W0 w : World) (b g n t : Nat) (vi vd vw : Value) (vws vss : List Value) (ins ds : List Int) (WF : List (List F)) (s : Nat → List Int) (a c : Nat) (m : Int)
    (h : St W0 w b g n t vi vd vw vws vss ins ds (WF.map ofFs) (rowsN n s)) (ha : a < WF.length) (hc : c < WF.length) (hl : ∀ l ∈ WF, l.length = n) (hn : 1 ≤ n) (hn9 : n ≤ 9) (_hm : U64 m) :
    Calls Tryz.prog 107 #[.pointer (some ⟨b, 0, none⟩), .agg #[.int .i64 3, .int .i64 a, .int .i64 c, .int .u64 m]] w fun e w' => StRes W0 w b g n t vw vws vss (WF.map ofFs) e w' ins ds (ofFs (List.zipWith (· + ·) (wr WF a) (wr WF c))) (rowsN n s) := by
  have H := Lib.hid h
  have BB := Lib.hid ((Below.refl w.heap.size w).alloc (Nat.le_refl _) (.cells #[.int .i64 3, .int .i64 a, .int .i64 c, .int .u64 m] 133))
  obtain ⟨gw, cw, hvw, hgw1, hgw2⟩ := own_slice h.pl.wires.outer (by rw [List.length_map]; omega)
  rw [List.length_map] at hvw
  subst hvw
  have hwl : WF.length ≤ 17592186043904 := by have := h.pl.wires.len; rw [List.length_map] at this; omega
  obtain ⟨xa, hxa, hoa, _⟩ := h.wireAt ha
  have hca := h.pl.wires.cell hxa
  have KA := Lib.hid (hoa.is.below BB.out)
  have hla := hl _ (List.mem_of_getElem? (wr_get ha))
  obtain ⟨xc, hxc, hoc, _⟩ := h.wireAt hc
  have hcc := h.pl.wires.cell hxc
  have KC := Lib.hid (hoc.is.below BB.out)
  have hlc := hl _ (List.mem_of_getElem? (wr_get hc))
  have hc4 := h.box.cell (i := 4) rfl
  have hbl := h.box.lt
  have HRES := Lib.hid (show ∀ W1 W2 v, W1 = w.alloc (.cells #[.int .i64 3, .int .i64 a, .int .i64 c, .int .u64 m] 133) → Below (W1.drewN 1).heap.size (W1.drewN 1) W2 → OwnNums W2 (W1.drewN 1).heap.size v (eachL (· + ·) (ofFs (wr WF a)) (ofFs (wr WF c))) → StRes W0 w b g n t (.slice (some ⟨gw, 0, none⟩) WF.length cw) vws vss (WF.map ofFs) (.returned v) W2 ins ds (ofFs (List.zipWith (· + ·) (wr WF a) (wr WF c))) (rowsN n s) from fun W1 W2 v hW hb ho => by
    subst hW
    rw [eachL_ofFs _ hla hlc hn hn9] at ho
    have hb1 : Below w.heap.size w ((w.alloc (.cells #[.int .i64 3, .int .i64 a, .int .i64 c, .int .u64 m] 133)).drewN 1) := below_drewN BB.out 1
    exact h.made (below_trans hb1 hb hb1.size) ho hb1.size)
  suffices hgoal : ∀ Post : Ending → World → Prop, (∀ e w', StRes W0 w b g n t (.slice (some ⟨gw, 0, none⟩) WF.length cw) vws vss (WF.map ofFs) e w' ins ds (ofFs (List.zipWith (· + ·) (wr WF a) (wr WF c))) (rowsN n s) → Post e w') → Calls Tryz.prog 107 #[.pointer (some ⟨b, 0, none⟩), .agg #[.int .i64 3, .int .i64 a, .int .i64 c, .int .u64 m]] w Post from hgoal _ fun e w' h => h
  intro Post hp
  have HP := Lib.hid hp
  clear hp h hl hoa hxa hla hoc hxc hlc
  go_enter Tryz.func107, Tryz.ntmps107
  go_wp2_with fail
  obtain ⟨W1, hW1⟩ : ∃ W1, W1 = w.alloc (.cells #[.int .i64 3, .int .i64 a, .int .i64 c, .int .u64 m] 133) := ⟨_, rfl⟩
  rw [← hW1] at KA KC BB
  have HW1 := Lib.hid hW1
  have p0 : W1.cell? ⟨b, 4, none⟩ = some (.slice (some ⟨gw, 0, none⟩) WF.length cw) := (BB.out.cell (p := ⟨b, 4, none⟩) hbl).trans hc4
  have p1 : W1.cell? ⟨w.heap.size, 1, none⟩ = some (.int .i64 a) := by rw [hW1]; exact (Box.new w 133 [.int .i64 3, .int .i64 a, .int .i64 c, .int .u64 m]).cell (i := 1) rfl
  have p2 : W1.cell? ⟨w.heap.size, 2, none⟩ = some (.int .i64 c) := by rw [hW1]; exact (Box.new w 133 [.int .i64 3, .int .i64 a, .int .i64 c, .int .u64 m]).cell (i := 2) rfl
  have p3 : W1.cell? ⟨gw, a, none⟩ = some xa := (BB.out.cell (p := ⟨gw, a, none⟩) hgw2).trans hca
  have p4 : W1.cell? ⟨gw, c, none⟩ = some xc := (BB.out.cell (p := ⟨gw, c, none⟩) hgw2).trans hcc
  have hs1 : w.heap.size + 1 = W1.heap.size := by rw [hW1, size_alloc]
  clear hc4 hca hcc
  rw [← hW1]
  clear hW1
  go_region_held3 (fun w' => w'.cell? ⟨b, 4, none⟩ = some (.slice (some ⟨gw, 0, none⟩) WF.length cw) ∧ w'.cell? ⟨w.heap.size, 1, none⟩ = some (.int .i64 a) ∧ w'.cell? ⟨w.heap.size, 2, none⟩ = some (.int .i64 c) ∧ w'.cell? ⟨gw, a, none⟩ = some xa ∧ w'.cell? ⟨gw, c, none⟩ = some xc) (go_keep) (first | (go_at_call 121; refine (gAdd_any _ _ (ofFs (wr WF a)) (ofFs (wr WF c)) _ (KA.out.drewN 1) (KC.out.drewN 1)).mono ?_; rintro e W2 ⟨v, rfl, ho, hb2⟩; have q0 := (hb2.cell (p := ⟨b, 4, none⟩) (show b < W1.heap.size by omega)).trans p0; have q1 := (hb2.cell (p := ⟨w.heap.size, 1, none⟩) (show w.heap.size < W1.heap.size by omega)).trans p1; have q2 := (hb2.cell (p := ⟨w.heap.size, 2, none⟩) (show w.heap.size < W1.heap.size by omega)).trans p2; have q3 := (hb2.cell (p := ⟨gw, a, none⟩) (show gw < W1.heap.size by omega)).trans p3; have q4 := (hb2.cell (p := ⟨gw, c, none⟩) (show gw < W1.heap.size by omega)).trans p4; have HO := Lib.hid (HRES.out W1 W2 v HW1.out hb2 ho); clear ho hb2))
  go_wp2_with fail
  exact HP.out _ _ HO.out
set_option maxRecDepth 100000 in
set_option maxHeartbeats 1000000 in
theorem eWire_4 (W0 w : World) (b g n t : Nat) (vi vd vw : Value) (vws vss : List Value) (ins ds : List Int) (WF : List (List F)) (s : Nat → List Int) (a c : Nat) (m : Int)
    (h : St W0 w b g n t vi vd vw vws vss ins ds (WF.map ofFs) (rowsN n s)) (ha : a < WF.length) (hc : c < WF.length) (hl : ∀ l ∈ WF, l.length = n) (hn : 1 ≤ n) (hn9 : n ≤ 9) (_hm : U64 m) :
    Calls Tryz.prog 107 #[.pointer (some ⟨b, 0, none⟩), .agg #[.int .i64 4, .int .i64 a, .int .i64 c, .int .u64 m]] w fun e w' => StRes W0 w b g n t vw vws vss (WF.map ofFs) e w' ins ds (ofFs (List.zipWith (· - ·) (wr WF a) (wr WF c))) (rowsN n s) := by
  have H := Lib.hid h
  have BB := Lib.hid ((Below.refl w.heap.size w).alloc (Nat.le_refl _) (.cells #[.int .i64 4, .int .i64 a, .int .i64 c, .int .u64 m] 133))
  obtain ⟨gw, cw, hvw, hgw1, hgw2⟩ := own_slice h.pl.wires.outer (by rw [List.length_map]; omega)
  rw [List.length_map] at hvw
  subst hvw
  have hwl : WF.length ≤ 17592186043904 := by have := h.pl.wires.len; rw [List.length_map] at this; omega
  obtain ⟨xa, hxa, hoa, _⟩ := h.wireAt ha
  have hca := h.pl.wires.cell hxa
  have KA := Lib.hid (hoa.is.below BB.out)
  have hla := hl _ (List.mem_of_getElem? (wr_get ha))
  obtain ⟨xc, hxc, hoc, _⟩ := h.wireAt hc
  have hcc := h.pl.wires.cell hxc
  have KC := Lib.hid (hoc.is.below BB.out)
  have hlc := hl _ (List.mem_of_getElem? (wr_get hc))
  have hc4 := h.box.cell (i := 4) rfl
  have hbl := h.box.lt
  have HRES := Lib.hid (show ∀ W1 W2 v, W1 = w.alloc (.cells #[.int .i64 4, .int .i64 a, .int .i64 c, .int .u64 m] 133) → Below (W1.drewN 1).heap.size (W1.drewN 1) W2 → OwnNums W2 (W1.drewN 1).heap.size v (eachL (· - ·) (ofFs (wr WF a)) (ofFs (wr WF c))) → StRes W0 w b g n t (.slice (some ⟨gw, 0, none⟩) WF.length cw) vws vss (WF.map ofFs) (.returned v) W2 ins ds (ofFs (List.zipWith (· - ·) (wr WF a) (wr WF c))) (rowsN n s) from fun W1 W2 v hW hb ho => by
    subst hW
    rw [eachL_ofFs _ hla hlc hn hn9] at ho
    have hb1 : Below w.heap.size w ((w.alloc (.cells #[.int .i64 4, .int .i64 a, .int .i64 c, .int .u64 m] 133)).drewN 1) := below_drewN BB.out 1
    exact h.made (below_trans hb1 hb hb1.size) ho hb1.size)
  suffices hgoal : ∀ Post : Ending → World → Prop, (∀ e w', StRes W0 w b g n t (.slice (some ⟨gw, 0, none⟩) WF.length cw) vws vss (WF.map ofFs) e w' ins ds (ofFs (List.zipWith (· - ·) (wr WF a) (wr WF c))) (rowsN n s) → Post e w') → Calls Tryz.prog 107 #[.pointer (some ⟨b, 0, none⟩), .agg #[.int .i64 4, .int .i64 a, .int .i64 c, .int .u64 m]] w Post from hgoal _ fun e w' h => h
  intro Post hp
  have HP := Lib.hid hp
  clear hp h hl hoa hxa hla hoc hxc hlc
  go_enter Tryz.func107, Tryz.ntmps107
  go_wp2_with fail
  obtain ⟨W1, hW1⟩ : ∃ W1, W1 = w.alloc (.cells #[.int .i64 4, .int .i64 a, .int .i64 c, .int .u64 m] 133) := ⟨_, rfl⟩
  rw [← hW1] at KA KC BB
  have HW1 := Lib.hid hW1
  have p0 : W1.cell? ⟨b, 4, none⟩ = some (.slice (some ⟨gw, 0, none⟩) WF.length cw) := (BB.out.cell (p := ⟨b, 4, none⟩) hbl).trans hc4
  have p1 : W1.cell? ⟨w.heap.size, 1, none⟩ = some (.int .i64 a) := by rw [hW1]; exact (Box.new w 133 [.int .i64 4, .int .i64 a, .int .i64 c, .int .u64 m]).cell (i := 1) rfl
  have p2 : W1.cell? ⟨w.heap.size, 2, none⟩ = some (.int .i64 c) := by rw [hW1]; exact (Box.new w 133 [.int .i64 4, .int .i64 a, .int .i64 c, .int .u64 m]).cell (i := 2) rfl
  have p3 : W1.cell? ⟨gw, a, none⟩ = some xa := (BB.out.cell (p := ⟨gw, a, none⟩) hgw2).trans hca
  have p4 : W1.cell? ⟨gw, c, none⟩ = some xc := (BB.out.cell (p := ⟨gw, c, none⟩) hgw2).trans hcc
  have hs1 : w.heap.size + 1 = W1.heap.size := by rw [hW1, size_alloc]
  clear hc4 hca hcc
  rw [← hW1]
  clear hW1
  go_region_held3 (fun w' => w'.cell? ⟨b, 4, none⟩ = some (.slice (some ⟨gw, 0, none⟩) WF.length cw) ∧ w'.cell? ⟨w.heap.size, 1, none⟩ = some (.int .i64 a) ∧ w'.cell? ⟨w.heap.size, 2, none⟩ = some (.int .i64 c) ∧ w'.cell? ⟨gw, a, none⟩ = some xa ∧ w'.cell? ⟨gw, c, none⟩ = some xc) (go_keep) (first | (go_at_call 149; refine (gSub_any _ _ (ofFs (wr WF a)) (ofFs (wr WF c)) _ (KA.out.drewN 1) (KC.out.drewN 1)).mono ?_; rintro e W2 ⟨v, rfl, ho, hb2⟩; have q0 := (hb2.cell (p := ⟨b, 4, none⟩) (show b < W1.heap.size by omega)).trans p0; have q1 := (hb2.cell (p := ⟨w.heap.size, 1, none⟩) (show w.heap.size < W1.heap.size by omega)).trans p1; have q2 := (hb2.cell (p := ⟨w.heap.size, 2, none⟩) (show w.heap.size < W1.heap.size by omega)).trans p2; have q3 := (hb2.cell (p := ⟨gw, a, none⟩) (show gw < W1.heap.size by omega)).trans p3; have q4 := (hb2.cell (p := ⟨gw, c, none⟩) (show gw < W1.heap.size by omega)).trans p4; have HO := Lib.hid (HRES.out W1 W2 v HW1.out hb2 ho); clear ho hb2))
  go_wp2_with fail
  exact HP.out _ _ HO.out
set_option maxRecDepth 100000 in
set_option maxHeartbeats 1000000 in
theorem eWire_6 (W0 w : World) (b g n t : Nat) (vi vd vw : Value) (vws vss : List Value) (ins ds : List Int) (WF : List (List F)) (s : Nat → List Int) (a : Nat) (c m : Int)
    (h : St W0 w b g n t vi vd vw vws vss ins ds (WF.map ofFs) (rowsN n s)) (ha : a < WF.length) (hl : ∀ l ∈ WF, l.length = n) (hn : 1 ≤ n) (hn9 : n ≤ 9) (hm : U64 m) :
    Calls Tryz.prog 107 #[.pointer (some ⟨b, 0, none⟩), .agg #[.int .i64 6, .int .i64 a, .int .i64 c, .int .u64 m]] w fun e w' => StRes W0 w b g n t vw vws vss (WF.map ofFs) e w' ins ds (ofFs ((wr WF a).map (· * toF m))) (rowsN n s) := by
  have H := Lib.hid h
  have BB := Lib.hid ((Below.refl w.heap.size w).alloc (Nat.le_refl _) (.cells #[.int .i64 6, .int .i64 a, .int .i64 c, .int .u64 m] 133))
  obtain ⟨gw, cw, hvw, hgw1, hgw2⟩ := own_slice h.pl.wires.outer (by rw [List.length_map]; omega)
  rw [List.length_map] at hvw
  subst hvw
  have hwl : WF.length ≤ 17592186043904 := by have := h.pl.wires.len; rw [List.length_map] at this; omega
  obtain ⟨xa, hxa, hoa, _⟩ := h.wireAt ha
  have hca := h.pl.wires.cell hxa
  have KA := Lib.hid (hoa.is.below BB.out)
  have hla := hl _ (List.mem_of_getElem? (wr_get ha))
  have hc4 := h.box.cell (i := 4) rfl
  have hbl := h.box.lt
  have HRES := Lib.hid (show ∀ W1 W2 v, W1 = w.alloc (.cells #[.int .i64 6, .int .i64 a, .int .i64 c, .int .u64 m] 133) → Below (W1.drewN 1).heap.size (W1.drewN 1) W2 → OwnNums W2 (W1.drewN 1).heap.size v (oneL (· * ·) (ofFs (wr WF a)) m) → StRes W0 w b g n t (.slice (some ⟨gw, 0, none⟩) WF.length cw) vws vss (WF.map ofFs) (.returned v) W2 ins ds (ofFs ((wr WF a).map (· * toF m))) (rowsN n s) from fun W1 W2 v hW hb ho => by
    subst hW
    rw [oneL_ofFs m hla hn hn9] at ho
    have hb1 : Below w.heap.size w ((w.alloc (.cells #[.int .i64 6, .int .i64 a, .int .i64 c, .int .u64 m] 133)).drewN 1) := below_drewN BB.out 1
    exact h.made (below_trans hb1 hb hb1.size) ho hb1.size)
  suffices hgoal : ∀ Post : Ending → World → Prop, (∀ e w', StRes W0 w b g n t (.slice (some ⟨gw, 0, none⟩) WF.length cw) vws vss (WF.map ofFs) e w' ins ds (ofFs ((wr WF a).map (· * toF m))) (rowsN n s) → Post e w') → Calls Tryz.prog 107 #[.pointer (some ⟨b, 0, none⟩), .agg #[.int .i64 6, .int .i64 a, .int .i64 c, .int .u64 m]] w Post from hgoal _ fun e w' h => h
  intro Post hp
  have HP := Lib.hid hp
  clear hp h hl hoa hxa hla
  go_enter Tryz.func107, Tryz.ntmps107
  go_wp2_with fail
  obtain ⟨W1, hW1⟩ : ∃ W1, W1 = w.alloc (.cells #[.int .i64 6, .int .i64 a, .int .i64 c, .int .u64 m] 133) := ⟨_, rfl⟩
  rw [← hW1] at KA BB
  have HW1 := Lib.hid hW1
  have p0 : W1.cell? ⟨b, 4, none⟩ = some (.slice (some ⟨gw, 0, none⟩) WF.length cw) := (BB.out.cell (p := ⟨b, 4, none⟩) hbl).trans hc4
  have p1 : W1.cell? ⟨w.heap.size, 1, none⟩ = some (.int .i64 a) := by rw [hW1]; exact (Box.new w 133 [.int .i64 6, .int .i64 a, .int .i64 c, .int .u64 m]).cell (i := 1) rfl
  have p2 : W1.cell? ⟨w.heap.size, 3, none⟩ = some (.int .u64 m) := by rw [hW1]; exact (Box.new w 133 [.int .i64 6, .int .i64 a, .int .i64 c, .int .u64 m]).cell (i := 3) rfl
  have p3 : W1.cell? ⟨gw, a, none⟩ = some xa := (BB.out.cell (p := ⟨gw, a, none⟩) hgw2).trans hca
  have hm0 := hm.1
  have hs1 : w.heap.size + 1 = W1.heap.size := by rw [hW1, size_alloc]
  clear hc4 hca
  rw [← hW1]
  clear hW1
  go_region_held3 (fun w' => w'.cell? ⟨b, 4, none⟩ = some (.slice (some ⟨gw, 0, none⟩) WF.length cw) ∧ w'.cell? ⟨w.heap.size, 1, none⟩ = some (.int .i64 a) ∧ w'.cell? ⟨w.heap.size, 3, none⟩ = some (.int .u64 m) ∧ w'.cell? ⟨gw, a, none⟩ = some xa) (go_keep) (first | (go_at_call 123; refine (gScale_any _ (ofFs (wr WF a)) m _ (KA.out.drewN 1) hm).mono ?_; rintro e W2 ⟨v, rfl, ho, hb2⟩; have q0 := (hb2.cell (p := ⟨b, 4, none⟩) (show b < W1.heap.size by omega)).trans p0; have q1 := (hb2.cell (p := ⟨w.heap.size, 1, none⟩) (show w.heap.size < W1.heap.size by omega)).trans p1; have q2 := (hb2.cell (p := ⟨w.heap.size, 3, none⟩) (show w.heap.size < W1.heap.size by omega)).trans p2; have q3 := (hb2.cell (p := ⟨gw, a, none⟩) (show gw < W1.heap.size by omega)).trans p3; have HO := Lib.hid (HRES.out W1 W2 v HW1.out hb2 ho); clear ho hb2))
  go_wp2_with fail
  exact HP.out _ _ HO.out
set_option maxRecDepth 100000 in
set_option maxHeartbeats 1000000 in
theorem eWire_5 (W0 w : World) (b g n t : Nat) (vi vd vw : Value) (vws vss : List Value) (ins ds : List Int) (WF : List (List F)) (s : Nat → List Int) (a c : Nat) (m : Int)
    (h : St W0 w b g n t vi vd vw vws vss ins ds (WF.map ofFs) (rowsN n s)) (ha : a < WF.length) (hc : c < WF.length) (hl : ∀ l ∈ WF, l.length = n) (ht : t ≤ 4) (hn : 2 * t + 1 ≤ n) (hn9 : n ≤ 9) (hd : n * t ≤ ds.length) (hs : ∀ q, q < n → (s q).length ≤ 1000) :
    Calls Tryz.prog 107 #[.pointer (some ⟨b, 0, none⟩), .agg #[.int .i64 5, .int .i64 a, .int .i64 c, .int .u64 m]] w fun e w' => StRes W0 w b g n t vw vws vss (WF.map ofFs) e w' ins (ds.drop (n * t)) (ofFs (mulOut n t (wr WF a) (wr WF c) (toFs (ds.take (n * t))))) (rowsN n fun q => s q ++ ofFs ((gotM n t (wr WF a) (wr WF c) (toFs (ds.take (n * t)))).getD q [])) := by
  have BB := Lib.hid ((Below.refl w.heap.size w).alloc (Nat.le_refl _) (.cells #[.int .i64 5, .int .i64 a, .int .i64 c, .int .u64 m] 133))
  obtain ⟨gw, cw, hvw, hgw1, hgw2⟩ := own_slice h.pl.wires.outer (by rw [List.length_map]; omega)
  rw [List.length_map] at hvw
  subst hvw
  have hwl : WF.length ≤ 17592186043904 := by have := h.pl.wires.len; rw [List.length_map] at this; omega
  obtain ⟨xa, hxa, hoa, hfa⟩ := h.wireAt ha
  have hca := h.pl.wires.cell hxa
  have hla := hl _ (List.mem_of_getElem? (wr_get ha))
  obtain ⟨xc, hxc, hoc, hfc⟩ := h.wireAt hc
  have hcc := h.pl.wires.cell hxc
  have hlc := hl _ (List.mem_of_getElem? (wr_get hc))
  have hc4 := h.box.cell (i := 4) rfl
  have hbl := h.box.lt
  obtain ⟨R, hR⟩ : ∃ R, R = ofFs (mulOut n t (wr WF a) (wr WF c) (toFs (ds.take (n * t)))) := ⟨_, rfl⟩
  obtain ⟨s', hs'⟩ : ∃ s' : Nat → List Int, s' = fun q => s q ++ ofFs ((gotM n t (wr WF a) (wr WF c) (toFs (ds.take (n * t)))).getD q []) := ⟨_, rfl⟩
  rw [← hR, ← hs']
  have hb1 : Below w.heap.size w ((w.alloc (.cells #[.int .i64 5, .int .i64 a, .int .i64 c, .int .u64 m] 133)).drewN 1) := below_drewN BB.out 1
  have C := Lib.hid (eMul_ok W0 _ b g n t vi vd (.slice (some ⟨gw, 0, none⟩) WF.length cw) xa xc vws vss _ _ ins ds _ s (h.below hb1) (hoa.below hb1) (hoc.below hb1) hfa hfc (by rw [ofFs_length]; exact hla) (by rw [ofFs_length]; exact hlc) ht hn hn9 hd hs)
  rw [toFs_ofFs, toFs_ofFs, ← hR, ← hs'] at C
  have HRES := Lib.hid (show ∀ W1 W2 e, W1 = w.alloc (.cells #[.int .i64 5, .int .i64 a, .int .i64 c, .int .u64 m] 133) → StRes W0 (W1.drewN 1) b g n t (.slice (some ⟨gw, 0, none⟩) WF.length cw) vws vss (WF.map ofFs) e W2 ins (ds.drop (n * t)) R (rowsN n s') →
      (∃ v, e = .returned v ∧ StRes W0 w b g n t (.slice (some ⟨gw, 0, none⟩) WF.length cw) vws vss (WF.map ofFs) (.returned v) W2 ins (ds.drop (n * t)) R (rowsN n s')) ∧ W2.cell? ⟨b, 4, none⟩ = some (.slice (some ⟨gw, 0, none⟩) WF.length cw) ∧ W2.cell? ⟨w.heap.size, 1, none⟩ = some (.int .i64 a) ∧ W2.cell? ⟨w.heap.size, 2, none⟩ = some (.int .i64 c) ∧ W2.cell? ⟨gw, a, none⟩ = some xa ∧ W2.cell? ⟨gw, c, none⟩ = some xc from fun W1 W2 e hW hr => by
    subst hW
    have hr' := StRes.after hb1 hr
    obtain ⟨v, vi', vd', vss', rfl, _, _, _, hst, hk⟩ := hr
    have hq := hk.box w.heap.size 133 _ (fun e => by omega) (by decide) (by decide) ((Box.new w 133 [.int .i64 5, .int .i64 a, .int .i64 c, .int .u64 m]).drewN 1)
    exact ⟨⟨v, rfl, hr'⟩, hst.box.cell (i := 4) rfl, hq.cell (i := 1) rfl, hq.cell (i := 2) rfl, hst.pl.wires.cell hxa, hst.pl.wires.cell hxc⟩)
  suffices hgoal : ∀ Post : Ending → World → Prop, (∀ e w', StRes W0 w b g n t (.slice (some ⟨gw, 0, none⟩) WF.length cw) vws vss (WF.map ofFs) e w' ins (ds.drop (n * t)) R (rowsN n s') → Post e w') → Calls Tryz.prog 107 #[.pointer (some ⟨b, 0, none⟩), .agg #[.int .i64 5, .int .i64 a, .int .i64 c, .int .u64 m]] w Post from hgoal _ fun e w' h => h
  intro Post hp
  have HP := Lib.hid hp
  clear hp h hl hoa hxa hla hoc hxc hlc hR hs' hfa hfc hd hs hb1
  go_enter Tryz.func107, Tryz.ntmps107
  go_wp2_with fail
  obtain ⟨W1, hW1⟩ : ∃ W1, W1 = w.alloc (.cells #[.int .i64 5, .int .i64 a, .int .i64 c, .int .u64 m] 133) := ⟨_, rfl⟩
  rw [← hW1] at C BB
  have HW1 := Lib.hid hW1
  have p0 : W1.cell? ⟨b, 4, none⟩ = some (.slice (some ⟨gw, 0, none⟩) WF.length cw) := (BB.out.cell (p := ⟨b, 4, none⟩) hbl).trans hc4
  have p1 : W1.cell? ⟨w.heap.size, 1, none⟩ = some (.int .i64 a) := by rw [hW1]; exact (Box.new w 133 [.int .i64 5, .int .i64 a, .int .i64 c, .int .u64 m]).cell (i := 1) rfl
  have p2 : W1.cell? ⟨w.heap.size, 2, none⟩ = some (.int .i64 c) := by rw [hW1]; exact (Box.new w 133 [.int .i64 5, .int .i64 a, .int .i64 c, .int .u64 m]).cell (i := 2) rfl
  have p3 : W1.cell? ⟨gw, a, none⟩ = some xa := (BB.out.cell (p := ⟨gw, a, none⟩) hgw2).trans hca
  have p4 : W1.cell? ⟨gw, c, none⟩ = some xc := (BB.out.cell (p := ⟨gw, c, none⟩) hgw2).trans hcc
  have hs1 : w.heap.size + 1 = W1.heap.size := by rw [hW1, size_alloc]
  clear hc4 hca hcc
  rw [← hW1]
  clear hW1
  go_region_held3 (fun w' => w'.cell? ⟨b, 4, none⟩ = some (.slice (some ⟨gw, 0, none⟩) WF.length cw) ∧ w'.cell? ⟨w.heap.size, 1, none⟩ = some (.int .i64 a) ∧ w'.cell? ⟨w.heap.size, 2, none⟩ = some (.int .i64 c) ∧ w'.cell? ⟨gw, a, none⟩ = some xa ∧ w'.cell? ⟨gw, c, none⟩ = some xc) (go_keep) (first | (go_at_call 150; refine C.out.mono ?_; intro e W2 hr; obtain ⟨⟨v, he, hr2⟩, q0, q1, q2, q3, q4⟩ := HRES.out W1 W2 e HW1.out hr; subst he; have HO := Lib.hid hr2; clear hr hr2))
  go_wp2_with fail
  exact HP.out _ _ HO.out
set_option maxRecDepth 100000 in
set_option maxHeartbeats 1000000 in
theorem eWire_1 (W0 w : World) (b g n t : Nat) (vi vd vw : Value) (vws vss : List Value) (x : Int) (ins ds : List Int) (ws : List (List Int)) (s : Nat → List Int) (a c m : Int)
    (h : St W0 w b g n t vi vd vw vws vss (x :: ins) ds ws (rowsN n s)) (ht : t ≤ 4) (hn : t + 1 ≤ n) (hn9 : n ≤ 9) (hd : t ≤ ds.length) (hs : ∀ q, q < n → (s q).length ≤ 1000) :
    Calls Tryz.prog 107 #[.pointer (some ⟨b, 0, none⟩), .agg #[.int .i64 1, .int .i64 a, .int .i64 c, .int .u64 m]] w fun e w' => StRes W0 w b g n t vw vws vss ws e w' ins (ds.drop t) (ofFs (deal n (toFs (x :: ds.take t)))) (rowsN n fun q => s q ++ [ofF (co (deal n (toFs (x :: ds.take t))) q)]) := by
  have hb1 := (Below.refl w.heap.size w).alloc (Nat.le_refl _) (.cells #[.int .i64 1, .int .i64 a, .int .i64 c, .int .u64 m] 133)
  have C := Lib.hid (eInput_ok W0 _ b g n t vi vd vw vws vss x ins ds ws s (h.below hb1) ht hn hn9 hd hs)
  have HRES := Lib.hid (show ∀ e W2, StRes W0 (w.alloc (.cells #[.int .i64 1, .int .i64 a, .int .i64 c, .int .u64 m] 133)) b g n t vw vws vss ws e W2 ins (ds.drop t) (ofFs (deal n (toFs (x :: ds.take t)))) (rowsN n fun q => s q ++ [ofF (co (deal n (toFs (x :: ds.take t))) q)]) → StRes W0 w b g n t vw vws vss ws e W2 ins (ds.drop t) (ofFs (deal n (toFs (x :: ds.take t)))) (rowsN n fun q => s q ++ [ofF (co (deal n (toFs (x :: ds.take t))) q)]) from fun e W2 hr => hr.after hb1)
  suffices hgoal : ∀ Post : Ending → World → Prop, (∀ e w', StRes W0 w b g n t vw vws vss ws e w' ins (ds.drop t) (ofFs (deal n (toFs (x :: ds.take t)))) (rowsN n fun q => s q ++ [ofF (co (deal n (toFs (x :: ds.take t))) q)]) → Post e w') → Calls Tryz.prog 107 #[.pointer (some ⟨b, 0, none⟩), .agg #[.int .i64 1, .int .i64 a, .int .i64 c, .int .u64 m]] w Post from hgoal _ fun e w' h => h
  intro Post hp
  have HP := Lib.hid hp
  clear hp h hd hs hb1
  go_enter Tryz.func107, Tryz.ntmps107
  go_wp2_with (go_at_call 147; refine C.out.mono ?_; intro e W2 hr; obtain ⟨v, vi', vd', vss', he, hr3⟩ := HRES.out e W2 hr; subst he; have HO := Lib.hid hr3; clear hr hr3; try dsimp only)
  exact HP.out _ _ ⟨v, vi', vd', vss', rfl, HO.out⟩
theorem const_next (k : Nat) (x : F) : ofFs (List.replicate (k + 1) x) = ofFs (List.replicate k x) ++ [ofF x] := by simp [ofFs, List.replicate_succ']
set_option maxRecDepth 100000 in
set_option maxHeartbeats 1000000 in
theorem eWire_2 (W0 w : World) (b g n t : Nat) (vi vd vw : Value) (vws vss : List Value) (ins ds : List Int) (ws : List (List Int)) (s : Nat → List Int) (a c m : Int)
    (h : St W0 w b g n t vi vd vw vws vss ins ds ws (rowsN n s)) (hn9 : n ≤ 9) (hm : U64 m) :
    Calls Tryz.prog 107 #[.pointer (some ⟨b, 0, none⟩), .agg #[.int .i64 2, .int .i64 a, .int .i64 c, .int .u64 m]] w fun e w' => StRes W0 w b g n t vw vws vss ws e w' ins ds (ofFs (List.replicate n (toF m))) (rowsN n s) := by
  have BB := Lib.hid ((Below.refl w.heap.size w).alloc (Nat.le_refl _) (.cells #[.int .i64 2, .int .i64 a, .int .i64 c, .int .u64 m] 133))
  have BX := Lib.hid (Box.new w 133 [.int .i64 2, .int .i64 a, .int .i64 c, .int .u64 m])
  have hc0 := h.box.cell (i := 0) rfl
  have hbl := h.box.lt
  have hm0 := hm.1
  have HRES := Lib.hid (fun W2 v hb ho => h.made (w' := W2) (v := v) (l := ofFs (List.replicate n (toF m))) (B := w.heap.size + 1) hb ho (Nat.le_succ _))
  suffices hgoal : ∀ Post : Ending → World → Prop, (∀ e w', StRes W0 w b g n t vw vws vss ws e w' ins ds (ofFs (List.replicate n (toF m))) (rowsN n s) → Post e w') → Calls Tryz.prog 107 #[.pointer (some ⟨b, 0, none⟩), .agg #[.int .i64 2, .int .i64 a, .int .i64 c, .int .u64 m]] w Post from hgoal _ fun e w' h => h
  intro Post hp
  have HP := Lib.hid hp
  clear hp h
  go_enter Tryz.func107, Tryz.ntmps107
  go_wp2_with fail
  have B0 := Lib.hid BB.out
  go_loopw [5, 18] (fun v x wr => ∃ k : Nat, k ≤ n ∧ x = .int .i64 k ∧ OwnNums wr (w.heap.size + 1) v (ofFs (List.replicate k (toF m))) ∧ Below w.heap.size w wr ∧ Box wr w.heap.size 133 [.int .i64 2, .int .i64 a, .int .i64 c, .int .u64 m]) (fun _ x _ => n - (intOf x).toNat)
  case atStart => exact ⟨0, Nat.zero_le _, rfl, OwnNums.nil _ _, BB.out, BX.out⟩
  case round =>
    obtain ⟨k, hk, rfl, hown, hbel, hbox⟩ := hrel
    have KO := Lib.hid hown
    have BE := Lib.hid hbel
    have BX2 := Lib.hid hbox
    have hsz := hbel.size
    clear hown hbel BB BX B0
    by_cases hlt : k < n
    · have hdj : decide ((k : Int) < (n : Int)) = true := by simp; omega
      have hc3 := hbox.cell (i := 3) rfl
      have hbx := hbox.lt
      clear hbox
      go_wp2_with (first | (go_at_call 148; refine (fNorm_any _ _ hm0).mono ?_; rintro e W2 ⟨rfl, rfl⟩; try dsimp only) | (at_builtin; go_loud (refine wpList_push rfl _ _ (by rfl) (w.heap.size + 1) _ _ (ofF (toF m)) wr.heap.size 1 (by rfl) (KO.out.alloc _) (by rfl) (new_cell _ _ _) (U64.of_ofF _) (by rw [ofFs_length]; simp; omega) (by rw [size_alloc]; omega) ?_)))
      intro v5 w5 ho5 hb5
      rw [← const_next] at ho5
      have HO5 := Lib.hid ho5
      have hb6 : Below (w.heap.size + 1) wr w5 := ((Below.refl _ wr).alloc (by omega) _).trans hb5
      have BX5 := Lib.hid (BX2.out.under hb6 (by omega))
      have BE5 := Lib.hid (BE.out.trans (hb6.mono (by omega)))
      clear ho5 hb5 hb6 hc3
      go_wp2_with fail
      exact ⟨⟨k + 1, by omega, by go_num, HO5.out, BE5.out, BX5.out⟩, by simp [intOf] <;> omega⟩
    · obtain rfl : n = k := by omega
      have hdj : decide ((n : Int) < (n : Int)) = false := by simp
      go_wp2_with fail
      exact HP.out _ _ (HRES.out _ _ BE.out KO.out)
theorem toFs_take (l : List Int) (k : Nat) : toFs (l.take k) = (toFs l).take k := by simp [toFs, List.map_take]
theorem rowsN_congr {n : Nat} {s s' : Nat → List Int} (h : ∀ q, q < n → s q = s' q) : rowsN n s = rowsN n s' := List.map_congr_left fun q hq => h q (List.mem_range.1 hq)
structure WireAsk (n t : Nat) (G : Gt) (WF : List (List F)) (ins ds : List Int) (s : Nat → List Int) : Prop where
  right : gRight G WF.length = true
  ok : GateOk G
  len : ∀ l ∈ WF, l.length = n
  ht : t ≤ 4
  hn : 2 * t + 1 ≤ n
  hn9 : n ≤ 9
  hk : G.kind = 1 → ins ≠ []
  hd : gdraw n t G ≤ ds.length
  hs : ∀ q, q < n → (s q).length ≤ 1000
theorem eWire_any (W0 w : World) (b g n t : Nat) (vi vd vw : Value) (vws vss : List Value) (ins ds : List Int) (WF : List (List F)) (s : Nat → List Int) (G : Gt)
    (h : St W0 w b g n t vi vd vw vws vss ins ds (WF.map ofFs) (rowsN n s)) (A : WireAsk n t G WF ins ds s) :
    Calls Tryz.prog 107 #[.pointer (some ⟨b, 0, none⟩), gV G] w fun e w' => StRes W0 w b g n t vw vws vss (WF.map ofFs) e w' (if G.kind = 1 then ins.drop 1 else ins) (ds.drop (gdraw n t G)) (ofFs (ewire n t WF (co (toFs ins) 0) (toFs ds) G)) (rowsN n fun q => s q ++ ofFs (eseen n t WF (co (toFs ins) 0) (toFs ds) G q)) := by
  obtain ⟨k, a, c, m⟩ := G
  have hr := A.right
  have hm := A.ok.2.2.2
  have hd := A.hd
  unfold gV ewire eseen
  unfold gdraw at hd ⊢
  unfold gRight at hr
  dsimp only at *
  have hn1 : 1 ≤ n := by have := A.hn; omega
  have hid : rowsN n (fun q => s q ++ ofFs []) = rowsN n s := rowsN_congr fun q _ => by simp [ofFs]
  have ahead : ∀ {z : Int}, aheadB z WF.length = true → ∃ y : Nat, z = (y : Int) ∧ z.toNat = y ∧ y < WF.length := fun {z} h => by
    simp [aheadB] at h
    exact ⟨z.toNat, by omega, rfl, by omega⟩
  by_cases h1 : k = 1
  · subst h1
    simp only [reduceIte]
    rw [if_pos rfl] at hd
    match ins, h, A.hk rfl with
    | x :: ins, h, _ =>
      have e : co (toFs (x :: ins)) 0 = toF x := co_cons_zero _ _
      have e2 : toFs (x :: ds.take t) = toF x :: (toFs ds).take t := by rw [← toFs_take]; rfl
      have C := eWire_1 W0 w b g n t vi vd vw vws vss x ins ds _ s a c m h A.ht (by have := A.hn; omega) A.hn9 hd A.hs
      rw [e2] at C
      rw [e]
      exact C
  simp only [if_neg h1] at hr hd ⊢
  by_cases h2 : k = 2
  · subst h2
    have C := eWire_2 W0 w b g n t vi vd vw vws vss ins ds _ s a c m h A.hn9 hm
    simp +decide only [reduceIte]
    rw [hid]
    exact C
  simp only [if_neg h2] at hr ⊢
  by_cases h3 : k = 3
  · subst h3
    rw [if_pos (.inl rfl)] at hr
    simp only [Bool.and_eq_true] at hr
    obtain ⟨a', ha, ha2, ha3⟩ := ahead hr.1.1
    obtain ⟨c', hc, hc2, hc3⟩ := ahead hr.1.2
    have C := eWire_3 W0 w b g n t vi vd vw vws vss ins ds WF s a' c' m h ha3 hc3 A.len hn1 A.hn9 hm
    simp +decide only [reduceIte]
    rw [ha2, hc2, ha, hc, hid]
    exact C
  by_cases h4 : k = 4
  · subst h4
    rw [if_pos (.inr (.inl rfl))] at hr
    simp only [Bool.and_eq_true] at hr
    obtain ⟨a', ha, ha2, ha3⟩ := ahead hr.1.1
    obtain ⟨c', hc, hc2, hc3⟩ := ahead hr.1.2
    have C := eWire_4 W0 w b g n t vi vd vw vws vss ins ds WF s a' c' m h ha3 hc3 A.len hn1 A.hn9 hm
    simp +decide only [reduceIte]
    rw [ha2, hc2, ha, hc, hid]
    exact C
  by_cases h5 : k = 5
  · subst h5
    rw [if_pos (.inr (.inr rfl))] at hr
    simp only [Bool.and_eq_true] at hr
    obtain ⟨a', ha, ha2, ha3⟩ := ahead hr.1.1
    obtain ⟨c', hc, hc2, hc3⟩ := ahead hr.1.2
    rw [if_pos rfl] at hd
    have C := eWire_5 W0 w b g n t vi vd vw vws vss ins ds WF s a' c' m h ha3 hc3 A.len A.ht A.hn A.hn9 hd A.hs
    rw [toFs_take] at C
    rw [ha2, hc2, ha, hc]
    exact C
  rw [if_neg (by omega)] at hr
  by_cases h6 : k = 6
  · subst h6
    rw [if_pos rfl] at hr
    simp only [Bool.and_eq_true] at hr
    obtain ⟨a', ha, ha2, ha3⟩ := ahead hr.1
    have C := eWire_6 W0 w b g n t vi vd vw vws vss ins ds WF s a' c m h ha3 A.len hn1 A.hn9 hm
    rw [ha2, ha]
    simp only [if_neg h3, if_neg h4, if_neg h5]
    rw [hid]
    exact C
  · rw [if_neg h6] at hr; cases hr
theorem Keeps.row {b : Nat} {w w' : World} {s s' : List Value} (hk : Keeps b w w' s s') {base : Nat} {e : TypeId} {size n : Nat} {v : Value} {xs : List Value} (h : w.ownsRow base e size v n xs) (h1 : e ≠ 67) (h2 : e ≠ 64) (hb : b < base) : w'.ownsRow base e size v n xs := by
  refine ⟨h.1, ?_⟩
  rcases h.2 with hn | ⟨g, cap, cur, rfl, hbg, hgg, rest⟩
  · exact .inl hn
  · have hx : Box w' g e cur.toList := hk.box g e cur.toList (by omega) h1 h2 (by unfold Box; simpa using hgg)
    refine .inr ⟨g, cap, cur, rfl, hbg, ?_, rest⟩
    unfold Box at hx
    simpa using hx
theorem shL_open {n t : Nat} {L : List F} {x : F} (h : Shared n t L x) (ht : t ≤ 4) (hn : t + 1 ≤ n) (hn9 : n ≤ 9) : ∃ Q, Interp (ptsF (shL (ofFs L))) Q ∧ checkE t (shL (ofFs L)) = 0 ∧ openX t Q = ofF x ∧ openE t Q = 0 := by
  obtain ⟨Q, h1, h2, h3⟩ := open_shared h hn
  refine ⟨Q, ?_, shL_ok ht (by rw [ofFs_length, h.len]; exact hn) (by rw [ofFs_length, h.len]; exact hn9), ?_, ?_⟩
  · rw [shL_pts, ofFs_length, h.len, toFs_ofFs]; exact h1
  · unfold openX; rw [if_neg (by omega), h3]
  · unfold openE; rw [if_neg (by omega)]
def OutRes (W0 w : World) (b g n t : Nat) (vi vd vw : Value) (vws vss : List Value) (ws : List (List Int)) (e : Ending) (w' : World) (ins ds : List Int) (z : Int) (seen : List (List Int)) : Prop :=
  ∃ vss', e = .returned (.int .u64 z) ∧ St W0 w' b g n t vi vd vw vws vss' ins ds ws seen ∧ Keeps b w w' vss vss'
set_option maxRecDepth 100000 in
set_option maxHeartbeats 1000000 in
theorem eOut_ok (W0 w : World) (b g n t : Nat) (vi vd vw vx : Value) (vws vss : List Value) (ins ds : List Int) (ws : List (List Int)) (s : Nat → List Int) (L : List F) (x : F)
    (h : St W0 w b g n t vi vd vw vws vss ins ds ws (rowsN n s)) (hx : OwnNums w W0.heap.size vx (ofFs L)) (hfx : FarAll vx vss) (hS : Shared n t L x) (ht : t ≤ 4) (hn : t + 1 ≤ n) (hn9 : n ≤ 9) (hs : ∀ q, q < n → (s q).length ≤ 1000) :
    Calls Tryz.prog 108 #[.pointer (some ⟨b, 0, none⟩), vx] w fun e w' => OutRes W0 w b g n t vi vd vw vws vss ws e w' ins ds (ofF x) (rowsN n fun q => s q ++ ofFs L) := by
  have H := Lib.hid h
  have HS := Lib.hid hs
  have HSH := Lib.hid hS
  have HLL := Lib.hid (show L.length = n from hS.len)
  have HLEN := Lib.hid (show (ofFs L).length = n by rw [ofFs_length, hS.len])
  obtain ⟨s', hs'⟩ : ∃ s' : Nat → List Int, s' = fun q => s q ++ ofFs L := ⟨_, rfl⟩
  rw [← hs']
  have HSE := Lib.hid hs'
  suffices hgoal : ∀ Post : Ending → World → Prop, (∀ e w', OutRes W0 w b g n t vi vd vw vws vss ws e w' ins ds (ofF x) (rowsN n s') → Post e w') → Calls Tryz.prog 108 #[.pointer (some ⟨b, 0, none⟩), vx] w Post from hgoal _ fun e w' h => h
  intro Post hpo
  have HPO := Lib.hid hpo
  obtain ⟨gl, cl, hvl, hgl1, hgl2⟩ := own_slice hx.1 (by rw [HLEN.out]; omega)
  rw [HLEN.out] at hvl
  subst hvl
  have KX := Lib.hid hx
  have FX := Lib.hid hfx
  have hB0 : W0.heap.size ≤ w.heap.size := h.pl.bel.size
  have hbw : b < w.heap.size := h.box.lt
  clear h hs hS hs' hpo hx hfx
  go_enter Tryz.func108, Tryz.ntmps108
  go_wp2_with fail
  go_loopw [5, 13] (fun v i wr => ∃ k : Nat, k ≤ n ∧ i = .int .i64 k ∧ OwnShares wr w.heap.size v (shL ((ofFs L).take k)) ∧ Below w.heap.size w wr) (fun _ i _ => n - (intOf i).toNat)
  case atStart => exact ⟨0, Nat.zero_le _, rfl, OwnShares.nil _ _, Below.refl _ _⟩
  case round =>
    obtain ⟨k, hk, rfl, hown, hbel⟩ := hrel
    have KO := Lib.hid hown
    have BEL := Lib.hid hbel
    have hsz := hbel.size
    clear hown hbel
    by_cases hlt : k < n
    · have hdk : decide ((k : Int) < (n : Int)) = true := by simp; omega
      obtain ⟨z, hz⟩ : ∃ z, (ofFs L)[k]? = some z := ⟨_, List.getElem?_eq_getElem (by rw [HLEN.out]; exact hlt)⟩
      have hcz := (KX.out.below BEL.out).cell hz
      have huz : U64 z := KX.out.2.2 z (List.mem_of_getElem? hz)
      have HT := Lib.hid (shL_next hz)
      have HSL := Lib.hid (show (shL ((ofFs L).take k)).length = k by rw [shL_length, List.length_take, HLEN.out]; omega)
      clear hz
      go_wp2_with (at_builtin; go_loud (refine wpList_push_share rfl _ _ rfl w.heap.size _ _ ((k : Int) + 1) z wr.heap.size 1 rfl (KO.out.alloc _) rfl (pair_cell0 _ _ _ _) (pair_cell1 _ _ _ _) (by unfold I64; omega) huz (by rw [HSL.out]; omega) (by rw [size_alloc]; omega) ?_))
      intro v' w5 hown' hbel'
      rw [← HT.out] at hown'
      have K5 := Lib.hid hown'
      have B5 := Lib.hid ((BEL.out.alloc hsz (.cells #[.int .i64 ((k : Int) + 1), .int .u64 z] 71)).trans hbel')
      clear hown' hbel'
      go_wp2_with fail
      exact ⟨⟨k + 1, by omega, by go_num, K5.out, B5.out⟩, by simp [intOf] <;> omega⟩
    · obtain rfl : n = k := by omega
      have hdk : decide ((n : Int) < (n : Int)) = false := by simp
      have HT := Lib.hid (show (ofFs L).take n = ofFs L from List.take_of_length_le (by rw [HLEN.out]; exact Nat.le_refl _))
      rw [HT.out] at KO
      have ST2 := Lib.hid (H.out.below BEL.out)
      have KP2 := Lib.hid (Keeps.of_below (b := b) (s := vss) BEL.out)
      have KX2 := Lib.hid (KX.out.below BEL.out)
      have hc5 := ST2.out.box.cell (i := 5) rfl
      clear hdk HT H BEL KX
      go_wp2_with fail
      clear hc5
      have KSH := Lib.hid KO.out
      have FX2 := Lib.hid FX.out
      clear KO hsz
      go_loopw [31] (fun x wr => ∃ (j : Nat) (vss' : List Value), j ≤ n ∧ x = .int .i64 j ∧ St W0 wr b g n t vi vd vw vws vss' ins ds ws (rowsN n (mixR s' s j)) ∧ OwnNums wr W0.heap.size (.slice (some ⟨gl, 0, none⟩) n cl) (ofFs L) ∧ FarAll (.slice (some ⟨gl, 0, none⟩) n cl) vss' ∧ OwnShares wr w.heap.size u5 (shL (ofFs L)) ∧ Keeps b w wr vss vss') (fun x _ => n - (intOf x).toNat)
      case atStart => exact ⟨0, vss, Nat.zero_le _, rfl, by rw [mixR_zero]; exact ST2.out, KX2.out, FX2.out, KSH.out, KP2.out⟩
      case round =>
        obtain ⟨j, vss', hj, rfl, hst, hown, hfar, hsh, hkp⟩ := hrel
        clear ST2 KX2 FX2 KSH KP2
        have ST3 := Lib.hid hst
        have KO := Lib.hid hown
        have FA := Lib.hid hfar
        have KP := Lib.hid hkp
        have KG := Lib.hid hsh
        clear hst hown hfar hkp hsh
        by_cases hlt : j < n
        · have hdj : decide ((j : Int) < (n : Int)) = true := by simp; omega
          have hc5 := ST3.out.box.cell (i := 5) rfl
          obtain ⟨y, hy⟩ : ∃ y, vss'[j]? = some y := ⟨_, List.getElem?_eq_getElem (by rw [ST3.out.pl.seen.vlen, rowsN_length]; exact hlt)⟩
          have hcg := ST3.out.pl.seen.cell hy
          have hrj : (rowsN n (mixR s' s j))[j]? = some (s j) := by rw [rowsN_get _ hlt, mixR_at]
          have hrow := ST3.out.pl.seen.row j y _ hy hrj
          have HY := Lib.hid hy
          have HRJ := Lib.hid hrj
          have HROW := Lib.hid hrow
          have hsl1 := HS.out j hlt
          have hB : W0.heap.size ≤ wr.heap.size := ST3.out.pl.bel.size
          have hgb : g < wr.heap.size := (ST3.out.pl.seen.outer.lt g rfl).2
          have hbb2 : b < wr.heap.size := ST3.out.box.lt
          have HPUSH := Lib.hid (show ∀ (bb cap : Nat) (w7 : World), OwnNums w7 W0.heap.size (.slice (some ⟨bb, 0, none⟩) ((s j).length + n) cap) (s j ++ (ofFs L)) → (wr.drewN 1).grownBy w7 y.ownBlock → ((Value.slice (some ⟨bb, 0, none⟩) ((s j).length + n) cap).ownBlock = y.ownBlock ∨ (Value.slice (some ⟨bb, 0, none⟩) ((s j).length + n) cap).ownBlock = some (wr.drewN 1).heap.size) →
              w7.cell? ⟨b, 5, none⟩ = some (.slice (some ⟨g, 0, none⟩) n n) ∧ w7.cell? ⟨g, j, none⟩ = some y ∧ w7.frozen? ⟨g, j, none⟩ = false ∧ St W0 (w7.setCell ⟨g, j, none⟩ (.slice (some ⟨bb, 0, none⟩) ((s j).length + n) cap)) b g n t vi vd vw vws (vss'.set j (.slice (some ⟨bb, 0, none⟩) ((s j).length + n) cap)) ins ds ws (rowsN n (mixR s' s (j + 1))) ∧ Keeps b wr (w7.setCell ⟨g, j, none⟩ (.slice (some ⟨bb, 0, none⟩) ((s j).length + n) cap)) vss' (vss'.set j (.slice (some ⟨bb, 0, none⟩) ((s j).length + n) cap)) from fun bb cap w7 ho hg hat => by
            have hb1 : Below wr.heap.size wr (wr.drewN 1) := below_drewN (Below.refl _ _) 1
            have STb := ST3.out.below hb1
            obtain ⟨k1, k2, k3, k4⟩ := STb.push HY.out HRJ.out ho hg hat
            have hbx := (STb.box.grown hg (fun e => box_row_ne STb.box (STb.pl.seen.row j y _ HY.out HRJ.out).1 (by decide) e)).cell (i := 5) rfl
            have hk3 : (rowsN n (mixR s' s j)).set j (s j ++ (ofFs L)) = rowsN n (mixR s' s (j + 1)) := by
              have h := mixR_set s' s hlt
              rw [show s' j = s j ++ (ofFs L) by rw [HSE.out]] at h
              exact h
            have kp := (Keeps.of_below (b := b) (s := vss') hb1).trans (k4.weaken (by have := hg.size; omega))
            rw [hk3] at k3
            exact ⟨hbx, k1, k2, k3, kp⟩)
          clear hy hrj hrow
          go_wp2_with fail
          go_region_law ((refine step_push_many rfl _ _ (by rfl) W0.heap.size W0.heap.size y (s j) (ofFs L) gl n cl (by rfl) (HROW.out.drewN 1) (by rfl) (KO.out.drewN 1) (by omega) (by omega) hB ?_; intro bb cap w7 ho7 hg7 hat7; obtain ⟨hc7, hk7, hf7, ST7, KP7⟩ := HPUSH.out bb cap w7 ho7 hg7 hat7))
          all_goals
            have KO8 := Lib.hid (KP7.own _ _ _ KO.out FA.out)
            have ST8 := Lib.hid ST7
            have KP8 := Lib.hid (KP.out.trans KP7)
            have KG8 := Lib.hid (show OwnShares _ w.heap.size u5 (shL (ofFs L)) from ⟨KP7.row KG.out.1 (by decide) (by decide) hbw, KG.out.2⟩)
            clear hc7 hk7 hf7 ST7 KP7 ho7 hg7 hat7 hc5 hcg
            go_wp2_with fail
            exact ⟨⟨j + 1, vss'.set j (.slice (some ⟨bb, 0, none⟩) ((s j).length + n) cap), by omega, by go_num, ST8.out, KO8.out.1, KO8.out.2, KG8.out, KP8.out⟩, by simp [intOf] <;> omega⟩
        · obtain rfl : n = j := by omega
          rw [mixR_all] at ST3
          have hdj : decide ((n : Int) < (n : Int)) = false := by simp
          have hc1 := ST3.out.box.cell (i := 1) rfl
          obtain ⟨Q, hQ, hQE, hX, hE⟩ := shL_open HSH.out ht hn hn9
          have HQ := Lib.hid hQ
          have HQE := Lib.hid hQE
          have HX := Lib.hid hX
          have HE := Lib.hid hE
          clear hQ hQE hX hE
          go_wp2_with (go_at_call 125; refine (sOpen_ok _ _ _ Q _ KG.out.is HQE.out HQ.out).mono ?_; rintro e W9 ⟨rfl, hb9⟩; rw [HX.out, HE.out]; have ST9 := Lib.hid (ST3.out.below hb9); have KP9 := Lib.hid (KP.out.trans (Keeps.of_below hb9)); clear hb9; try dsimp only)
          exact HPO.out _ _ ⟨vss', rfl, ST9.out, KP9.out⟩
def over (n : Int) (z : Int) : Bool := decide (z > n)
def crewP (n t : Int) : Prop := 0 ≤ t ∧ t ≤ 4 ∧ 1 ≤ n ∧ n ≤ 9 ∧ 2 * t + 1 ≤ n
instance (n t : Int) : Decidable (crewP n t) := by unfold crewP; exact inferInstance
def crewE (gs : List Gt) (os : List Int) (n t : Int) : Int := if circE gs os = 0 then if crewP n t then if (whoseL gs).any (over n) = true then 1 else 0 else 1 else circE gs os
def eNeedN (gs : List Gt) (os : List Int) (n t : Int) : Int := if crewE gs os n t = 0 then (dat n.toNat t.toNat gs gs.length : Int) else 0
def NeedRes (w : World) (e : Ending) (w' : World) (k err : Int) : Prop := e = .returned (.tuple #[.int .i64 k, .int .i64 err]) ∧ Below w.heap.size w w'
theorem eOver_any (z n : Int) (b : Nat) (w : World) (h : w.cell? ⟨b, 0, none⟩ = some (.int .i64 n)) :
    Calls Tryz.prog 146 #[.int .i64 z, .pointer (some ⟨b, 0, none⟩)] w fun e w' => e = .returned (.bool (over n z)) ∧ w = w' := by
  go_enter Tryz.func146, Tryz.ntmps146
  go_wp2_with fail
  go_ret
  exact ⟨rfl, rfl⟩
theorem dat_step {n t k : Nat} {gs : List Gt} {g : Gt} (h : gs[k]? = some g) : (g.kind = 1 → dat n t gs (k + 1) = dat n t gs k + t) ∧ (g.kind = 5 → dat n t gs (k + 1) = dat n t gs k + n * t) ∧ (g.kind ≠ 1 → g.kind ≠ 5 → dat n t gs (k + 1) = dat n t gs k) := by
  rw [dat_succ h]
  unfold gdraw
  refine ⟨fun h1 => by rw [if_pos h1], fun h5 => by rw [if_neg (by omega), if_pos h5], fun h1 h5 => by rw [if_neg h1, if_neg h5]; rfl⟩
set_option maxRecDepth 100000 in
set_option maxHeartbeats 1000000 in
theorem eNeed_any (v : Value) (gs : List Gt) (os : List Int) (n t : Int) (w : World) (h : IsCirc w v gs os) :
    Calls Tryz.prog 105 #[v, .int .i64 n, .int .i64 t] w fun e w' => NeedRes w e w' (eNeedN gs os n t) (crewE gs os n t) := by
  have KC := Lib.hid h
  obtain ⟨vg, vo, rfl, hg, ho⟩ := h
  have KG := Lib.hid hg
  obtain ⟨A1, c1, rfl, hc1, hm1, hl1, hu1, hr1⟩ := hg
  obtain ⟨A2, c2, rfl, hc2, hm2, hl2, hu2, hr2⟩ := ho
  have BB := Lib.hid (((Below.refl w.heap.size w).alloc (Nat.le_refl _) (.cells #[.slice A1 gs.length c1, .slice A2 os.length c2] 85)).alloc (by rw [size_alloc]; omega) (.cells #[.int .i64 n] 3))
  have BX := Lib.hid ((Box.new w 85 [.slice A1 gs.length c1, .slice A2 os.length c2]).alloc (.cells #[.int .i64 n] 3))
  have BN := Lib.hid (Box.new (w.alloc (.cells #[.slice A1 gs.length c1, .slice A2 os.length c2] 85)) 3 [.int .i64 n])
  clear hu1 hr1 hm1 hu2 hr2 hm2
  obtain ⟨N, hN⟩ : ∃ N, N = eNeedN gs os n t := ⟨_, rfl⟩
  obtain ⟨E, hE⟩ : ∃ E, E = crewE gs os n t := ⟨_, rfl⟩
  rw [← hN, ← hE]
  suffices hgoal : ∀ Post : Ending → World → Prop, (∀ e w', NeedRes w e w' N E → Post e w') → Calls Tryz.prog 105 #[.agg #[.slice A1 gs.length c1, .slice A2 os.length c2], .int .i64 n, .int .i64 t] w Post from hgoal _ fun e w' h => h
  intro Post hp
  have HP := Lib.hid hp
  clear hp
  have HNE := Lib.hid hN
  have HEE := Lib.hid hE
  clear hN hE
  by_cases h0 : circE gs os = 0
  · have HE := Lib.hid h0
    have OK := Lib.hid (circE_zero.1 h0)
    have hg30 := OK.out.g2
    have HI := Lib.hid (show inputsL gs os = whoseL gs from if_pos h0)
    have HBAD := Lib.hid (show crewE gs os n t ≠ 0 → N = 0 ∧ E = crewE gs os n t from fun h => ⟨by rw [HNE.out]; unfold eNeedN; rw [if_neg h], HEE.out⟩)
    have HARG := Lib.hid (show ¬ crewP n t → N = 0 ∧ E = 1 from fun h => by
      have e : crewE gs os n t = 1 := by unfold crewE; rw [if_pos h0, if_neg h]
      obtain ⟨q1, q2⟩ := HBAD.out (by omega)
      exact ⟨q1, by omega⟩)
    clear h0
    go_enter Tryz.func105, Tryz.ntmps105
    go_wp2_with fail
    refine (cInputs_any _ gs os _ (KC.out.below BB.out)).mono ?_
    rintro e W1 ⟨v, rfl, ho1, hb1⟩
    rw [HI.out] at ho1
    rw [HE.out]
    obtain ⟨Aw, cw', hv, _, _⟩ := own_form ho1.1
    subst hv
    have B1 := Lib.hid (below_trans BB.out hb1 BB.out.size)
    have BX1 := Lib.hid (BX.out.below hb1)
    have BN1 := Lib.hid (BN.out.below hb1)
    have KW1 := Lib.hid ho1.is
    clear hb1 ho1
    try dsimp only
    have hcn := BN1.out.cell (i := 0) rfl
    rw [size_alloc] at hcn
    have hsz1 := B1.out.size
    by_cases h1 : t < 0
    · obtain ⟨q1, q2⟩ := HARG.out (by unfold crewP; omega)
      have hd1 : decide (t < 0) = true := by simp; omega
      subst q1 q2
      go_wp2_with fail
      exact HP.out _ _ ⟨rfl, B1.out⟩
    have hd1 : decide (t < 0) = false := by simp; omega
    by_cases h2 : t > 4
    · obtain ⟨q1, q2⟩ := HARG.out (by unfold crewP; omega)
      have hd2 : decide (t > 4) = true := by simp; omega
      subst q1 q2
      go_wp2_with fail
      exact HP.out _ _ ⟨rfl, B1.out⟩
    have hd2 : decide (t > 4) = false := by simp; omega
    by_cases h3 : n < 1
    · obtain ⟨q1, q2⟩ := HARG.out (by unfold crewP; omega)
      have hd3 : decide (n < 1) = true := by simp; omega
      subst q1 q2
      go_wp2_with fail
      exact HP.out _ _ ⟨rfl, B1.out⟩
    have hd3 : decide (n < 1) = false := by simp; omega
    by_cases h4 : n > 9
    · obtain ⟨q1, q2⟩ := HARG.out (by unfold crewP; omega)
      have hd4 : decide (n > 9) = true := by simp; omega
      subst q1 q2
      go_wp2_with fail
      exact HP.out _ _ ⟨rfl, B1.out⟩
    have hd4 : decide (n > 9) = false := by simp; omega
    by_cases h5 : n < 2 * t + 1
    · obtain ⟨q1, q2⟩ := HARG.out (by unfold crewP; omega)
      have hd5 : decide (n < 2 * t + 1) = true := by simp; omega
      subst q1 q2
      go_wp2_with fail
      exact HP.out _ _ ⟨rfl, B1.out⟩
    have hd5 : decide (n < 2 * t + 1) = false := by simp; omega
    have HCREW := Lib.hid (show crewP n t by unfold crewP; omega)
    have C := hasInts_any 146 (.pointer (some ⟨w.heap.size + 1, 0, none⟩)) (over n) _ (whoseL gs) W1 KW1.out (fun z => eOver_any z n _ _ hcn) (fun x y W => by kernel_rfl)
    cases ha : (whoseL gs).any (over n) with
    | true =>
      rw [ha] at C
      have e1 : crewE gs os n t = 1 := by unfold crewE; rw [if_pos HE.out, if_pos HCREW.out, if_pos ha]
      obtain ⟨q1, q2⟩ := HBAD.out (by omega)
      rw [e1] at q2
      subst q1 q2
      have CC := Lib.hid C
      clear C e1 ha
      go_wp2_with (go_at_call 145; refine CC.out.mono ?_; rintro e w2 ⟨rfl, rfl⟩; try dsimp only)
      exact HP.out _ _ ⟨rfl, B1.out⟩
    | false =>
      rw [ha] at C
      have e1 : crewE gs os n t = 0 := by unfold crewE; rw [if_pos HE.out, if_pos HCREW.out, if_neg (by rw [ha]; decide)]
      have q2 := HEE.out
      rw [e1] at q2
      have q1 := HNE.out
      unfold eNeedN at q1
      rw [if_pos e1] at q1
      obtain ⟨m, hm⟩ : ∃ m : Nat, n = (m : Int) := ⟨n.toNat, by omega⟩
      obtain ⟨T, hT⟩ : ∃ T : Nat, t = (T : Int) := ⟨t.toNat, by omega⟩
      subst hm hT
      rw [Int.toNat_natCast, Int.toNat_natCast] at q1
      subst q1 q2
      have CC := Lib.hid C
      have hc0 := BX1.out.cell (i := 0) rfl
      have BN2 := Lib.hid (show Box W1 (w.heap.size + 1) 3 [.int .i64 m] from by have := BN1.out; rw [size_alloc] at this; exact this)
      have hlt1 := BN2.out.lt
      clear C e1 ha HBAD HARG HNE HEE
      go_wp2_with (go_at_call 145; refine CC.out.mono ?_; rintro e w2 ⟨rfl, rfl⟩; try dsimp only)
      clear hd1 hd2 hd3 hd4 hd5 hcn hc0
      have hmT : (m : Int) * (T : Int) = ((m * T : Nat) : Int) := by simp
      have hmT2 : m * T ≤ 36 := Nat.mul_le_mul (show m ≤ 9 by omega) (show T ≤ 4 by omega)
      have hmT0 : 0 ≤ (m : Int) * (T : Int) ∧ (m : Int) * (T : Int) ≤ 36 := by rw [hmT]; omega
      have HMT := Lib.hid hmT
      clear hmT hmT2
      go_loopw [10, 50] (fun x i wr => ∃ k : Nat, k ≤ gs.length ∧ i = .int .i64 k ∧ x = .int .i64 (dat m T gs k) ∧ Below W1.heap.size W1 wr) (fun _ i _ => gs.length - (intOf i).toNat)
      case atStart => exact ⟨0, Nat.zero_le _, rfl, rfl, Below.refl _ _⟩
      case round =>
        obtain ⟨k, hk, rfl, rfl, hbel⟩ := hrel
        have BEL := Lib.hid hbel
        have hsz := hbel.size
        have hcn := (BN2.out.under BEL.out (by omega)).cell (i := 0) rfl
        have hdl : dat m T gs k ≤ 36 * k := dat_small (by omega) (by omega) k
        clear hbel
        by_cases hlt : k < gs.length
        · obtain ⟨A, c, hA, _, _, _, hu, hr⟩ := ((KG.out.below B1.out).below BEL.out)
          injection hA with hA1 hA2 hA3
          subst hA1 hA3
          obtain ⟨b1', o1, g, rfl, hb1, hgk, hgo, ha1, ha2, ha3, ha4⟩ := gate_at hr hu hlt
          obtain ⟨hs1, hs5, hs0⟩ := dat_step (n := m) (t := T) hgk
          have hBG : Below W1.heap.size W1 (wr.alloc (.cells #[.int .i64 g.kind, .int .i64 g.a, .int .i64 g.b, .int .u64 g.n] 133)) := BEL.out.alloc hsz _
          have BG := Lib.hid hBG
          clear hr hu hgk hgo hb1 hBG
          by_cases hk1 : g.kind = 1
          · have e := Lib.hid (hs1 hk1)
            rw [hk1] at BG
            clear hs1 hs5 hs0
            go_wp2_with fail
            exact ⟨⟨k + 1, by omega, by go_num, by rw [e.out]; rfl, BG.out⟩, by simp [intOf] <;> omega⟩
          · by_cases hk5 : g.kind = 5
            · have e := Lib.hid (hs5 hk5)
              rw [hk5] at BG
              have hcn2 := (BN2.out.under BG.out (by omega)).cell (i := 0) rfl
              clear hs1 hs5 hs0 hcn
              go_wp2_with fail
              exact ⟨⟨k + 1, by omega, by go_num, by rw [e.out, HMT.out]; rfl, BG.out⟩, by simp [intOf] <;> omega⟩
            · have e := Lib.hid (hs0 hk1 hk5)
              clear hs1 hs5 hs0
              go_wp2_with fail
              exact ⟨⟨k + 1, by omega, by go_num, by rw [e.out], BG.out⟩, by simp [intOf] <;> omega⟩
        · obtain rfl : k = gs.length := by omega
          go_wp2_with fail
          exact HP.out _ _ ⟨rfl, B1.out.trans (BEL.out.mono (by omega))⟩
  · have HB := Lib.hid (show N = 0 ∧ E = circE gs os from by
      have e : crewE gs os n t = circE gs os := by unfold crewE; rw [if_neg h0]
      rw [HNE.out, HEE.out]; unfold eNeedN; rw [e, if_neg h0]; exact ⟨rfl, rfl⟩)
    have hbb : (circE gs os != 0) = true := by rw [bne_iff_ne]; exact h0
    go_enter Tryz.func105, Tryz.ntmps105
    go_wp2_with fail
    refine (cInputs_any _ gs os _ (KC.out.below BB.out)).mono ?_
    rintro e W1 ⟨v, rfl, ho1, hb1⟩
    have B1 := Lib.hid (below_trans BB.out hb1 BB.out.size)
    clear hb1 ho1
    try dsimp only
    obtain ⟨q1, q2⟩ := HB.out
    subst q1 q2
    go_wp2_with fail
    exact HP.out _ _ ⟨rfl, B1.out⟩
theorem step_push_row {ops : Array Oper} {o : Oper} {a : Act} {K : Act → World → Prop} {Q : Exit → Act → World → Prop} {E : Prop} {w : World} (hgd : o.guard = none) (s x : Operand)
    (ho : o.op = .call { callee := .builtin .append, args := #[s, x], argTypes := #[86, 86] })
    (base : Nat) (v : Value) (vs : List Value) (rows : List (List Int)) (y : Value) (r : List Int) (g c : Nat) (hs : a.eval s = v) (hown : Grid w base v vs rows) (hx : a.eval x = .slice (some ⟨g, 0, none⟩) 1 c)
    (hc : w.cell? ⟨g, 0, none⟩ = some y) (hy : OwnNums w base y r) (hfar : ∀ (k : Nat) (z : Value) (b : Nat), vs[k]? = some z → z.ownBlock = some b → y.ownBlock ≠ some b) (hl : rows.length + 1 ≤ 5864062014805) (hb : base ≤ w.heap.size)
    (h : ∀ b cap w', Grid w' base (.slice (some ⟨b, 0, none⟩) (rows.length + 1) cap) (vs ++ [y]) (rows ++ [r]) → Below base w w' → w.grownBy w' v.ownBlock → ((Value.slice (some ⟨b, 0, none⟩) (rows.length + 1) cap).ownBlock = v.ownBlock ∨ (Value.slice (some ⟨b, 0, none⟩) (rows.length + 1) cap).ownBlock = some w.heap.size) → K (a.put o.dst (.slice (some ⟨b, 0, none⟩) (rows.length + 1) cap)) w') : if Region.wanted o (yielded ops a.tmps) = true then Oper.wp Tryz.prog o a w K Q else E := by
  obtain ⟨i0, hi, hz0, hz1, hz2⟩ := info_parts linfo
  refine step_append_lies w hgd s x 86 ho base 64 i0 (.slice none 0 0) 1 24 Tryz.underlying86 hi hz0 hz1 hz2 rfl (by decide) v rows.length vs hs hown.outer ⟨g, 0, none⟩ 1 c [y] hx rfl ?_ ?_ (by omega) ?_ ?_ hb _ rfl ?_
  · intro j u hu
    match j, hu with
    | 0, hu =>
      simp at hu
      subst hu
      rw [add_addr]; exact hc
  · intro u hu
    simp at hu
    subst hu
    obtain ⟨A, cap, rfl, _, _⟩ := own_form hy.1
    rfl
  · unfold maxLen; omega
  · omega
  · intro b cap w' h1 h2 h4 _
    have h4 : (Value.slice (some ⟨b, 0, none⟩) (rows.length + 1) cap).ownBlock = v.ownBlock ∨ (Value.slice (some ⟨b, 0, none⟩) (rows.length + 1) cap).ownBlock = some w.heap.size := by
      rcases h4 with h4 | h4
      · left; rw [h4]; rfl
      · right; rw [h4]; rfl
    have kept : ∀ (z : Value) (q : List Int), OwnNums w base z q → OwnNums w' base z q := fun z q hz => hz.kept h2 (by
      cases hzb : z.ownBlock with
      | none => exact .inl rfl
      | some b => exact .inr fun hvb => kinds_apart hz.1 hown.outer (by decide) hzb hvb.symm)
    refine h b cap w' ⟨?_, by simpa using hl, fun k z q hz hq => ?_, fun k l z z' b hz hz' hzb hzb' => ?_⟩ ((Below.refl _ _).grown h2 hb (fun k hk => (hown.outer.lt k hk).1)) h2 h4
    · have e : (rows ++ [r]).length = rows.length + 1 := by simp
      rw [e]; exact h1
    · have hvl := hown.vlen
      rcases Nat.lt_or_ge k vs.length with hk | hk
      · rw [List.getElem?_append_left hk] at hz
        rw [List.getElem?_append_left (by omega)] at hq
        exact kept z q (hown.row k z q hz hq)
      · rw [List.getElem?_append_right hk] at hz
        rw [List.getElem?_append_right (by omega), ← hvl] at hq
        have h0 : k - vs.length = 0 := by
          have := (List.getElem?_eq_some_iff.1 hz).1
          simpa using this
        rw [h0] at hz hq
        simp at hz hq
        subst hz hq
        exact kept _ _ hy
    · have at_ : ∀ {k : Nat} {z : Value}, (vs ++ [y])[k]? = some z → vs[k]? = some z ∨ k = vs.length ∧ z = y := fun {k z} hz => by
        rcases Nat.lt_or_ge k vs.length with hk | hk
        · rw [List.getElem?_append_left hk] at hz; exact .inl hz
        · rw [List.getElem?_append_right hk] at hz
          have h0 : k - vs.length = 0 := by
            have := (List.getElem?_eq_some_iff.1 hz).1
            simpa using this
          rw [h0] at hz
          simp at hz
          exact .inr ⟨by omega, hz.symm⟩
      rcases at_ hz with h3 | ⟨h3, rfl⟩
      · rcases at_ hz' with h4 | ⟨h4, rfl⟩
        · exact hown.apart k l z z' b h3 h4 hzb hzb'
        · exact absurd hzb' (hfar k z b h3 hzb)
      · rcases at_ hz' with h4 | ⟨h4, rfl⟩
        · exact absurd hzb (hfar l z' b h4 hzb')
        · omega
theorem wpList_push_num4 {ops : Array Oper} {rest : List Oper} {o : Oper} {a : Act} {Q : Exit → Act → World → Prop} {w : World} (hgd : o.guard = none) (s x : Operand)
    (ho : o.op = .call { callee := .builtin .append, args := #[s, x], argTypes := #[64, 64] })
    (base : Nat) (v : Value) (zs : List Int) (z : Int) (g c : Nat) (hs : a.eval s = v) (hown : OwnNums w base v zs) (hx : a.eval x = .slice (some ⟨g, 0, none⟩) 1 c)
    (hc : w.cell? ⟨g, 0, none⟩ = some (.int .u64 z)) (hz : U64 z) (hl : zs.length + 1 ≤ 17592186043904) (hb : base ≤ w.heap.size)
    (h : ∀ v' w', OwnNums w' base v' (zs ++ [z]) → Below base w w' → w.grownBy w' v.ownBlock → (v'.ownBlock = v.ownBlock ∨ v'.ownBlock = some w.heap.size) → wpList Tryz.prog ops Q rest (a.put o.dst v') w') : wpList Tryz.prog ops Q (o :: rest) a w := by
  obtain ⟨i0, hi, hz0, hz1, hz2⟩ := info_parts uinfo
  refine wpList_append_own_at w hgd s x 64 ho base 67 i0 (.int .u64 0) 1 8 Tryz.underlying64 hi hz0 hz1 hz2 rfl (by decide) v zs.length (u64s zs) hs hown.1 ⟨g, 0, none⟩ 1 c [.int .u64 z] hx rfl ?_ ?_ ?_ ?_ hb ?_
  · intro j u hu
    match j, hu with
    | 0, hu =>
      simp at hu
      subst hu
      rw [add_addr]; exact hc
  · intro u hu
    simp at hu
    subst hu; rfl
  · unfold maxLen; omega
  · omega
  · intro v' w' h1 h2 _ h4
    refine h v' w' ⟨?_, ?_, ?_⟩ ((Below.refl _ _).grown h2 hb (fun k hk => (hown.1.lt k hk).1)) h2 h4
    · have e : (zs ++ [z]).length = zs.length + 1 := by simp
      have e2 : u64s (zs ++ [z]) = u64s zs ++ [.int .u64 z] := by simp [u64s]
      rw [e, e2]; exact h1
    · simpa using hl
    · intro y hy
      rcases List.mem_append.1 hy with h3 | h3
      · exact hown.2.2 y h3
      · simp at h3; subst h3; exact hz
theorem toFs_drop (l : List Int) (k : Nat) : toFs (l.drop k) = (toFs l).drop k := by simp [toFs, List.map_drop]
theorem ofFs_append (a b : List F) : ofFs (a ++ b) = ofFs a ++ ofFs b := by simp [ofFs]
theorem St.apart {W0 w w' : World} {b g n t : Nat} {vi vd vw u : Value} {vws vss : List Value} {ins ds zs : List Int} {ws seen : List (List Int)} {B : Nat} (h : St W0 w b g n t vi vd vw vws vss ins ds ws seen) (hu : OwnNums w B u zs) (hB : W0.heap.size ≤ B) (hg : w.grownBy w' u.ownBlock) (h1 : FarAll u vss) (h2 : FarAll u vws) : St W0 w' b g n t vi vd vw vws vss ins ds ws seen := by
  have num : ∀ (y : Value) (l : List Int), OwnNums w W0.heap.size y l → Far u y → OwnNums w' W0.heap.size y l := fun y l hy hf => hy.kept hg hf.symm.kept
  have out : ∀ {v : Value} {k : Nat} {xs : List Value}, w.ownsRow W0.heap.size 64 1 v k xs → w'.ownsRow W0.heap.size 64 1 v k xs := fun {v} {k} {xs} hv => hv.kept hg (by
    cases hc : v.ownBlock with
    | none => exact .inl rfl
    | some c => exact .inr fun e => kinds_apart hv hu.1 (by decide) hc e.symm)
  refine ⟨⟨(h.pl.bel).grown hg h.pl.bel.size (fun k hk => Nat.le_trans hB (hu.1.lt k hk).1), ⟨out h.pl.wires.outer, h.pl.wires.len, fun i x r hx hr => num x r (h.pl.wires.row i x r hx hr) (h2 i x hx), h.pl.wires.apart⟩,
    ⟨out h.pl.seen.outer, h.pl.seen.len, fun i x r hx hr => num x r (h.pl.seen.row i x r hx hr) (h1 i x hx), h.pl.seen.apart⟩, h.pl.far, h.pl.rows⟩, h.box.grown hg (fun e => box_row_ne h.box hu.1 (by decide) e), h.le, h.ins, h.ds⟩
theorem FarAll.grow {u u' : Value} {vs : List Value} {N : Nat} (h : FarAll u vs) (hu : ∀ (j : Nat) (y : Value), vs[j]? = some y → ∀ b, y.ownBlock = some b → b < N) (h4 : u'.ownBlock = u.ownBlock ∨ u'.ownBlock = some N) : FarAll u' vs := fun j y hy => ((h j y hy).symm.grow (hu j y hy) h4).symm
theorem Grid.under {w : World} {base : Nat} {v : Value} {vs : List Value} {rows : List (List Int)} (h : Grid w base v vs rows) (j : Nat) (y : Value) (hy : vs[j]? = some y) (b : Nat) (hb : y.ownBlock = some b) : b < w.heap.size := by
  have hj := (List.getElem?_eq_some_iff.1 hy).1
  rw [h.vlen] at hj
  exact ((h.row j y _ hy (List.getElem?_eq_getElem hj)).1.lt b hb).2
theorem rowsN_nil (n : Nat) : rowsN n (fun _ => []) = List.replicate n [] := by
  apply List.ext_getElem?
  intro q
  by_cases h : q < n
  · rw [rowsN_get _ h, List.getElem?_replicate, if_pos h]
  · rw [List.getElem?_eq_none (by rw [rowsN_length]; omega), List.getElem?_eq_none (by simp; omega)]
theorem St.wired {W0 w w7 : World} {b g n t : Nat} {vi vd vw x v' : Value} {vws vss : List Value} {ins ds r : List Int} {ws seen : List (List Int)} (h : St W0 w b g n t vi vd vw vws vss ins ds ws seen) (o : Obj) (hgr : Grid w7 W0.heap.size v' (vws ++ [x]) (ws ++ [r])) (hb : Below W0.heap.size (w.alloc o) w7) (hg : (w.alloc o).grownBy w7 vw.ownBlock) (h3 : v'.ownBlock = vw.ownBlock ∨ v'.ownBlock = some (w.alloc o).heap.size) (hx : FarAll x vss) :
    w7.cell? ⟨b, 4, none⟩ = some vw ∧ w7.frozen? ⟨b, 4, none⟩ = false ∧ St W0 (w7.setCell ⟨b, 4, none⟩ v') b g n t vi vd v' (vws ++ [x]) vss ins ds (ws ++ [r]) seen ∧ Keeps b w (w7.setCell ⟨b, 4, none⟩ v') vss vss := by
  have hb0 : Below w.heap.size w (w.alloc o) := (Below.refl _ w).alloc (Nat.le_refl _) o
  have h1 := h.below hb0
  obtain ⟨p, k⟩ := h1.pl.wire hgr hb hg h3 hx b
  have hbx := h1.box.grown hg (fun e => box_row_ne h1.box h1.pl.wires.outer (by decide) e)
  exact ⟨hbx.cell (i := 4) rfl, hbx.frozen 4, ⟨p.box hbx (by decide) (by decide) h.le _ _, hbx.set 4 _, h.le, h.ins, h.ds⟩, ((Keeps.of_below hb0).trans k).trans (Keeps.of_box hbx (by decide) _ _)⟩
theorem run_next {n t k : Nat} {gs : List Gt} {g : Gt} (h : gs[k]? = some g) (ins ds : List Int) :
    (if g.kind = 1 then (ins.drop (cin gs k)).drop 1 else ins.drop (cin gs k)) = ins.drop (cin gs (k + 1)) ∧ (ds.drop (dat n t gs k)).drop (gdraw n t g) = ds.drop (dat n t gs (k + 1)) ∧
    (ew n t gs (toFs ins) (toFs ds) k).map ofFs ++ [ofFs (ewire n t (ew n t gs (toFs ins) (toFs ds) k) (co (toFs (ins.drop (cin gs k))) 0) (toFs (ds.drop (dat n t gs k))) g)] = (ew n t gs (toFs ins) (toFs ds) (k + 1)).map ofFs ∧
    (rowsN n fun q => ofFs (es n t gs (toFs ins) (toFs ds) k q) ++ ofFs (eseen n t (ew n t gs (toFs ins) (toFs ds) k) (co (toFs (ins.drop (cin gs k))) 0) (toFs (ds.drop (dat n t gs k))) g q)) = rowsN n fun q => ofFs (es n t gs (toFs ins) (toFs ds) (k + 1) q) := by
  refine ⟨drop_next gs ins h, by rw [List.drop_drop, dat_succ h], ?_, ?_⟩
  · rw [drop_head, toFs_drop, ew_succ h, List.map_append]; rfl
  · refine rowsN_congr fun q _ => ?_
    rw [drop_head, toFs_drop, es_succ h, ofFs_append]
theorem ew_lens {n t : Nat} {gs : List Gt} {I D : List F} (hr : ∀ (i : Nat) (g : Gt), gs[i]? = some g → gRight g i = true) (hn : 2 * t + 1 ≤ n) (hn9 : n ≤ 1000) {k : Nat} (hk : k ≤ gs.length) : ∀ l ∈ ew n t gs I D k, l.length = n := fun l hl => by
  obtain ⟨i, hi⟩ := List.getElem?_of_mem hl
  have hlt := (List.getElem?_eq_some_iff.1 hi).1
  have h := (ew_shared (I := I) (D := D) hr hn hn9 k hk i (by rw [ew_length] at hlt; exact hlt)).len
  have e := wr_get hlt
  rw [hi] at e
  rw [Option.some.inj e]; exact h
def RunRes (w : World) (e : Ending) (w' : World) (n : Nat) (out : List Int) (seen : List (List Int)) : Prop :=
  ∃ vo g vss, e = .returned (.tuple #[vo, .slice (some ⟨g, 0, none⟩) n n, .int .i64 0]) ∧ OwnNums w' w.heap.size vo out ∧ Grid w' w.heap.size (.slice (some ⟨g, 0, none⟩) n n) vss seen ∧ FarAll vo vss ∧ Below w.heap.size w w'
theorem crewE_zero {gs : List Gt} {os : List Int} {n t : Int} : crewE gs os n t = 0 ↔ CircOk gs os ∧ crewP n t ∧ ¬ (whoseL gs).any (over n) = true := by
  unfold crewE
  rw [← circE_zero]
  by_cases h0 : circE gs os = 0
  · rw [if_pos h0]
    by_cases h1 : crewP n t
    · rw [if_pos h1]
      by_cases h2 : (whoseL gs).any (over n) = true
      · rw [if_pos h2]; exact ⟨fun h => by omega, fun h => absurd h2 h.2.2⟩
      · rw [if_neg h2]; exact ⟨fun _ => ⟨h0, h1, h2⟩, fun _ => rfl⟩
    · rw [if_neg h1]; exact ⟨fun h => by omega, fun h => absurd h.2.1 h1⟩
  · rw [if_neg h0]; exact ⟨fun h => absurd h h0, fun h => absurd h.1 h0⟩
set_option maxRecDepth 100000 in
set_option maxHeartbeats 2000000 in
theorem eRun_ok (v vi vd : Value) (gs : List Gt) (os ins ds : List Int) (n t : Nat) (w : World) (h : IsCirc w v gs os) (hi : IsNums w vi ins) (hd : IsNums w vd ds) (h0 : crewE gs os n t = 0) (hli : ins.length = (whoseL gs).length) (hld : ds.length = dat n t gs gs.length) :
    Calls Tryz.prog 51 #[v, .int .i64 n, .int .i64 t, vi, vd] w fun e w' => RunRes w e w' n (ofFs (couts gs os (toFs ins))) (rowsN n fun j => ofFs (eo n t gs os (toFs ins) (toFs ds) os.length j)) := by
  have KC := Lib.hid h
  have KI := Lib.hid hi
  have KD := Lib.hid hd
  obtain ⟨hok, hcrew, _⟩ := crewE_zero.1 h0
  have OK := Lib.hid hok
  have hg30 := hok.g2
  have ho30 := hok.o2
  obtain ⟨hc1, hc2, hc3, hc4, hc5⟩ := hcrew
  have ht4 : t ≤ 4 := by omega
  have hn2 : 2 * t + 1 ≤ n := by omega
  have hn9 : n ≤ 9 := by omega
  have HE := Lib.hid h0
  have HI := Lib.hid (show inputsL gs os = whoseL gs from if_pos (circE_zero.2 hok))
  have HC := Lib.hid (circE_zero.2 hok)
  have HN := Lib.hid (show eNeedN gs os n t = (dat n t gs gs.length : Int) by unfold eNeedN; rw [if_pos h0, Int.toNat_natCast, Int.toNat_natCast])
  have HLI := Lib.hid hli
  have HLD := Lib.hid hld
  obtain ⟨vg, vo, rfl, hg, ho⟩ := h
  have KG := Lib.hid hg
  have KO := Lib.hid ho
  obtain ⟨A1, c1, rfl, hc1', hm1, hl1, hu1, hr1⟩ := hg
  obtain ⟨A2, c2, rfl, hc2', hm2, hl2, hu2, hr2⟩ := ho
  obtain ⟨A3, c3, rfl, hc3', hm3, hl3, hu3, hr3⟩ := hi
  obtain ⟨A4, c4, rfl, hc4', hm4, hl4, hu4, hr4⟩ := hd
  have BB := Lib.hid ((Below.refl w.heap.size w).alloc (Nat.le_refl _) (.cells #[.slice A1 gs.length c1, .slice A2 os.length c2] 85))
  have BX := Lib.hid (Box.new w 85 [.slice A1 gs.length c1, .slice A2 os.length c2])
  have hbi : ((ins.length : Int) != ((whoseL gs).length : Int)) = false := by rw [bne_eq_false_iff_eq]; omega
  obtain ⟨K, hK⟩ : ∃ K, K = dat n t gs gs.length := ⟨_, rfl⟩
  rw [← hK] at HN HLD hld
  have hbd : ((ds.length : Int) != (K : Int)) = false := by rw [bne_eq_false_iff_eq]; omega
  have HK := Lib.hid hK
  clear hK
  suffices hgoal : ∀ Post : Ending → World → Prop, (∀ e w', RunRes w e w' n (ofFs (couts gs os (toFs ins))) (rowsN n fun j => ofFs (eo n t gs os (toFs ins) (toFs ds) os.length j)) → Post e w') → Calls Tryz.prog 51 #[.agg #[.slice A1 gs.length c1, .slice A2 os.length c2], .int .i64 n, .int .i64 t, .slice A3 ins.length c3, .slice A4 ds.length c4] w Post from hgoal _ fun e w' h => h
  intro Post hp
  have HP := Lib.hid hp
  clear hp hu1 hr1 hm1 hu2 hr2 hm2 hu3 hr3 hm3 hu4 hr4 hm4 hok h0 hli hld
  go_enter Tryz.func51, Tryz.ntmps51
  go_wp2_with fail
  refine (eNeed_any _ gs os n t _ (KC.out.below BB.out)).mono ?_
  rintro e W1 ⟨rfl, hb1⟩
  rw [HE.out, HN.out]
  have B1 := Lib.hid (below_trans BB.out hb1 BB.out.size)
  have BX1 := Lib.hid (BX.out.below hb1)
  clear hb1
  try dsimp only
  have hc0 := BX1.out.cell (i := 0) rfl
  have hc0b := BX1.out.cell (i := 1) rfl
  go_wp2_with fail
  refine (cInputs_any _ gs os _ (KC.out.below B1.out)).mono ?_
  rintro e W2 ⟨v, rfl, ho1, hb2⟩
  rw [HI.out] at ho1
  rw [HC.out]
  obtain ⟨Aw, cw', hv, _, _⟩ := own_form ho1.1
  subst hv
  have B2 := Lib.hid (below_trans B1.out hb2 B1.out.size)
  have BX2 := Lib.hid (BX1.out.below hb2)
  have hsz2 := B2.out.size
  clear hb2 ho1 hc0 hc0b
  try dsimp only
  go_wp2_with (refine wpList_make_grid rfl _ _ rfl W2.heap.size _ n rfl rfl rfl (by omega) (by omega) ?_)
  intro W3 hgr hb3
  have hsz3 := hb3.size
  have hbb := BX2.out.lt
  have hb4 : Below w.heap.size w (W3.alloc (.cells #[.int .i64 n, .int .i64 t, .slice A3 ins.length c3, .slice A4 ds.length c4, .slice none 0 0, .slice (some ⟨W2.heap.size, 0, none⟩) n n] 131)) := (B2.out.trans (hb3.mono hsz2)).alloc (by omega) _
  have B4 := Lib.hid hb4
  have BX4 := Lib.hid ((BX2.out.below hb3).alloc (.cells #[.int .i64 n, .int .i64 t, .slice A3 ins.length c3, .slice A4 ds.length c4, .slice none 0 0, .slice (some ⟨W2.heap.size, 0, none⟩) n n] 131))
  have BS4 := Lib.hid (Box.new W3 131 [.int .i64 n, .int .i64 t, .slice A3 ins.length c3, .slice A4 ds.length c4, .slice none 0 0, .slice (some ⟨W2.heap.size, 0, none⟩) n n])
  have GR4 := Lib.hid (hgr.less_below (B := w.heap.size) (w := w) (B2.out.trans (hb3.mono hsz2)) ((Below.refl W3.heap.size W3).alloc (Nat.le_refl _) (.cells #[.int .i64 n, .int .i64 t, .slice A3 ins.length c3, .slice A4 ds.length c4, .slice none 0 0, .slice (some ⟨W2.heap.size, 0, none⟩) n n] 131)) hsz2)
  have hgb := (hgr.outer.lt W2.heap.size rfl).2
  clear hgr hb3 hb4
  have ST4 := Lib.hid (show St w (W3.alloc (.cells #[.int .i64 n, .int .i64 t, .slice A3 ins.length c3, .slice A4 ds.length c4, .slice none 0 0, .slice (some ⟨W2.heap.size, 0, none⟩) n n] 131)) W3.heap.size W2.heap.size n t (.slice A3 ins.length c3) (.slice A4 ds.length c4) (.slice none 0 0) [] (List.replicate n (.slice none 0 0)) (ins.drop (cin gs 0)) (ds.drop (dat n t gs 0)) ((ew n t gs (toFs ins) (toFs ds) 0).map ofFs) (rowsN n fun q => ofFs (es n t gs (toFs ins) (toFs ds) 0 q)) from
    ⟨⟨B4.out, Grid.nil _ _, by rw [show (fun q => ofFs (es n t gs (toFs ins) (toFs ds) 0 q)) = (fun _ => []) from rfl, rowsN_nil]; exact GR4.out, Far.nil_ _, fun i x hx => by simp at hx⟩, BS4.out, by omega, KI.out, KD.out⟩)
  have hc0 := BX4.out.cell (i := 0) rfl
  clear BS4 GR4 B4 BX2 BX1 BX BB
  have hks : IntKind.i64.wrap 0 = 0 := rfl
  clear hks
  go_wp2_with fail
  clear hc0 hbi hbd
  go_loopw [60] (fun i wr => ∃ (k : Nat) (vi' vd' vw' : Value) (vws vss : List Value), k ≤ gs.length ∧ i = .int .i64 k ∧ St w wr W3.heap.size W2.heap.size n t vi' vd' vw' vws vss (ins.drop (cin gs k)) (ds.drop (dat n t gs k)) ((ew n t gs (toFs ins) (toFs ds) k).map ofFs) (rowsN n fun q => ofFs (es n t gs (toFs ins) (toFs ds) k q)) ∧ Box wr w.heap.size 85 [.slice A1 gs.length c1, .slice A2 os.length c2]) (fun i _ => gs.length - (intOf i).toNat)
  case atStart => exact ⟨0, _, _, _, _, _, Nat.zero_le _, rfl, ST4.out, BX4.out⟩
  case round =>
    obtain ⟨k, vi', vd', vw', vws, vss, hk, rfl, hst, hbx⟩ := hrel
    clear ST4 BX4
    have ST := Lib.hid hst
    have BX := Lib.hid hbx
    have hsz := hst.pl.bel.size
    have hbw := hst.box.lt
    clear hst hbx
    by_cases hlt : k < gs.length
    · obtain ⟨A, c, hA, _, _, _, hu, hr⟩ := KG.out.below ST.out.pl.bel
      injection hA with hA1 hA2 hA3
      subst hA1 hA3
      obtain ⟨b1', o1, G, rfl, hb1, hgk, hgo, ha1, ha2, ha3, ha4⟩ := gate_at hr hu hlt
      have HGK := Lib.hid hgk
      have BG := Lib.hid ((Below.refl wr.heap.size wr).alloc (Nat.le_refl _) (.cells #[.int .i64 G.kind, .int .i64 G.a, .int .i64 G.b, .int .u64 G.n] 133))
      have BXG := Lib.hid (Box.new wr 133 [.int .i64 G.kind, .int .i64 G.a, .int .i64 G.b, .int .u64 G.n])
      have ASK := Lib.hid (show WireAsk n t G (ew n t gs (toFs ins) (toFs ds) k) (ins.drop (cin gs k)) (ds.drop (dat n t gs k)) (fun q => ofFs (es n t gs (toFs ins) (toFs ds) k q)) from
        ⟨by rw [ew_length]; exact OK.out.right k G hgk, hgo, ew_lens OK.out.right hn2 (by omega) (Nat.le_of_lt hlt), ht4, hn2, hn9, fun h1 h2 => by
          have := cin_lt hgk h1
          rw [← HLI.out] at this
          have h3 := congrArg List.length h2
          simp at h3
          omega, by rw [List.length_drop, HLD.out, HK.out]; have := dat_room (n := n) (t := t) hgk; omega, fun q hq => by rw [ofFs_length, es_length hq]; have := slen_le (gs := gs) hn9 k; omega⟩)
      clear hr hu hgk hgo hb1 hA2
      obtain ⟨WA, hWA⟩ : ∃ WA, WA = wr.alloc (.cells #[.int .i64 G.kind, .int .i64 G.a, .int .i64 G.b, .int .u64 G.n] 133) := ⟨_, rfl⟩
      obtain ⟨WG, hWG⟩ : ∃ WG, WG = WA.drewN 1 := ⟨_, rfl⟩
      have HWA := Lib.hid hWA
      have HWG := Lib.hid hWG
      have BWG := Lib.hid (show Below wr.heap.size wr WG by rw [hWG, hWA]; exact below_drewN BG.out 1)
      have STG := Lib.hid (ST.out.below BWG.out)
      have C := Lib.hid (eWire_any w WG W3.heap.size W2.heap.size n t vi' vd' vw' vws vss _ _ _ _ G STG.out ASK.out)
      have HNEXT := Lib.hid (run_next (n := n) (t := t) HGK.out ins ds)
      have BXW := Lib.hid (BX.out.below BWG.out)
      have HPUSH := Lib.hid (show ∀ (e : Ending) (W5 : World) (R : List Int), R = ofFs (ewire n t (ew n t gs (toFs ins) (toFs ds) k) (co (toFs (ins.drop (cin gs k))) 0) (toFs (ds.drop (dat n t gs k))) G) → StRes w WG W3.heap.size W2.heap.size n t vw' vws vss ((ew n t gs (toFs ins) (toFs ds) k).map ofFs) e W5 (if G.kind = 1 then (ins.drop (cin gs k)).drop 1 else ins.drop (cin gs k)) ((ds.drop (dat n t gs k)).drop (gdraw n t G)) R (rowsN n fun q => ofFs (es n t gs (toFs ins) (toFs ds) k q) ++ ofFs (eseen n t (ew n t gs (toFs ins) (toFs ds) k) (co (toFs (ins.drop (cin gs k))) 0) (toFs (ds.drop (dat n t gs k))) G q)) →
          ∃ v, (∃ Av mv cv2, v = .slice Av mv cv2) ∧ e = .returned v ∧ W5.cell? ⟨W3.heap.size, 4, none⟩ = some vw' ∧ OwnNums W5 w.heap.size v R ∧ Grid W5 w.heap.size vw' vws ((ew n t gs (toFs ins) (toFs ds) k).map ofFs) ∧ (∀ (j : Nat) (z : Value) (c : Nat), vws[j]? = some z → z.ownBlock = some c → v.ownBlock ≠ some c) ∧ (w.heap.size ≤ W5.heap.size ∧ ∀ o, (W5.alloc o).cell? ⟨W3.heap.size, 4, none⟩ = some vw') ∧
          ∀ (bb cap : Nat) (w7 : World), Grid w7 w.heap.size (.slice (some ⟨bb, 0, none⟩) (k + 1) cap) (vws ++ [v]) ((ew n t gs (toFs ins) (toFs ds) k).map ofFs ++ [R]) → Below w.heap.size (W5.alloc (.cells #[v] 64)) w7 → (W5.alloc (.cells #[v] 64)).grownBy w7 vw'.ownBlock → ((Value.slice (some ⟨bb, 0, none⟩) (k + 1) cap).ownBlock = vw'.ownBlock ∨ (Value.slice (some ⟨bb, 0, none⟩) (k + 1) cap).ownBlock = some (W5.alloc (.cells #[v] 64)).heap.size) →
            w7.cell? ⟨W3.heap.size, 4, none⟩ = some vw' ∧ w7.frozen? ⟨W3.heap.size, 4, none⟩ = false ∧ (∃ vi2 vd2 vss2, St w (w7.setCell ⟨W3.heap.size, 4, none⟩ (.slice (some ⟨bb, 0, none⟩) (k + 1) cap)) W3.heap.size W2.heap.size n t vi2 vd2 (.slice (some ⟨bb, 0, none⟩) (k + 1) cap) (vws ++ [v]) vss2 (ins.drop (cin gs (k + 1))) (ds.drop (dat n t gs (k + 1))) ((ew n t gs (toFs ins) (toFs ds) (k + 1)).map ofFs) (rowsN n fun q => ofFs (es n t gs (toFs ins) (toFs ds) (k + 1) q))) ∧ Box (w7.setCell ⟨W3.heap.size, 4, none⟩ (.slice (some ⟨bb, 0, none⟩) (k + 1) cap)) w.heap.size 85 [.slice (some ⟨b1', o1, none⟩) gs.length c1, .slice A2 os.length c2] from fun e W5 R hR hres => by
        obtain ⟨v, vi2, vd2, vss2, rfl, ho5, hv5, hf5, hst5, hk5⟩ := hres
        refine ⟨v, (by obtain ⟨Av, cv2, hv, _, _⟩ := own_form ho5.1; exact ⟨Av, _, cv2, hv⟩), rfl, hst5.box.cell (i := 4) rfl, ho5, hst5.pl.wires, fun j z c hz hc hv => ?_, ⟨hst5.pl.bel.size, fun o => (hst5.box.alloc o).cell (i := 4) rfl⟩, fun bb cap w7 hg7 hb7 hgr7 hat7 => ?_⟩
        · have h1 := hv5 c hv
          have h2 := STG.out.pl.wires.under j z hz c hc
          omega
        · obtain ⟨k1, k2, k3, k4⟩ := hst5.wired (.cells #[v] 64) hg7 hb7 hgr7 hat7 hf5
          obtain ⟨e1, e2, e3, e4⟩ := HNEXT.out
          rw [hR, e1, e2, e3, e4] at k3
          exact ⟨k1, k2, ⟨vi2, vd2, vss2, k3⟩, k4.box _ _ _ (by omega) (by decide) (by decide) (hk5.box _ _ _ (by omega) (by decide) (by decide) BXW.out)⟩)
      have hc4 : WA.cell? ⟨W3.heap.size, 4, none⟩ = some vw' := by
        have h := STG.out.box.cell (i := 4) rfl
        rw [hWG] at h; exact h
      have hg0 : WA.cell? ⟨wr.heap.size, 0, none⟩ = some (.int .i64 G.kind) := by rw [hWA]; exact BXG.out.cell (i := 0) rfl
      have hg1 : WA.cell? ⟨wr.heap.size, 1, none⟩ = some (.int .i64 G.a) := by rw [hWA]; exact BXG.out.cell (i := 1) rfl
      have hg2 : WA.cell? ⟨wr.heap.size, 2, none⟩ = some (.int .i64 G.b) := by rw [hWA]; exact BXG.out.cell (i := 2) rfl
      have hg3 : WA.cell? ⟨wr.heap.size, 3, none⟩ = some (.int .u64 G.n) := by rw [hWA]; exact BXG.out.cell (i := 3) rfl
      obtain ⟨R, hR⟩ : ∃ R, R = ofFs (ewire n t (ew n t gs (toFs ins) (toFs ds) k) (co (toFs (ins.drop (cin gs k))) 0) (toFs (ds.drop (dat n t gs k))) G) := ⟨_, rfl⟩
      have HPU := Lib.hid (fun e W5 => HPUSH.out e W5 R hR)
      rw [← hR] at C
      have hwl : ((ew n t gs (toFs ins) (toFs ds) k).map ofFs).length = k := by rw [List.length_map, ew_length]
      have HWL := Lib.hid hwl
      have hlen := hwl
      clear hR HPUSH STG BXW HNEXT ASK BG BXG HWG
      subst hWG
      have hk30 : k + 1 ≤ 31 := by omega
      have hkm : k + 1 ≤ 5864062014805 := by omega
      clear hwl hlen hk30
      go_wp2_with fail
      clear ha1 ha2 ha3 ha4
      rw [← HWA.out]
      clear hWA
      go_region_law (first | (go_simp; go_at_call 107; refine C.out.mono ?_; intro e W5 hres; obtain ⟨v, ⟨Av, mv, cv2, hvv⟩, he, q4, HO5, HG5, HF5, ⟨HS5, q4b⟩, HPW⟩ := HPU.out e W5 hres; subst hvv he; have KO5 := Lib.hid HO5; have KG5 := Lib.hid HG5; have KF5 := Lib.hid HF5; have KPW := Lib.hid HPW; clear hres HO5 HG5 HF5 HPW; try dsimp only) | (refine step_push_row rfl _ _ (by rfl) w.heap.size vw' vws _ (.slice Av mv cv2) _ W5.heap.size 1 (by rfl) (KG5.out.alloc _) (by rfl) (new_cell _ _ _) (KO5.out.alloc _) KF5.out (by rw [HWL.out]; exact hkm) (by rw [size_alloc]; omega) ?_; rw [HWL.out]; intro bb cap w7 hg7 hb7 hgr7 hat7; obtain ⟨hc7, hf7, ST7, BX7⟩ := KPW.out bb cap w7 hg7 hb7 hgr7 hat7; clear hg7 hb7 hgr7 hat7))
      all_goals
        obtain ⟨vi2, vd2, vss2, hst7⟩ := ST7
        have KST7 := Lib.hid hst7
        have KBX7 := Lib.hid BX7
        clear hst7 BX7 hc7 hf7 q4 q4b
        go_wp2_with fail
        exact ⟨⟨k + 1, _, _, _, _, _, by omega, by go_num, KST7.out, KBX7.out⟩, by simp [intOf] <;> omega⟩
    · obtain rfl : k = gs.length := by omega
      have hg1 := OK.out.g1
      obtain ⟨gw, cw2, hvw, hgw1, hgw2⟩ := own_slice ST.out.pl.wires.outer (by rw [List.length_map, ew_length]; omega)
      rw [List.length_map, ew_length] at hvw
      subst hvw
      have ST5 := Lib.hid (show St w wr W3.heap.size W2.heap.size n t vi' vd' (.slice (some ⟨gw, 0, none⟩) gs.length cw2) vws vss (ins.drop (cin gs gs.length)) (ds.drop (dat n t gs gs.length)) ((ew n t gs (toFs ins) (toFs ds) gs.length).map ofFs) (rowsN n fun j => ofFs (eo n t gs os (toFs ins) (toFs ds) 0 j)) from ST.out)
      have hcx := BX.out.cell (i := 1) rfl
      clear ST BX B2 B1 hk
      go_wp2_with fail
      clear hcx
      go_loopw [20, 80] (fun vo i wr => ∃ (q : Nat) (vss' : List Value), q ≤ os.length ∧ i = .int .i64 q ∧ St w wr W3.heap.size W2.heap.size n t vi' vd' (.slice (some ⟨gw, 0, none⟩) gs.length cw2) vws vss' (ins.drop (cin gs gs.length)) (ds.drop (dat n t gs gs.length)) ((ew n t gs (toFs ins) (toFs ds) gs.length).map ofFs) (rowsN n fun j => ofFs (eo n t gs os (toFs ins) (toFs ds) q j)) ∧ OwnNums wr w.heap.size vo (ofFs (outsTo gs os (toFs ins) q)) ∧ FarAll vo vss' ∧ FarAll vo vws) (fun _ i _ => os.length - (intOf i).toNat)
      case atStart => exact ⟨0, vss, Nat.zero_le _, rfl, ST5.out, OwnNums.nil _ _, fun _ _ _ => Far.nil_ _, fun _ _ _ => Far.nil_ _⟩
      case round =>
        obtain ⟨q, vss', hq, rfl, hst, hown, hf1, hf2⟩ := hrel
        clear ST5
        have ST5 := Lib.hid hst
        have KV := Lib.hid hown
        have F1 := Lib.hid hf1
        have F2 := Lib.hid hf2
        have hsz5 := hst.pl.bel.size
        have hgw5 : gw < wr.heap.size := (hst.pl.wires.outer.lt gw rfl).2
        clear hst hown hf1 hf2
        by_cases hlt2 : q < os.length
        · obtain ⟨A, c, hA, _, _, _, hu, hr⟩ := KO.out.below ST5.out.pl.bel
          injection hA with hA1 hA2 hA3
          subst hA1 hA3
          obtain ⟨b2, o2, z, rfl, hb2, hz, huz, hcz⟩ := ints_at hr hu hlt2
          have hzz := OK.out.outs z (List.mem_of_getElem? hz)
          obtain ⟨zn, rfl⟩ := Int.eq_ofNat_of_zero_le hzz.1
          have hzl : zn < gs.length := by omega
          have hc4 := ST5.out.box.cell (i := 4) rfl
          obtain ⟨x, hx, hox, hfx⟩ := ST5.out.wireAt (a := zn) (by rw [ew_length]; exact hzl)
          have hcw := ST5.out.pl.wires.cell hx
          have hsh := ew_shared (I := toFs ins) (D := toFs ds) OK.out.right hn2 (by omega) gs.length (Nat.le_refl _) zn hzl
          have C := Lib.hid (eOut_ok w wr W3.heap.size W2.heap.size n t vi' vd' (.slice (some ⟨gw, 0, none⟩) gs.length cw2) x vws vss' _ _ _ _ _ _ ST5.out hox hfx hsh ht4 (by omega) hn9 (fun j hj => by
            rw [ofFs_length, eo_length OK.out hn2 (by omega) hj q hq]
            have h1 := slen_le (gs := gs) hn9 gs.length
            have h2 : n * q ≤ 9 * 30 := Nat.mul_le_mul hn9 (by omega)
            omega))
          have HEO := Lib.hid (show (rowsN n fun j => ofFs (eo n t gs os (toFs ins) (toFs ds) q j) ++ ofFs (Croft.wr (ew n t gs (toFs ins) (toFs ds) gs.length) zn)) = rowsN n fun j => ofFs (eo n t gs os (toFs ins) (toFs ds) (q + 1) j) from rowsN_congr fun j _ => by
            rw [eo_succ hz, ofFs_append, Int.toNat_natCast])
          have HOT := Lib.hid (outsTo_next gs os (toFs ins) hz)
          rw [Int.toNat_natCast] at HOT
          have HOL := Lib.hid (show (ofFs (outsTo gs os (toFs ins) q)).length ≤ 30 by rw [ofFs_length]; unfold outsTo; rw [List.length_map, List.length_take]; omega)
          rw [HEO.out] at C
          obtain ⟨y, hy⟩ : ∃ y, y = ofF (co (cw gs (toFs ins) gs.length) zn) := ⟨_, rfl⟩
          have hyu : U64 y := by rw [hy]; exact U64.of_ofF _
          rw [← hy] at C HOT
          clear hr hu hz hb2 hzz hx hox hfx hsh hy HEO
          go_wp2_with (first | (go_at_call 108; refine C.out.mono ?_; rintro e W5 ⟨vss2, rfl, hst5, hk5⟩; have ST6 := Lib.hid hst5; have KV6 := Lib.hid (hk5.own _ _ _ KV.out F1.out); have hsz6 := hst5.pl.bel.size; clear hst5 hk5; try dsimp only) | (at_builtin; go_loud (refine wpList_push_num4 rfl _ _ (by rfl) w.heap.size _ _ y W5.heap.size 1 (by rfl) (KV6.out.1.alloc _) (by rfl) (new_cell _ _ _) hyu (by have := HOL.out; omega) (by rw [size_alloc]; omega) ?_)))
          intro v' w7 hown7 hb7 hgr7 hat7
          rw [← HOT.out] at hown7
          have STa := ST6.out.below ((Below.refl W5.heap.size W5).alloc (Nat.le_refl _) (.cells #[.int .u64 y] 67))
          have hat8 : v'.ownBlock = u20.ownBlock ∨ v'.ownBlock = some (W5.alloc (.cells #[.int .u64 y] 67)).heap.size := by rw [size_alloc]; exact hat7
          have K7 := Lib.hid hown7
          have G1 := Lib.hid (KV6.out.2.grow STa.pl.seen.under hat8)
          have G2 := Lib.hid (F2.out.grow STa.pl.wires.under hat8)
          have ST7 := Lib.hid (STa.apart (KV6.out.1.alloc _) (Nat.le_refl _) hgr7 KV6.out.2 F2.out)
          clear hown7 hb7 hgr7 hat7 hat8 STa
          go_wp2_with fail
          exact ⟨⟨q + 1, vss2, by omega, by go_num, ST7.out, K7.out, G1.out, G2.out⟩, by simp [intOf] <;> omega⟩
        · obtain rfl : q = os.length := by omega
          have hc5 := ST5.out.box.cell (i := 5) rfl
          rw [outsTo_full] at KV
          go_wp2_with fail
          go_quiet ((fail))
          go_wp2_with fail
          go_ret3
          exact HP.out _ _ ⟨_, _, vss', rfl, KV.out.drewN _, ST5.out.pl.seen.drewN _, F1.out, below_drewN ST5.out.pl.bel _⟩
end Go.Proofs.YtploomncapiloaaGreatDoor
