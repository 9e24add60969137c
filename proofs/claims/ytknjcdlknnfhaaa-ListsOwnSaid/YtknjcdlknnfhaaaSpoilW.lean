/- Numbers copied; numbers overwritten, up to the capacity. -/
import Derived.Test.YtknjcdlknnfhaaaEngU
namespace Go.Proofs.Ytknjcdlknnfhaaa
open Go.RowKit Croft

set_option maxRecDepth 100000 in
theorem sp_slice (A : Option Addr) (m c hi : Nat) (h2 : hi ≤ c) (W : World) :
    (Instr.sliceAt 26 (.slice A m c) none (some (.int .i64 (hi : Int))) none).run Try.prog W = .ok (.slice A hi c) W := by
  have hU : Program.underlying Try.prog 26 = some (.slice (Program.elem Try.prog 26)) := by kernel_rfl
  have hs : ∀ W, (sizeOf (Program.elem Try.prog 26)).run Try.prog W = .ok 1 W := fun W => by kernel_rfl
  rw [run_sliceAt_slice _ _ _ _ _ _ hU, run_slice_h W _ A m c hU .i64 _ (by omega) (by omega), hs]
  simp only [Result.andThen, sliced, Nat.zero_mul, Nat.sub_zero, Int.toNat_natCast]
  congr 2
  split
  · rfl
  · cases A with
    | none => rfl
    | some a =>
      obtain ⟨b, o, s⟩ := a
      simp [Addr.add]
set_option maxRecDepth 100000 in
theorem cl_own (v : Value) (l : List Int) (base : Nat) (w : World) (h1 : OwnNums w base v l) :
    Calls Try.prog 19 #[v] w fun e w' => ∃ v, e = .returned v ∧ OwnNums w' w.heap.size v l ∧ Below w.heap.size w w' := by
  have HO := Lib.hid h1
  rcases h1.1.2 with ⟨rfl, h0⟩ | ⟨g, cap, cur, rfl, hb, hg, hn, hc, hs, ht⟩
  · have hl0 : l = [] := List.length_eq_zero_iff.1 h0
    subst hl0
    have hnil : ∀ W, (binOp .eql 26 (.slice none 0 0) (.slice none 0 0)).run Try.prog W = .ok (.bool true) W := fun W => Lib.run_eql_slice_nil W _ _ _ _ _ _ _ Try.underlying26
    go_enter Try.func19, Try.ntmps19
    go_wp2_with fail
    go_ret
    exact ⟨_, rfl, OwnNums.nil _ _, Below.refl _ _⟩
  · have KA := Lib.hid h1.is
    have KO := Lib.hid (lit_own w w.heap.size [] (by simp) (by simp) (Nat.le_refl _))
    have hl := h1.2.1
    have hnil : ∀ W, (binOp .eql 26 (.slice (some ⟨g, 0, none⟩) l.length cap) (.slice none 0 0)).run Try.prog W = .ok (.bool false) W := fun W => Lib.run_eql_slice_nil W _ _ _ _ _ _ _ Try.underlying26
    clear hs ht h1 hb hg
    go_enter Try.func19, Try.ntmps19
    go_wp2_with (at_builtin; go_loud (refine wpList_join rfl _ _ rfl w.heap.size _ _ [] l rfl KO.out rfl (KA.out.below ((Below.refl _ _).alloc (Nat.le_refl _) _)) (by simp; omega) (by rw [size_alloc]; omega) ?_))
    intro v' w' ho hb
    have K := Lib.hid (show OwnNums w' w.heap.size v' l from ho)
    have B := Lib.hid (((Below.refl w.heap.size w).alloc (Nat.le_refl _) (.cells (u64s []).toArray 39)).trans hb)
    clear ho hb
    go_wp2_with fail
    go_ret
    exact ⟨_, rfl, K.out, B.out⟩
/-- all of a row is overwritten: nothing but its own block turns -/
theorem spoil_any (v : Value) (l : List Int) (base : Nat) (w : World) (h1 : OwnNums w base v l) :
    Calls Try.prog 21 #[v, .int .u64 9] w fun e w' => e = .returned (.tuple #[]) ∧ w.grownBy w' v.ownBlock ∧ Below base w w' := by
  have hone : OwnNums w base v l := h1
  rcases h1.1.2 with ⟨rfl, h0⟩ | ⟨g, cap, cur, rfl, hb, hg, hn, hc, hs, ht⟩
  · have hsl := sp_slice none 0 0 0 (Nat.le_refl _)
    go_enter Try.func21, Try.ntmps21
    go_wp2_with fail
    go_loopw [11] (fun i wr => i = .int .i64 0 ∧ wr = w) (fun _ _ => 0)
    case atStart => exact ⟨rfl, rfl⟩
    case round =>
      obtain ⟨rfl, rfl⟩ := hrel
      go_wp2_with fail
      refine bodyPost_end (v := .tuple #[]) (by kernel_rfl) rfl ?_
      exact ⟨rfl, ⟨rfl, rfl, rfl, Nat.le_refl _, fun _ _ _ => rfl⟩, Below.refl _ _⟩
  · have hcb : cur.size = cap := by rw [hs, Nat.mul_one]
    have BX0 := Lib.hid (show Box w g 39 cur.toList by unfold Box; rw [hg])
    have HB := Lib.hid hb
    have hgs := (Array.getElem?_eq_some_iff.1 hg).1
    have hbs : base ≤ w.heap.size := by omega
    have hsl := sp_slice (some ⟨g, 0, none⟩) l.length cap cap (Nat.le_refl _)
    have hcm : cap ≤ 9223372036854775807 := by unfold maxLen at hc; exact hc
    have HCL := Lib.hid (show cur.toList.length = cap by rw [Array.length_toList]; exact hcb)
    clear h1 hone ht hs hcb hg
    go_enter Try.func21, Try.ntmps21
    go_wp2_with fail
    go_loopw [11] (fun i wr => ∃ (k : Nat) (cs : List Value), k ≤ cap ∧ i = .int .i64 k ∧ cs.length = cap ∧ Box wr g 39 cs ∧ w.grownBy wr (some g)) (fun i _ => cap - (intOf i).toNat)
    case atStart => exact ⟨0, _, Nat.zero_le _, rfl, HCL.out, BX0.out, ⟨rfl, rfl, rfl, Nat.le_refl _, fun _ _ _ => rfl⟩⟩
    case round =>
      obtain ⟨k, cs, hk, rfl, hcl, hbx, hgr⟩ := hrel
      have BX := Lib.hid hbx
      have HG := Lib.hid hgr
      have HCS := Lib.hid hcl
      by_cases hlt : k < cap
      · have hce := hbx.cell (i := k) (v := cs[k]'(by omega)) (List.getElem?_eq_getElem (by omega))
        have hfz := hbx.frozen k
        clear hbx hgr
        go_wp2_with fail
        exact ⟨⟨k + 1, cs.set k (.int .u64 9), by omega, by go_num, by rw [List.length_set]; exact HCS.out, BX.out.set k _, HG.out.trans (set_grown wr g k (.int .u64 9))⟩, by simp [intOf] <;> omega⟩
      · obtain rfl : k = cap := by omega
        clear hbx hgr hcl
        go_wp2_with fail
        refine bodyPost_end (v := .tuple #[]) (by kernel_rfl) rfl ?_
        exact ⟨rfl, HG.out, (Below.refl base w).grown HG.out hbs (fun q hq => by injection hq with hq; omega)⟩
/-- rows of which the first so many are spoilt -/
def RowsLeft (w : World) (base : Nat) (vg : Value) (vgs : List Value) (rows : List (List Int)) (k : Nat) : Prop :=
  w.ownsRow base 26 1 vg rows.length vgs ∧ ∀ (i : Nat) (x : Value) (r : List Int), k ≤ i → vgs[i]? = some x → rows[i]? = some r → OwnNums w base x r
theorem RowsLeft.start {w : World} {base : Nat} {vg : Value} {vgs : List Value} {rows : List (List Int)} (h : Grid w base vg vgs rows) : RowsLeft w base vg vgs rows 0 := ⟨h.outer, fun i x r _ => h.row i x r⟩
theorem RowsLeft.other {w w' : World} {base : Nat} {vg u : Value} {vgs : List Value} {rows : List (List Int)} {k b : Nat} {zs : List Int} (h : RowsLeft w base vg vgs rows k) (hu : OwnNums w b u zs) (hg : w.grownBy w' u.ownBlock) (hf : ∀ (i : Nat) (x : Value) (c : Nat), vgs[i]? = some x → x.ownBlock = some c → u.ownBlock ≠ some c) : RowsLeft w' base vg vgs rows k := by
  refine ⟨h.1.kept hg ?_, fun i x r hi hx hr => (h.2 i x r hi hx hr).kept hg ?_⟩
  · cases hc : vg.ownBlock with
    | none => exact .inl rfl
    | some c => exact .inr fun e => kinds_apart h.1 hu.1 (by decide) hc e.symm
  · cases hc : x.ownBlock with
    | none => exact .inl rfl
    | some c => exact .inr fun e => hf i x c hx hc e.symm
theorem RowsLeft.next {w w' : World} {base : Nat} {vg x : Value} {vgs : List Value} {rows : List (List Int)} {k : Nat} {r : List Int} (h : RowsLeft w base vg vgs rows k) (hx : vgs[k]? = some x) (hr : rows[k]? = some r) (hap : ∀ (i j : Nat) (x y : Value) (b : Nat), vgs[i]? = some x → vgs[j]? = some y → x.ownBlock = some b → y.ownBlock = some b → i = j) (hg : w.grownBy w' x.ownBlock) : RowsLeft w' base vg vgs rows (k + 1) := by
  have ho := h.2 k x r (Nat.le_refl _) hx hr
  refine ⟨h.1.kept hg ?_, fun i y s hi hy hs => (h.2 i y s (by omega) hy hs).kept hg ?_⟩
  · cases hc : vg.ownBlock with
    | none => exact .inl rfl
    | some c => exact .inr fun e => kinds_apart h.1 ho.1 (by decide) hc e.symm
  · cases hc : y.ownBlock with
    | none => exact .inl rfl
    | some c => exact .inr fun e => absurd (hap k i x y c hx hy e.symm hc) (by omega)
theorem RowsLeft.cell {w : World} {base g n c : Nat} {vgs : List Value} {rows : List (List Int)} {k : Nat} {x : Value} (h : RowsLeft w base (.slice (some ⟨g, 0, none⟩) n c) vgs rows k) (hn : rows.length = n) (hx : vgs[k]? = some x) (hk : k < n) : w.cell? ⟨g, k, none⟩ = some x := by
  subst hn
  have h2 := h.1.cellAt k (by omega)
  rw [hx] at h2
  exact h2
end Go.Proofs.Ytknjcdlknnfhaaa
