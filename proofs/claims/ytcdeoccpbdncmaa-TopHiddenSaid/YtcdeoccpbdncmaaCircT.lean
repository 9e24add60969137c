/- Circuits: small ones written out, and whether there is a product. -/
import Derived.Test.YtcdeoccpbdncmaaCircX
import Derived.Test.YtcdeoccpbdncmaaFill
namespace Go.Proofs.Ytcdeoccpbdncmaa
open Go.RowKit Croft

theorem flat_cell {w : World} {b : Nat} {t : TypeId} {cs : List Value} (h : Box w b t cs) : Cells w (some ⟨b, 0, none⟩) cs := by
  refine .inr ⟨b, 0, rfl, h.lt, fun j hj => ?_⟩
  rw [Nat.zero_add, List.getElem?_eq_getElem hj]
  exact h.cell (List.getElem?_eq_getElem hj)
theorem lit_gates (w : World) (gs : List Gt) (h : ∀ g ∈ gs, GateOk g) (hl : gs.length ≤ 1000) : IsGates (w.alloc (.cells (gcs gs).toArray 53)) (.slice (some ⟨w.heap.size, 0, none⟩) gs.length gs.length) gs :=
  ⟨_, _, rfl, Nat.le_refl _, by unfold maxLen; omega, by omega, h, flat_cell (Box.new _ _ _)⟩
theorem lit_ints (w : World) (zs : List Int) (h : ∀ z ∈ zs, I64 z) (hl : zs.length ≤ 1000) : IsInts (w.alloc (.cells (i64s zs).toArray 3)) (.slice (some ⟨w.heap.size, 0, none⟩) zs.length zs.length) zs :=
  ⟨_, _, rfl, Nat.le_refl _, by unfold maxLen; omega, by omega, h, flat_cell (Box.new _ _ _)⟩
def mulB (gs : List Gt) : Bool := gs.any fun g => g.kind == 5
theorem idxGates_any (g : Nat) (va : Value) (gs : List Gt) (w : World) (h1 : IsGates w va gs)
    (hg : ∀ (x : Gt) (W : World), Calls Try.prog g #[gV x] W fun e w' => e = .returned (.bool (x.kind == 5)) ∧ Below W.heap.size W w')
    (hcf : ∀ (x : Value) (W : World), (callFunc g #[x]).run Try.prog W = .ok (.enter g #[x]) W) :
    Calls Try.prog 87 #[va, .func (.func g) #[] #[]] w fun e w' => ∃ r, e = .returned (.int .i64 r) ∧ ((0 ≤ r) ↔ mulB gs = true) ∧ Below w.heap.size w w' := by
  have HG := Lib.hid hg
  have KG := Lib.hid h1
  obtain ⟨A1, c1, rfl, hc1, hm1, hl1, hu1, hr1⟩ := h1
  clear hu1 hr1 hm1 hg
  go_enter Try.func87, Try.ntmps87
  go_wp2_with fail
  go_loopw [8] (fun i wr => ∃ k : Nat, k ≤ gs.length ∧ i = .int .i64 k ∧ mulB (gs.take k) = false ∧ Below w.heap.size w wr) (fun i _ => gs.length - (intOf i).toNat)
  case atStart => exact ⟨0, Nat.zero_le _, rfl, by simp [mulB], Below.refl _ _⟩
  case round =>
    obtain ⟨k, hk, rfl, hno, hbel⟩ := hrel
    have HN := Lib.hid hno
    have BEL := Lib.hid hbel
    clear hno hbel
    by_cases hlt : k < gs.length
    · obtain ⟨A, c, hA, _, _, _, hu, hr⟩ := (KG.out.below BEL.out)
      injection hA with hA1 hA2 hA3
      subst hA1 hA3
      obtain ⟨b1', o1, x, rfl, hb1, hgk, hgo, ha1, ha2, ha3, ha4⟩ := gate_at hr hu hlt
      have HX := Lib.hid hgk
      clear hgk hb1 hr hu
      cases hp : x.kind == 5 with
      | true =>
        have HP := Lib.hid hp
        clear hp
        go_wp2_with fail
        refine (HG.out x _).mono ?_
        rintro e w' ⟨rfl, hb⟩
        rw [HP.out]
        have B2 := Lib.hid (below_trans BEL.out hb BEL.out.size)
        clear hb
        try dsimp only
        go_wp2_with fail
        go_ret
        refine ⟨_, rfl, ⟨fun _ => ?_, fun _ => by omega⟩, B2.out⟩
        unfold mulB
        rw [List.any_eq_true]
        exact ⟨x, List.mem_of_getElem? HX.out, HP.out⟩
      | false =>
        have HP := Lib.hid hp
        clear hp
        go_wp2_with fail
        refine (HG.out x _).mono ?_
        rintro e w' ⟨rfl, hb⟩
        rw [HP.out]
        have B2 := Lib.hid (below_trans BEL.out hb BEL.out.size)
        clear hb
        try dsimp only
        go_wp2_with fail
        refine ⟨⟨k + 1, by omega, by go_num, ?_, B2.out⟩, by simp [intOf] <;> omega⟩
        have h1 := HN.out
        unfold mulB at h1 ⊢
        rw [List.take_add_one, HX.out, List.any_append, h1]
        simpa using HP.out
    · obtain rfl : k = gs.length := by omega
      go_wp2_with fail
      go_ret
      refine ⟨_, rfl, ⟨fun h => by omega, fun h => ?_⟩, BEL.out⟩
      have := HN.out
      rw [List.take_length, h] at this
      cases this
theorem hasGates_any (g : Nat) (va : Value) (gs : List Gt) (w : World) (h1 : IsGates w va gs)
    (hg : ∀ (x : Gt) (W : World), Calls Try.prog g #[gV x] W fun e w' => e = .returned (.bool (x.kind == 5)) ∧ Below W.heap.size W w')
    (hcf : ∀ (x : Value) (W : World), (callFunc g #[x]).run Try.prog W = .ok (.enter g #[x]) W) :
    Calls Try.prog 31 #[va, .func (.func g) #[] #[]] w fun e w' => e = .returned (.bool (mulB gs)) ∧ Below w.heap.size w w' := by
  have C := Lib.hid (idxGates_any g va gs w h1 hg hcf)
  clear h1 hg
  go_enter Try.func31, Try.ntmps31
  go_wp2_with fail
  refine C.out.mono ?_
  rintro e w' ⟨r, rfl, hr, hb⟩
  have BEL := Lib.hid hb
  clear hb
  cases ha : mulB gs with
  | true =>
    have h0 : r ≥ 0 := hr.2 ha
    have HA := Lib.hid ha
    clear hr ha
    try dsimp only
    go_wp2_with fail
    go_ret
    exact ⟨by rw [HA.out]; rfl, BEL.out⟩
  | false =>
    have h0 : ¬ r ≥ 0 := fun h => by have := hr.1 h; rw [ha] at this; cases this
    have HA := Lib.hid ha
    clear hr ha
    try dsimp only
    go_wp2_with fail
    go_ret
    exact ⟨by rw [HA.out]; rfl, BEL.out⟩
def tinyG : List Gt := [⟨1, 1, 0, 0⟩, ⟨1, 2, 0, 0⟩, ⟨5, 0, 1, 0⟩, ⟨2, 0, 0, 7⟩, ⟨3, 2, 3, 0⟩]
theorem gcs_tiny : (gcs tinyG) = [.int .i64 1, .int .i64 1, .int .i64 0, .int .u64 0, .int .i64 1, .int .i64 2, .int .i64 0, .int .u64 0, .int .i64 5, .int .i64 0, .int .i64 1, .int .u64 0, .int .i64 2, .int .i64 0, .int .i64 0, .int .u64 7, .int .i64 3, .int .i64 2, .int .i64 3, .int .u64 0] := rfl
theorem kTiny_any (w : World) : Calls Try.prog 109 #[] w fun e w' => ∃ v, e = .returned v ∧ IsCirc w' v tinyG [4] ∧ Below w.heap.size w w' := by
  have k1 := (lit_gates (w.alloc (.cells #[.slice (some ⟨w.heap.size + 1, 0, none⟩) 5 5, .slice (some ⟨w.heap.size + 1 + 1, 0, none⟩) 1 1] 25)) tinyG (by unfold tinyG GateOk I64 U64; simp) (by simp [tinyG])).below ((Below.refl _ _).alloc (Nat.le_refl _) (.cells #[.int .i64 4] 3))
  have k2 := lit_ints ((w.alloc (.cells #[.slice (some ⟨w.heap.size + 1, 0, none⟩) 5 5, .slice (some ⟨w.heap.size + 1 + 1, 0, none⟩) 1 1] 25)).alloc (.cells (gcs tinyG).toArray 53)) [4] (by unfold I64; simp) (by simp)
  have kb := (((Below.refl w.heap.size w).alloc (Nat.le_refl _) (.cells #[.slice (some ⟨w.heap.size + 1, 0, none⟩) 5 5, .slice (some ⟨w.heap.size + 1 + 1, 0, none⟩) 1 1] 25)).alloc (by simp) (.cells (gcs tinyG).toArray 53)).alloc (by simp; omega) (.cells #[.int .i64 4] 3)
  rw [gcs_tiny, size_alloc] at k1
  rw [gcs_tiny, size_alloc, size_alloc] at k2
  rw [gcs_tiny] at kb
  have K1 := Lib.hid k1
  have K2 := Lib.hid k2
  have KB := Lib.hid kb
  clear k1 k2 kb
  go_enter Try.func109, Try.ntmps109
  go_wp2_with fail
  exact bodyPost_ret (v := .agg #[.slice (some ⟨w.heap.size + 1, 0, none⟩) 5 5, .slice (some ⟨w.heap.size + 1 + 1, 0, none⟩) 1 1]) (by simp [results, Try.results109, go_sem]) rfl ⟨_, rfl, ⟨_, _, rfl, K1.out, K2.out⟩, KB.out⟩
end Go.Proofs.Ytcdeoccpbdncmaa
