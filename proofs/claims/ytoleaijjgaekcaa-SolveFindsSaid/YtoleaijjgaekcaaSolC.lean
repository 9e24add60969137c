/- Equations: are they well formed? What both checks return. -/
import Derived.Test.YtoleaijjgaekcaaSolK
import Derived.Test.YtoleaijjgaekcaaGateW
import Derived.Test.YtoleaijjgaekcaaBox
namespace Go.Proofs.Ytoleaijjgaekcaa
open Go.RowKit Croft

def lenP (vars : Int) (r : List Int) : Bool := ((r.length : Int) != vars + 1)
def solE (rows : List (List Int)) (vars : Int) : Int := if 1 ≤ vars ∧ vars ≤ 20 then if (rows.length : Int) > 20 then 2 else if rows.any (lenP vars) = true then 5 else 0 else 1
theorem lenP_any (x : Value) (r : List Int) (vars : Int) (b : Nat) (w : World) (h1 : IsNums w x r) (hb : w.cell? ⟨b, 0, none⟩ = some (.int .i64 vars)) (hv : 1 ≤ vars ∧ vars ≤ 20) :
    Calls Try.prog 134 #[x, .pointer (some ⟨b, 0, none⟩)] w fun e w' => e = .returned (.bool (lenP vars r)) ∧ w = w' := by
  obtain ⟨A1, c1, rfl, hc1, hm1, hl1, hu1, hr1⟩ := h1
  obtain ⟨hv1, hv2⟩ := hv
  have HL := Lib.hid (show lenP vars r = ((r.length : Int) != vars + 1) from rfl)
  clear hu1 hr1 hm1
  go_enter Try.func134, Try.ntmps134
  go_wp2_with fail
  go_ret
  exact ⟨by rw [HL.out]; rfl, rfl⟩
theorem idxRows_any (vars : Int) (b : Nat) (va : Value) (rows : List (List Int)) (w : World) (h1 : IsNumss w va rows) (hb : w.cell? ⟨b, 0, none⟩ = some (.int .i64 vars)) (hv : 1 ≤ vars ∧ vars ≤ 20) :
    Calls Try.prog 158 #[va, .func (.func 134) #[] #[.pointer (some ⟨b, 0, none⟩)]] w fun e w' => ∃ r : Int, e = .returned (.int .i64 r) ∧ ((0 ≤ r) ↔ rows.any (lenP vars) = true) ∧ w = w' := by
  have hcf : ∀ (x y : Value) (W : World), (callFunc 134 #[x, y]).run Try.prog W = .ok (.enter 134 #[x, y]) W := fun x y W => by kernel_rfl
  obtain ⟨A1, c1, vs, rfl, hc1, hm1, hl1, hr1, ha1⟩ := h1
  have HR := Lib.hid hr1
  have HA := Lib.hid ha1
  have HB := Lib.hid hb
  have HV := Lib.hid hv
  clear hr1 ha1 hm1 hb hv
  go_enter Try.func158, Try.ntmps158
  go_wp2_with fail
  go_loop [8] (fun i => ∃ k : Nat, k ≤ rows.length ∧ i = .int .i64 k ∧ (rows.take k).any (lenP vars) = false) (fun i => rows.length - (intOf i).toNat)
  case atStart => exact ⟨0, Nat.zero_le _, rfl, by simp⟩
  case round =>
    obtain ⟨k, hk, rfl, hno⟩ := hrel
    have HN := Lib.hid hno
    clear hno
    by_cases hlt : k < rows.length
    · obtain ⟨b1, o1, x, r, rfl, hb1, hx, hgr, hn, hc⟩ := numss_at HR.out HA.out hlt
      have HZ := Lib.hid hgr
      have HX := Lib.hid hn
      clear hgr hx hb1 hn
      cases hp : lenP vars r with
      | true =>
        have HP := Lib.hid hp
        clear hp
        go_wp2_with fail
        refine (lenP_any _ r vars b _ HX.out HB.out HV.out).mono ?_
        rintro e w' ⟨rfl, rfl⟩
        rw [HP.out]
        try dsimp only
        go_wp2_with fail
        go_ret
        refine ⟨_, rfl, ⟨fun _ => ?_, fun _ => by omega⟩, rfl⟩
        rw [List.any_eq_true]
        exact ⟨r, List.mem_of_getElem? HZ.out, HP.out⟩
      | false =>
        have HP := Lib.hid hp
        clear hp
        go_wp2_with fail
        refine (lenP_any _ r vars b _ HX.out HB.out HV.out).mono ?_
        rintro e w' ⟨rfl, rfl⟩
        rw [HP.out]
        try dsimp only
        go_wp2_with fail
        refine ⟨⟨k + 1, by omega, by go_num, ?_⟩, by simp [intOf] <;> omega⟩
        rw [List.take_add_one, HZ.out, List.any_append, HN.out]
        simp [HP.out]
    · obtain rfl : k = rows.length := by omega
      go_wp2_with fail
      go_ret
      refine ⟨_, rfl, ⟨fun h => by omega, fun h => ?_⟩, rfl⟩
      have := HN.out
      rw [List.take_length] at this
      have h' : rows.any (lenP vars) = true := by first | exact h | exact List.any_eq_true.2 h
      rw [h'] at this
      cases this
theorem hasRows_any (vars : Int) (b : Nat) (va : Value) (rows : List (List Int)) (w : World) (h1 : IsNumss w va rows) (hb : w.cell? ⟨b, 0, none⟩ = some (.int .i64 vars)) (hv : 1 ≤ vars ∧ vars ≤ 20) :
    Calls Try.prog 133 #[va, .func (.func 134) #[] #[.pointer (some ⟨b, 0, none⟩)]] w fun e w' => e = .returned (.bool (rows.any (lenP vars))) ∧ w = w' := by
  have C := Lib.hid (idxRows_any vars b va rows w h1 hb hv)
  clear h1 hb hv
  go_enter Try.func133, Try.ntmps133
  go_wp2_with fail
  refine C.out.mono ?_
  rintro e w' ⟨r, rfl, hr, rfl⟩
  cases ha : rows.any (lenP vars) with
  | true =>
    have h0 : r ≥ 0 := hr.2 ha
    have HA := Lib.hid ha
    clear hr ha
    try dsimp only
    go_wp2_with fail
    go_ret
    exact ⟨by rw [HA.out]; rfl, rfl⟩
  | false =>
    have h0 : ¬ r ≥ 0 := fun h => by have := hr.1 h; rw [ha] at this; cases this
    have HA := Lib.hid ha
    clear hr ha
    try dsimp only
    go_wp2_with fail
    go_ret
    exact ⟨by rw [HA.out]; rfl, rfl⟩
theorem sSolCheck_any (va : Value) (rows : List (List Int)) (vars : Int) (w : World) (h1 : IsNumss w va rows) :
    Calls Try.prog 76 #[va, .int .i64 vars] w fun e w' => e = .returned (.int .i64 (solE rows vars)) ∧ Below w.heap.size w w' := by
  have KA := Lib.hid h1
  obtain ⟨A1, c1, vs, rfl, hc1, hm1, hl1, hr1, ha1⟩ := h1
  have hb := (Below.refl w.heap.size w).alloc (Nat.le_refl _) (.cells #[.int .i64 vars] 3)
  have BEL := Lib.hid hb
  have KA1 := Lib.hid (KA.out.below hb)
  have HB := Lib.hid (new_cell w (.int .i64 vars) 3)
  clear hr1 ha1 hm1 hb
  by_cases hv : 1 ≤ vars ∧ vars ≤ 20
  · have HV := Lib.hid hv
    obtain ⟨hv1, hv2⟩ := hv
    have hd1 : decide (vars < 1) = false := by simp; omega
    have hd2 : decide (vars > 20) = false := by simp; omega
    by_cases hl : (rows.length : Int) > 20
    · have HE := Lib.hid (show solE rows vars = 2 by unfold solE; rw [if_pos HV.out, if_pos hl])
      go_enter Try.func76, Try.ntmps76
      go_wp2_with fail
      go_ret
      exact ⟨by rw [HE.out]; rfl, BEL.out⟩
    · have hd3 : decide ((rows.length : Int) > 20) = false := by simpa using hl
      cases ha : rows.any (lenP vars) with
      | true =>
        have HE := Lib.hid (show solE rows vars = 5 by unfold solE; rw [if_pos HV.out, if_neg hl, if_pos ha])
        have HA := Lib.hid ha
        clear hl ha
        go_enter Try.func76, Try.ntmps76
        go_wp2_with fail
        refine (hasRows_any vars w.heap.size _ rows _ KA1.out HB.out HV.out).mono ?_
        rintro e w' ⟨rfl, rfl⟩
        rw [HA.out]
        try dsimp only
        go_wp2_with fail
        go_ret
        exact ⟨by rw [HE.out]; rfl, BEL.out⟩
      | false =>
        have HE := Lib.hid (show solE rows vars = 0 by unfold solE; rw [if_pos HV.out, if_neg hl, if_neg (by rw [ha]; simp)])
        have HA := Lib.hid ha
        clear hl ha
        go_enter Try.func76, Try.ntmps76
        go_wp2_with fail
        refine (hasRows_any vars w.heap.size _ rows _ KA1.out HB.out HV.out).mono ?_
        rintro e w' ⟨rfl, rfl⟩
        rw [HA.out]
        try dsimp only
        go_wp2_with fail
        go_ret
        exact ⟨by rw [HE.out]; rfl, BEL.out⟩
  · have HE := Lib.hid (show solE rows vars = 1 by unfold solE; rw [if_neg hv])
    by_cases h1 : vars < 1
    · clear hv
      go_enter Try.func76, Try.ntmps76
      go_wp2_with fail
      go_ret
      exact ⟨by rw [HE.out]; rfl, BEL.out⟩
    · have h2 : vars > 20 := by omega
      have hd1 : decide (vars < 1) = false := by simpa using h1
      clear hv
      go_enter Try.func76, Try.ntmps76
      go_wp2_with fail
      go_ret
      exact ⟨by rw [HE.out]; rfl, BEL.out⟩
end Go.Proofs.Ytoleaijjgaekcaa
