/- Package solve: the rank, and what solves: what the calls return. -/
import Derived.Test.YtoleaijjgaekcaaSolR
namespace Go.Proofs.Ytoleaijjgaekcaa
open Go.RowKit Croft

/-- what well-formed equations are -/
theorem solE_zero {rows : List (List Int)} {vars : Int} (h : solE rows vars = 0) : ∃ v : Nat, vars = (v : Int) ∧ 1 ≤ v ∧ v ≤ 20 ∧ rows.length ≤ 20 ∧ ∀ r ∈ rows, r.length = v + 1 := by
  unfold solE at h
  split at h
  · next hv =>
    split at h
    · cases h
    · next hl =>
      split at h
      · cases h
      · next ha =>
        obtain ⟨v, rfl⟩ := Int.eq_ofNat_of_zero_le (show 0 ≤ vars by omega)
        refine ⟨v, rfl, by omega, by omega, by omega, fun r hr => ?_⟩
        have hn : lenP v r = false := by
          cases hp : lenP v r with
          | false => rfl
          | true => exact absurd (List.any_eq_true.2 ⟨r, hr, hp⟩) ha
        unfold lenP at hn
        rw [bne_eq_false_iff_eq] at hn
        omega
  · cases h
theorem sRank_bad (va : Value) (rows : List (List Int)) (vars : Int) (w : World) (h1 : IsNumss w va rows) (h : solE rows vars ≠ 0) :
    Calls Try.prog 18 #[va, .int .i64 vars] w fun e w' => e = .returned (.tuple #[.int .i64 0, .int .i64 (solE rows vars)]) ∧ Below w.heap.size w w' := by
  have KA := Lib.hid h1
  have hb : (solE rows vars != 0) = true := by rw [bne_iff_ne]; exact h
  clear h1 h
  go_enter Try.func18, Try.ntmps18
  go_wp2_with fail
  refine (sSolCheck_any _ _ _ _ KA.out).mono ?_
  rintro e w' ⟨rfl, hb⟩
  have BEL := Lib.hid hb
  clear hb
  try dsimp only
  go_wp2_with fail
  go_ret2
  exact ⟨rfl, BEL.out⟩
theorem sRank_ok (va : Value) (rows0 : List (List Int)) (v : Nat) (w : World) (h1 : IsNumss w va rows0) (h0 : solE rows0 v = 0) (hv1 : 1 ≤ v) (hv20 : v ≤ 20) (hm20 : rows0.length ≤ 20) (hlen : ∀ r ∈ rows0, r.length = v + 1) :
    Calls Try.prog 18 #[va, .int .i64 v] w fun e w' => ∃ rows ls, e = .returned (.tuple #[.int .i64 (ls.length : Nat), .int .i64 0]) ∧ Red (mx rows0) (mx rows) rows0.length (v + 1) v ls ∧ Below w.heap.size w w' := by
  have KA := Lib.hid h1
  have H0 := Lib.hid h0
  have HLEN := Lib.hid hlen
  clear h1 h0 hlen
  go_enter Try.func18, Try.ntmps18
  go_wp2_with fail
  refine (sSolCheck_any _ _ _ _ KA.out).mono ?_
  rintro e W1 ⟨rfl, hb⟩
  rw [H0.out]
  have BEL := Lib.hid hb
  have KA1 := Lib.hid (KA.out.below hb)
  clear hb
  try dsimp only
  go_wp2_with fail
  refine (reduced_ok _ rows0 v rows0.length _ KA1.out rfl hm20 hv1 hv20 HLEN.out).mono ?_
  rintro e W2 ⟨vm, vl, vs, rows, ls, rfl, hg, hl, hrm, hrl, hred, hnr, hb⟩
  have RED := Lib.hid hred
  have B2 := Lib.hid (below_trans BEL.out hb BEL.out.size)
  have hlm := hred.len
  obtain ⟨Al, cl, hvl, _, _⟩ := own_form hl.1
  rw [nats_length] at hvl
  subst hvl
  clear hg hl hrm hrl hred hnr hb
  try dsimp only
  go_wp2_with fail
  go_ret2
  exact ⟨rows, ls, rfl, RED.out, B2.out⟩
theorem slice_rest_run (A : Option Addr) (m c lo : Nat) (h1 : lo ≤ m) (W : World) :
    (Instr.sliceAt 22 (.slice A m c) (some (.int .i64 (lo : Int))) none none).run Try.prog W = .ok (.slice (if c = lo then A else A.map (·.add (lo * 1))) (m - lo) (c - lo)) W := by
  have hU : Program.underlying Try.prog 22 = some (.slice (Program.elem Try.prog 22)) := by kernel_rfl
  have hs : ∀ W, (sizeOf (Program.elem Try.prog 22)).run Try.prog W = .ok 1 W := fun W => by kernel_rfl
  rw [run_sliceAt_slice _ _ _ _ _ _ hU, run_slice_l W _ A m c hU .i64 _ (by omega) (by omega), hs]
  simp [Result.andThen, sliced]
theorem IsNumss.rest {w : World} {A : Option Addr} {n c : Nat} {rows : List (List Int)} (h : IsNumss w (.slice A n c) rows) (lo : Nat) (h1 : lo ≤ rows.length) : IsNumss w (.slice (if c = lo then A else A.map (·.add (lo * 1))) (n - lo) (c - lo)) (rows.drop lo) := by
  obtain ⟨A1, c1, vs, e1, e2, e3, e4, e5, e6⟩ := h
  injection e1 with e1a e1b e1c
  subst e1a e1b e1c
  have hl : (rows.drop lo).length = rows.length - lo := by simp
  refine ⟨_, _, vs.drop lo, by rw [hl], by rw [hl]; omega, by omega, by rw [hl]; omega, ?_, ?_⟩
  · rcases Nat.lt_or_ge lo rows.length with hlt | hge
    · obtain ⟨b, o, rfl, hb, hc⟩ := e5.at_ (j := lo) (by rw [e6.1]; exact hlt)
      rw [if_neg (by omega)]
      refine .inr ⟨b, o + lo, by simp [add_addr], hb, fun j hj => ?_⟩
      rw [List.length_drop] at hj
      rw [Nat.add_assoc, hc _ (by omega), List.getElem?_drop]
    · exact .inl (List.drop_eq_nil_of_le (by rw [e6.1]; exact hge))
  · refine ⟨by rw [List.length_drop, List.length_drop, e6.1], fun i x r hx hr => ?_⟩
    rw [List.getElem?_drop] at hx hr
    exact e6.2 _ x r hx hr
end Go.Proofs.Ytoleaijjgaekcaa
