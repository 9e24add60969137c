/- Circuits: what Inputs and value return. -/
import Derived.Test.YtljpangeodgbkaaDoorCircW
import Derived.Test.YtljpangeodgbkaaDoorThroughW
import Derived.Test.YtljpangeodgbkaaDoorFill
namespace Go.Proofs.YtljpangeodgbkaaDoor
open Go.RowKit Croft

def IntsRes (w : World) (e : Ending) (w' : World) (l : List Int) (err : Int) : Prop :=
  ∃ v, e = .returned (.tuple #[v, .int .i64 err]) ∧ OwnInts w' w.heap.size v l ∧ Below w.heap.size w w'
def inputsL (gs : List Gt) (os : List Int) : List Int := if circE gs os = 0 then whoseL gs else []
theorem whoseL_le (gs : List Gt) : (whoseL gs).length ≤ gs.length := by
  unfold whoseL
  rw [List.length_map]
  exact List.length_filter_le _ _
set_option maxRecDepth 100000 in
theorem cInputs_any (v : Value) (gs : List Gt) (os : List Int) (w : World) (h : IsCirc w v gs os) :
    Calls Tryd.prog 13 #[v] w fun e w' => IntsRes w e w' (inputsL gs os) (circE gs os) := by
  have KC := Lib.hid h
  obtain ⟨vg, vo, rfl, hg, ho⟩ := h
  have KG := Lib.hid hg
  obtain ⟨A1, c1, rfl, hc1, hm1, hl1, hu1, hr1⟩ := hg
  obtain ⟨A2, c2, rfl, hc2, hm2, hl2, hu2, hr2⟩ := ho
  have BB := Lib.hid ((Below.refl w.heap.size w).alloc (Nat.le_refl _) (.cells #[.slice A1 gs.length c1, .slice A2 os.length c2] 25))
  have BX := Lib.hid (Box.new w 25 [.slice A1 gs.length c1, .slice A2 os.length c2])
  have HU := Lib.hid hu1
  clear hu1 hr1 hm1 hu2 hr2 hm2
  suffices hgoal : ∀ Post : Ending → World → Prop, (∀ e w', IntsRes w e w' (inputsL gs os) (circE gs os) → Post e w') → Calls Tryd.prog 13 #[.agg #[.slice A1 gs.length c1, .slice A2 os.length c2]] w Post from hgoal _ fun e w' h => h
  intro Post hp
  have HP := Lib.hid hp
  clear hp
  by_cases h0 : circE gs os = 0
  · have HE := Lib.hid h0
    have HI := Lib.hid (show inputsL gs os = whoseL gs from if_pos h0)
    clear h0
    go_enter Tryd.func13, Tryd.ntmps13
    go_wp2_with fail
    refine (cCheck_any _ gs os _ (KC.out.below BB.out)).mono ?_
    rintro e W1 ⟨rfl, hb⟩
    rw [HE.out]
    have B1 := Lib.hid (below_trans BB.out hb BB.out.size)
    have BX1 := Lib.hid (BX.out.below hb)
    clear hb
    try dsimp only
    have hc0 := BX1.out.cell (i := 0) rfl
    go_wp2_with fail
    go_loopw [5, 16] (fun v i wr => ∃ k : Nat, k ≤ gs.length ∧ i = .int .i64 k ∧ OwnInts wr W1.heap.size v (whoseL (gs.take k)) ∧ Below W1.heap.size W1 wr) (fun _ i _ => gs.length - (intOf i).toNat)
    case atStart => exact ⟨0, Nat.zero_le _, rfl, OwnInts.nil _ _, Below.refl _ _⟩
    case round =>
      obtain ⟨k, hk, rfl, hown, hbel⟩ := hrel
      have KO := Lib.hid hown
      have BEL := Lib.hid hbel
      have hsz := hbel.size
      clear hown hbel hc0
      by_cases hlt : k < gs.length
      · obtain ⟨A, c, hA, _, _, _, hu, hr⟩ := ((KG.out.below B1.out).below BEL.out)
        injection hA with hA1 hA2 hA3
        subst hA1 hA3
        obtain ⟨b1', o1, g, rfl, hb1, hgk, hgo, ha1, ha2, ha3, ha4⟩ := gate_at hr hu hlt
        have HGK := Lib.hid hgk
        have hga := hgo.2.1
        have HW := Lib.hid (whoseL_take hgk)
        have hwl : (whoseL (gs.take k)).length ≤ k := by have := whoseL_le (gs.take k); rw [List.length_take] at this; omega
        clear hr hu hgk hb1
        by_cases hk1 : g.kind = 1
        · have hkb : (g.kind == 1) = true := by rw [beq_iff_eq]; exact hk1
          have HK := Lib.hid hk1
          clear hk1
          go_wp2_with (at_builtin; go_loud (refine wpList_push_int rfl _ _ rfl W1.heap.size _ _ g.a (wr.heap.size + 1) 1 rfl ((KO.out.alloc _).alloc _) rfl (by rw [← size_alloc wr (.cells #[.int .i64 g.kind, .int .i64 g.a, .int .i64 g.b, .int .u64 g.n] 62)]; exact new_cell _ _ _) hga (by omega) (by rw [size_alloc, size_alloc]; omega) ?_))
          intro v' w5 hown' hbel'
          have K5 := Lib.hid hown'
          have B5 := Lib.hid (((BEL.out.alloc hsz (.cells #[.int .i64 g.kind, .int .i64 g.a, .int .i64 g.b, .int .u64 g.n] 62)).alloc (by rw [size_alloc]; omega) (.cells #[.int .i64 g.a] 3)).trans hbel')
          clear hown' hbel'
          go_wp2_with fail
          exact ⟨⟨k + 1, by omega, by go_num, by rw [HW.out, if_pos HK.out]; exact K5.out, B5.out⟩, by simp [intOf] <;> omega⟩
        · have hkb : (g.kind == 1) = false := by rw [beq_eq_false_iff_ne]; exact hk1
          have HK := Lib.hid hk1
          clear hk1
          go_wp2_with fail
          exact ⟨⟨k + 1, by omega, by go_num, by rw [HW.out, if_neg HK.out]; exact KO.out.alloc _, BEL.out.alloc hsz _⟩, by simp [intOf] <;> omega⟩
      · obtain rfl : k = gs.length := by omega
        go_wp2_with fail
        have h := KO.out
        rw [List.take_length] at h
        refine HP.out _ _ ?_
        rw [HE.out, HI.out]
        exact ⟨_, rfl, h.less B1.out.size, below_trans B1.out BEL.out B1.out.size⟩
  · have hb : (circE gs os != 0) = true := by rw [bne_iff_ne]; exact h0
    have HI := Lib.hid (show inputsL gs os = [] from if_neg h0)
    clear h0
    go_enter Tryd.func13, Tryd.ntmps13
    go_wp2_with fail
    refine (cCheck_any _ gs os _ (KC.out.below BB.out)).mono ?_
    rintro e W1 ⟨rfl, hb1⟩
    have B1 := Lib.hid (below_trans BB.out hb1 BB.out.size)
    clear hb1
    try dsimp only
    go_wp2_with fail
    refine HP.out _ _ ?_
    rw [HI.out]
    exact ⟨_, rfl, OwnInts.nil _ _, B1.out⟩
theorem IsNums.tail {w : World} {b o c : Nat} {x : Int} {zs : List Int} (h : IsNums w (.slice (some ⟨b, o, none⟩) (zs.length + 1) c) (x :: zs)) {A : Option Addr} (hA : A = some ⟨b, o + 1, none⟩ ∨ zs = []) : IsNums w (.slice A zs.length (c - 1)) zs := by
  obtain ⟨A1, c1, h1, h2, h3, h4, h5, h6⟩ := h
  injection h1 with h1a h1b h1c
  subst h1a h1c
  simp only [List.length_cons] at h2 h4
  refine ⟨A, c - 1, rfl, by omega, by omega, by omega, fun z hz => h5 z (by simp [hz]), ?_⟩
  rcases h6 with h6 | ⟨b', o', hbo, hb, hc⟩
  · simp [u64s] at h6
  · injection hbo with hbo
    injection hbo with h7 h8
    subst h7 h8
    rcases hA with rfl | rfl
    · refine .inr ⟨b, o + 1, rfl, hb, fun j hj => ?_⟩
      have := hc (j + 1) (by simp [u64s] at hj ⊢; omega)
      rw [Nat.add_assoc, Nat.add_comm 1 j, this]
      simp [u64s]
    · exact .inl rfl
/-- a number, and what is left -/
def ValRes (w : World) (e : Ending) (w' : World) (x : F) (vi : Value) (l l' : List Int) : Prop :=
  ∃ v, e = .returned (.tuple #[.int .u64 (ofF x), v]) ∧ (∀ W0, IsNums W0 vi l → IsNums W0 v l') ∧ Below w.heap.size w w'
theorem co_ofFs {l : List F} {k : Nat} {z : Int} (h : (ofFs l)[k]? = some z) : z = ofF (co l k) := by
  have h1 := co_toFs h
  rw [toFs_ofFs] at h1
  have hk : k < l.length := by have := (List.getElem?_eq_some_iff.1 h).1; rwa [ofFs_length] at this
  rw [ofFs_get (get_co hk)] at h
  exact (Option.some.inj h).symm
end Go.Proofs.YtljpangeodgbkaaDoor
namespace Go.Proofs.YtljpangeodgbkaaDoor
open Go.RowKit Croft

def runE (gs : List Gt) (os : List Int) (ins : List Int) : Int := if circE gs os = 0 then if ins.length = (whoseL gs).length then 0 else 5 else circE gs os
def runL (gs : List Gt) (os : List Int) (ins : List Int) : List Int := if runE gs os ins = 0 then ofFs (couts gs os (toFs ins)) else []
theorem drop_head (ins : List Int) (c : Nat) : co (toFs (ins.drop c)) 0 = co (toFs ins) c := by
  unfold co toFs
  simp [List.getD]
theorem drop_next (gs : List Gt) (ins : List Int) {k : Nat} {g : Gt} (h : gs[k]? = some g) : (if g.kind = 1 then (ins.drop (cin gs k)).drop 1 else ins.drop (cin gs k)) = ins.drop (cin gs (k + 1)) := by
  rw [cin_succ h]
  split
  · rw [List.drop_drop]
  · rfl
def outsTo (gs : List Gt) (os : List Int) (I : List F) (k : Nat) : List F := (os.take k).map fun o => co (cw gs I gs.length) o.toNat
theorem outsTo_next (gs : List Gt) (os : List Int) (I : List F) {k : Nat} {o : Int} (h : os[k]? = some o) : ofFs (outsTo gs os I (k + 1)) = ofFs (outsTo gs os I k) ++ [ofF (co (cw gs I gs.length) o.toNat)] := by
  unfold outsTo
  rw [List.take_add_one, h]
  simp [ofFs]
theorem outsTo_full (gs : List Gt) (os : List Int) (I : List F) : outsTo gs os I os.length = couts gs os I := by unfold outsTo couts; rw [List.take_length]
end Go.Proofs.YtljpangeodgbkaaDoor
namespace Go.Proofs.YtljpangeodgbkaaDoor
open Go.RowKit Croft

theorem flat_cell {w : World} {b : Nat} {t : TypeId} {cs : List Value} (h : Box w b t cs) : Cells w (some ⟨b, 0, none⟩) cs := by
  refine .inr ⟨b, 0, rfl, h.lt, fun j hj => ?_⟩
  rw [Nat.zero_add, List.getElem?_eq_getElem hj]
  exact h.cell (List.getElem?_eq_getElem hj)
theorem lit_gates (w : World) (gs : List Gt) (h : ∀ g ∈ gs, GateOk g) (hl : gs.length ≤ 1000) : IsGates (w.alloc (.cells (gcs gs).toArray 62)) (.slice (some ⟨w.heap.size, 0, none⟩) gs.length gs.length) gs :=
  ⟨_, _, rfl, Nat.le_refl _, by unfold maxLen; omega, by omega, h, flat_cell (Box.new _ _ _)⟩
theorem lit_ints (w : World) (zs : List Int) (h : ∀ z ∈ zs, I64 z) (hl : zs.length ≤ 1000) : IsInts (w.alloc (.cells (i64s zs).toArray 3)) (.slice (some ⟨w.heap.size, 0, none⟩) zs.length zs.length) zs :=
  ⟨_, _, rfl, Nat.le_refl _, by unfold maxLen; omega, by omega, h, flat_cell (Box.new _ _ _)⟩
def mulB (gs : List Gt) : Bool := gs.any fun g => g.kind == 5
def tinyG : List Gt := [⟨1, 1, 0, 0⟩, ⟨1, 2, 0, 0⟩, ⟨5, 0, 1, 0⟩, ⟨2, 0, 0, 7⟩, ⟨3, 2, 3, 0⟩]
theorem gcs_tiny : (gcs tinyG) = [.int .i64 1, .int .i64 1, .int .i64 0, .int .u64 0, .int .i64 1, .int .i64 2, .int .i64 0, .int .u64 0, .int .i64 5, .int .i64 0, .int .i64 1, .int .u64 0, .int .i64 2, .int .i64 0, .int .i64 0, .int .u64 7, .int .i64 3, .int .i64 2, .int .i64 3, .int .u64 0] := rfl
theorem kTiny_any (w : World) : Calls Tryd.prog 10 #[] w fun e w' => ∃ v, e = .returned v ∧ IsCirc w' v tinyG [4] ∧ Below w.heap.size w w' := by
  have k1 := (lit_gates (w.alloc (.cells #[.slice (some ⟨w.heap.size + 1, 0, none⟩) 5 5, .slice (some ⟨w.heap.size + 1 + 1, 0, none⟩) 1 1] 25)) tinyG (by unfold tinyG GateOk I64 U64; simp) (by simp [tinyG])).below ((Below.refl _ _).alloc (Nat.le_refl _) (.cells #[.int .i64 4] 3))
  have k2 := lit_ints ((w.alloc (.cells #[.slice (some ⟨w.heap.size + 1, 0, none⟩) 5 5, .slice (some ⟨w.heap.size + 1 + 1, 0, none⟩) 1 1] 25)).alloc (.cells (gcs tinyG).toArray 62)) [4] (by unfold I64; simp) (by simp)
  have kb := (((Below.refl w.heap.size w).alloc (Nat.le_refl _) (.cells #[.slice (some ⟨w.heap.size + 1, 0, none⟩) 5 5, .slice (some ⟨w.heap.size + 1 + 1, 0, none⟩) 1 1] 25)).alloc (by simp) (.cells (gcs tinyG).toArray 62)).alloc (by simp; omega) (.cells #[.int .i64 4] 3)
  rw [gcs_tiny, size_alloc] at k1
  rw [gcs_tiny, size_alloc, size_alloc] at k2
  rw [gcs_tiny] at kb
  have K1 := Lib.hid k1
  have K2 := Lib.hid k2
  have KB := Lib.hid kb
  clear k1 k2 kb
  go_enter Tryd.func10, Tryd.ntmps10
  go_wp2_with fail
  exact bodyPost_ret (v := .agg #[.slice (some ⟨w.heap.size + 1, 0, none⟩) 5 5, .slice (some ⟨w.heap.size + 1 + 1, 0, none⟩) 1 1]) (by simp [results, Tryd.results10, go_sem]) rfl ⟨_, rfl, ⟨_, _, rfl, K1.out, K2.out⟩, KB.out⟩
end Go.Proofs.YtljpangeodgbkaaDoor
