/- Parts of the proof, put together by a program: ParseW. No condition. -/
import Derived.Test.YtploomncapiloaaGreatDoorDAX
import Derived.Laws.ResultCell
namespace Go.Proofs.YtploomncapiloaaGreatDoor
open Go.RowKit Go.Sort Go.PlainAid Croft
def MaxIs (w : World) : Prop := ∃ m, w.cell? ⟨0, 0, none⟩ = some (.int .i64 m)
theorem MaxIs.below {w w' : World} (h : MaxIs w) (hb : Below w.heap.size w w') : MaxIs w' := by
  obtain ⟨m, hm⟩ := h
  exact ⟨m, (hb.cell (p := ⟨0, 0, none⟩) (World.block_lt_of_cell? _ _ hm)).trans hm⟩
theorem bs_data (s : ByteArray) : bs s.data.toList = s := by
  obtain ⟨⟨l⟩⟩ := s; rfl
theorem data_bs (l : List UInt8) : (bs l).data.toList = l := by simp [bs]
theorem cut_any (c : UInt8) (l : List UInt8) (w : World) (hl : l.length < 4294967281) (hm : MaxIs w) :
    Calls Tryz.prog 142 #[.string (bs l), .string ⟨#[c]⟩] w fun e w' => e = .returned (.tuple #[.string (bs (Lib.cut l [c]).1), .string (bs (Lib.cut l [c]).2.1), .bool (Lib.cut l [c]).2.2]) ∧ ∃ n, w' = w.drewN n := by
  obtain ⟨m, hm⟩ := hm
  have h := sh_strings_Cut (bs l) ⟨#[c]⟩ m w (by rw [bs_size]; exact hl) hm
  rw [data_bs] at h
  exact h
theorem split_is (c : UInt8) (l : List UInt8) (w : World) (hl : l.length < 4294967281) (hm : MaxIs w) :
    Calls Tryz.prog 13 #[.string (bs l), .string ⟨#[c]⟩] w fun e w' => ∃ v, e = .returned v ∧ OwnStrs w' w.heap.size v (pieces c l) ∧ Below w.heap.size w w' := by
  obtain ⟨m, hm⟩ := hm
  refine (sh_strings_Split (bs l) ⟨#[c]⟩ m w (by rw [bs_size]; exact hl) hm (Nat.le_refl 1)).mono fun e w' hh => ?_
  obtain ⟨rfl, rfl⟩ := hh
  have hp := splitB_pieces c (bs l)
  rw [data_bs] at hp
  have hs : (Lib.splitB ⟨#[c]⟩ 0 (Lib.countB (bs l) ⟨#[c]⟩) (bs l)).map Value.string = sts (pieces c l) := by
    rw [← hp, sts, List.map_map]
    apply List.map_congr_left
    intro s _
    simp [bs_data]
  have hlen : (pieces c l).length = Lib.countB (bs l) ⟨#[c]⟩ + 1 := by
    rw [← hp, List.length_map, Lib.splitB_all ⟨#[c]⟩ (Nat.le_refl 1) _ _ _ rfl]
  rw [hs, ← hlen]
  exact ⟨_, rfl, lit_strs w w.heap.size (pieces c l) (by have := pieces_le c l; omega) (Nat.le_refl _), (Below.refl _ _).alloc (Nat.le_refl _) _⟩
theorem results_cell_tmp2 {fn : Func} {p u x : Tmp} {ty : TypeId} (h : fn.results = #[.cell p ty, .tmp u, .tmp x]) (tmps : Array Value) (P : Program) (w : World) :
    (results fn tmps).run P w =
      ((asAddr (tmps.getD p undef)).run P w).andThen fun a w₁ => ((loadVar ty a).run P w₁).andThen fun v w₂ => .ok (.tuple #[v, tmps.getD u undef, tmps.getD x undef]) w₂ := by
  simp only [results, h]
  simp [Sem.run_bind, Result.andThen]
theorem parseR_hit {gs : List Gt} {os : List Int} {n : Nat} {x y : List UInt8} (hx : (10 : UInt8) ∉ x) : parseR gs os n (pieces 10 (x ++ 10 :: y)) = match readL gs os x with | none => .inr n | some (gs', os') => parseR gs' os' (n + 1) (pieces 10 y) := by
  rw [pieces_hit y hx]
  cases hp : pieces 10 y with
  | nil => exact absurd hp (pieces_ne _ _)
  | cons p ps =>
    rw [parseR]
    cases readL gs os x with
    | none => rfl
    | some q => rfl
theorem parseR_miss {gs : List Gt} {os : List Int} {n : Nat} {x : List UInt8} (hx : (10 : UInt8) ∉ x) (h0 : x ≠ []) : parseR gs os n (pieces 10 x) = .inr n := by
  rw [pieces_miss hx, parseR, if_neg h0]
theorem readL_len {gs : List Gt} {os : List Int} {x : List UInt8} {p : List Gt × List Int} (h : readL gs os x = some p) : p.1.length + p.2.length = gs.length + os.length + 1 := by
  unfold readL at h
  generalize (pieces 32 x).headD [] = w0 at h
  generalize (pieces 32 x).tail = ws at h
  by_cases hok : numsOk ws = true
  · by_cases h0 : w0 = outW
    · rw [readR_out hok h0] at h
      by_cases q : ws.length = 1
      · rw [if_pos q] at h
        obtain rfl := Option.some.inj h
        simp [Nat.add_assoc]
      · rw [if_neg q] at h; cases h
    · rw [readR_gate hok h0] at h
      by_cases q : wordK w0 ≤ 6 ∧ os.length = 0 ∧ (ws.length : Int) = (if wordK w0 ≤ 2 then 1 else 2)
      · rw [if_pos q] at h
        obtain rfl := Option.some.inj h
        simp; omega
      · rw [if_neg q] at h; cases h
  · rw [readR_bad (by simpa using hok)] at h; cases h
set_option maxRecDepth 100000 in
set_option maxHeartbeats 2000000 in
theorem cParse_any (l : List UInt8) (w : World) (hm : MaxIs w) :
    Calls Tryz.prog 104 #[.string (bs l)] w fun e w' => ∃ v, e = .returned (.tuple #[v, .int .i64 (parseT l).at_, .int .i64 (parseT l).e]) ∧ IsCirc w' v (parseT l).gs (parseT l).os ∧ Below w.heap.size w w' := by
  have HM := Lib.hid hm
  clear hm
  suffices hgoal : ∀ Post : Ending → World → Prop, (∀ v w', IsCirc w' v (parseT l).gs (parseT l).os → Below w.heap.size w w' → Post (.returned (.tuple #[v, .int .i64 (parseT l).at_, .int .i64 (parseT l).e])) w') → Calls Tryz.prog 104 #[.string (bs l)] w Post from hgoal _ fun v w' h1 h2 => ⟨v, rfl, h1, h2⟩
  intro Post hpo
  have HP := Lib.hid hpo
  clear hpo
  obtain ⟨s, hs⟩ : ∃ s, s = bs l := ⟨_, rfl⟩
  have hz : s.size = l.length := by rw [hs, bs_size]
  have HS := Lib.hid hs
  rw [← hs]
  clear hs
  obtain ⟨rb, hrb⟩ : ∃ rb, rb = w.heap.size := ⟨_, rfl⟩
  have HRB := Lib.hid hrb
  have HP2 := Lib.hid (show ∀ v w', IsCirc w' v (parseT l).gs (parseT l).os → Below rb w w' → Post (.returned (.tuple #[v, .int .i64 (parseT l).at_, .int .i64 (parseT l).e])) w' from by rw [hrb]; exact HP.out)
  have BR := Lib.hid (show Box (w.alloc (.cells #[.slice none 0 0, .slice none 0 0] 85)) rb 85 [.slice none 0 0, .slice none 0 0] by rw [hrb]; exact Box.new _ _ _)
  have BB := Lib.hid (show Below rb w (w.alloc (.cells #[.slice none 0 0, .slice none 0 0] 85)) by rw [hrb]; exact (Below.refl _ _).alloc (Nat.le_refl _) _)
  by_cases h2048 : 2048 < l.length
  · have HR := Lib.hid (show parseT l = ⟨[], [], 0, 2⟩ by unfold parseT; rw [if_pos h2048])
    go_enter Tryz.func104, Tryz.ntmps104
    go_wp2_with fail
    refine bodyPost_ret (v := .tuple #[.agg #[.slice none 0 0, .slice none 0 0], .int .i64 0, .int .i64 2]) ?_ rfl ?_
    · rw [results_cell_tmp2 rfl]
      go_simp
    · have hp := HP.out (.agg #[.slice none 0 0, .slice none 0 0]) (w.alloc (.cells #[.slice none 0 0, .slice none 0 0] 85)) (by rw [HR.out]; exact ⟨_, _, rfl, IsGates.nil _, IsInts.nil _⟩) (hrb ▸ BB.out)
      rw [HR.out] at hp
      exact hp
  · obtain ⟨cb, hcb⟩ : ∃ cb, cb = w.heap.size + 1 := ⟨_, rfl⟩
    have HCB := Lib.hid hcb
    obtain ⟨w1, hw1⟩ : ∃ w1, w1 = (w.alloc (.cells #[.slice none 0 0, .slice none 0 0] 85)).alloc (.cells #[.slice none 0 0, .slice none 0 0] 85) := ⟨_, rfl⟩
    have hsz1 : (w.alloc (.cells #[.slice none 0 0, .slice none 0 0] 85)).heap.size = w.heap.size + 1 := size_alloc _ _
    have CI1 := Lib.hid (show CircIn w1 cb [] [] by rw [hw1, hcb, ← hsz1]; exact ⟨_, _, CircAt.new _⟩)
    have BR1 := Lib.hid (show Box w1 rb 85 [.slice none 0 0, .slice none 0 0] by rw [hw1]; exact BR.out.alloc _)
    have BB1 := Lib.hid (show Below rb w w1 by rw [hw1]; exact BB.out.alloc (by rw [hrb]; exact BB.out.size) _)
    have hpR : parseR [] [] 1 (pieces 10 l) = parseR [] [] 1 (pieces 10 l) := rfl
    obtain ⟨R, hR⟩ : ∃ R, R = parseR [] [] 1 (pieces 10 l) := ⟨_, rfl⟩
    have HR := Lib.hid (show parseT l = parsedOf R by unfold parseT; rw [if_neg h2048, hR])
    have HRR := Lib.hid hR
    clear hR hpR
    go_enter Tryz.func104, Tryz.ntmps104
    go_wp2_with fail
    rw [← hw1, ← hcb, ← hrb]
    clear hw1 hcb hrb hsz1
    go_loopw [0, 6] (fun x i wr => ∃ (y : List UInt8) (gs : List Gt) (os : List Int) (n : Nat), x = .string (bs y) ∧ i = .int .i64 n ∧ y.length + n ≤ l.length + 1 ∧ gs.length + os.length ≤ n ∧ parseR gs os n (pieces 10 y) = R ∧ CircIn wr cb gs os ∧ Box wr rb 85 [.slice none 0 0, .slice none 0 0] ∧ Below rb w wr) (fun x _ _ => match x with | .string s => s.size | _ => 0)
    case atStart => exact ⟨l, [], [], 1, by rw [HS.out], rfl, Nat.le_refl _, by simp, HRR.out.symm, CI1.out, BR1.out, BB1.out⟩
    case round =>
      obtain ⟨y, gs, os, n, rfl, rfl, hyn, hgo, hpr, hci, hbr, hbel⟩ := hrel
      have HCI := Lib.hid hci
      have BRR := Lib.hid hbr
      have BEL := Lib.hid hbel
      have HPR := Lib.hid hpr
      have HGO := Lib.hid hgo
      have HLT := Lib.hid (show rb < cb by have := HRB.out; have := HCB.out; omega)
      have HMR := Lib.hid (HM.out.below (HRB.out ▸ BEL.out))
      clear hci hbr hbel hpr hgo
      obtain ⟨s1, hs1⟩ : ∃ s1, s1 = bs y := ⟨_, rfl⟩
      have HS1 := Lib.hid hs1
      rw [← hs1]
      clear hs1
      by_cases h0 : y = []
      · have hq : (s1.toList == []) = true := by rw [HS1.out, bs_toList, h0]; rfl
        have HPO := Lib.hid (show parseT l = parsedOf (.inl (gs, os)) by rw [HR.out, ← HPR.out, h0]; rfl)
        obtain ⟨vg, vo, hCA⟩ := HCI.out
        obtain ⟨Ag, cg, rfl, _, _⟩ := own_form hCA.gates.1
        obtain ⟨Ao, co, rfl, _, _⟩ := own_form hCA.outs.1
        have HCA := Lib.hid hCA
        have k0 := hCA.box.cell (i := 0) rfl
        have k1 := hCA.box.cell (i := 1) rfl
        have CK := Lib.hid (cCheck_any _ gs os wr hCA.is)
        clear hCA h0
        by_cases hE : circE gs os = 0
        · have HE := Lib.hid (show parseT l = ⟨gs, os, 0, 0⟩ by rw [HPO.out]; simp only [parsedOf]; rw [if_pos hE])
          have HE0 := Lib.hid hE
          clear hE
          go_wp2_with fail
          refine CK.out.mono ?_
          rintro e W1 ⟨rfl, hb⟩
          rw [HE0.out]
          have BXW := Lib.hid (BRR.out.below hb)
          have BW := Lib.hid (below_trans BEL.out hb (Nat.le_trans (Nat.le_of_eq HRB.out) BEL.out.size))
          have HCA1 := Lib.hid (HCA.out.below hb)
          clear k0 k1 hb
          have k0 := HCA1.out.box.cell (i := 0) rfl
          have k1 := HCA1.out.box.cell (i := 1) rfl
          try dsimp only
          have BX1 := Lib.hid (BXW.out.set 0 (.slice Ag gs.length cg))
          have BX2 := Lib.hid (BX1.out.set 1 (.slice Ao os.length co))
          have f00 := BXW.out.cell (i := 0) rfl
          have f01 := BXW.out.cell (i := 1) rfl
          have f0 := BXW.out.frozen 0
          have f1 := BX1.out.frozen 1
          have g1' := BX1.out.cell (i := 1) rfl
          have g2 := BX2.out.cell (i := 0) rfl
          have g3 := BX2.out.cell (i := 1) rfl
          have BF := Lib.hid ((BW.out.setCell (p := ⟨rb, 0, none⟩) (Nat.le_refl _) (.slice Ag gs.length cg)).setCell (p := ⟨rb, 1, none⟩) (Nat.le_refl _) (.slice Ao os.length co))
          go_wp2_with fail
          (try simp only [Exit.inBlock, Exit.then])
          refine bodyPost_ret (v := .tuple #[.agg #[.slice Ag gs.length cg, .slice Ao os.length co], .int .i64 0, .int .i64 0]) ?_ rfl ?_
          · rw [results_cell_tmp2 rfl]
            go_simp
          · have hp := HP2.out (.agg #[.slice Ag gs.length cg, .slice Ao os.length co]) _ (by rw [HE.out]; exact (HCA1.out.set_far HLT.out).is) BF.out
            rw [HE.out] at hp
            exact hp
        · have HE := Lib.hid (show parseT l = ⟨[], [], 0, circE gs os⟩ by rw [HPO.out]; simp only [parsedOf]; rw [if_neg hE])
          obtain ⟨E, hEE⟩ : ∃ E, E = circE gs os := ⟨_, rfl⟩
          rw [← hEE] at CK HE
          have hEb : (E == 0) = false := by rw [hEE, beq_eq_false_iff_ne]; exact hE
          clear hE hEE
          go_wp2_with fail
          refine CK.out.mono ?_
          rintro e W1 ⟨rfl, hb⟩
          have BXW := Lib.hid (BRR.out.below hb)
          have BW := Lib.hid (below_trans BEL.out hb (Nat.le_trans (Nat.le_of_eq HRB.out) BEL.out.size))
          clear k0 k1 hb
          try dsimp only
          have BX1 := Lib.hid (BXW.out.set 0 (.slice none 0 0))
          have BX2 := Lib.hid (BX1.out.set 1 (.slice none 0 0))
          have f00 := BXW.out.cell (i := 0) rfl
          have f01 := BXW.out.cell (i := 1) rfl
          have f0 := BXW.out.frozen 0
          have f1 := BX1.out.frozen 1
          have g1' := BX1.out.cell (i := 1) rfl
          have g2 := BX2.out.cell (i := 0) rfl
          have g3 := BX2.out.cell (i := 1) rfl
          have BF := Lib.hid ((BW.out.setCell (p := ⟨rb, 0, none⟩) (Nat.le_refl _) (.slice none 0 0)).setCell (p := ⟨rb, 1, none⟩) (Nat.le_refl _) (.slice none 0 0))
          go_wp2_with fail
          (try simp only [Exit.inBlock, Exit.then])
          refine bodyPost_ret (v := .tuple #[.agg #[.slice none 0 0, .slice none 0 0], .int .i64 0, .int .i64 E]) ?_ rfl ?_
          · rw [results_cell_tmp2 rfl]
            go_simp
          · have hp := HP2.out (.agg #[.slice none 0 0, .slice none 0 0]) _ (by rw [HE.out]; exact ⟨_, _, rfl, IsGates.nil _, IsInts.nil _⟩) BF.out
            rw [HE.out] at hp
            exact hp
      · have hq : (s1.toList == []) = false := by rw [HS1.out, bs_toList, beq_eq_false_iff_ne]; exact h0
        have CC := Lib.hid (fun W (hW : MaxIs W) => cut_any 10 y W (by omega) hW)
        rw [← HS1.out] at CC
        rcases cut_at 10 y with hmiss | ⟨x, z, hyx, hx⟩
        · have HE := Lib.hid (show parseT l = ⟨[], [], n, 3⟩ by rw [HR.out, ← HPR.out, parseR_miss hmiss h0]; rfl)
          rw [cut_miss hmiss] at CC
          have BXW := Lib.hid BRR.out
          have BW := Lib.hid BEL.out
          go_wp2_with fail
          refine (CC.out _ HMR.out).mono ?_
          rintro e w' ⟨rfl, q, rfl⟩
          replace BXW := Lib.hid (BXW.out.drewN q)
          replace BW := Lib.hid (below_drewN BW.out q)
          try dsimp only
          generalize wr.drewN q = wq at *
          have BX1 := Lib.hid (BXW.out.set 0 (.slice none 0 0))
          have BX2 := Lib.hid (BX1.out.set 1 (.slice none 0 0))
          have f00 := BXW.out.cell (i := 0) rfl
          have f01 := BXW.out.cell (i := 1) rfl
          have f0 := BXW.out.frozen 0
          have f1 := BX1.out.frozen 1
          have g1' := BX1.out.cell (i := 1) rfl
          have g2 := BX2.out.cell (i := 0) rfl
          have g3 := BX2.out.cell (i := 1) rfl
          have BF := Lib.hid ((BW.out.setCell (p := ⟨rb, 0, none⟩) (Nat.le_refl _) (.slice none 0 0)).setCell (p := ⟨rb, 1, none⟩) (Nat.le_refl _) (.slice none 0 0))
          go_wp2_with fail
          (try simp only [Exit.inBlock, Exit.then])
          refine bodyPost_ret (v := .tuple #[.agg #[.slice none 0 0, .slice none 0 0], .int .i64 n, .int .i64 3]) ?_ rfl ?_
          · rw [results_cell_tmp2 rfl]
            go_simp
          · have hp := HP2.out (.agg #[.slice none 0 0, .slice none 0 0]) _ (by rw [HE.out]; exact ⟨_, _, rfl, IsGates.nil _, IsInts.nil _⟩) BF.out
            rw [HE.out] at hp
            exact hp
        · have hyl : y.length = x.length + z.length + 1 := by rw [hyx, List.length_append, List.length_cons]; omega
          rw [hyx, cut_hit z hx] at CC
          have CS := Lib.hid (fun W (hW : MaxIs W) => split_is 32 x W (by omega) hW)
          have HXL := Lib.hid (show ∀ p ∈ pieces 32 x, p.length ≤ 1000000000 from fun p hp => by have := pieces_mem_len 32 x p hp; omega)
          have HRD := Lib.hid (show parseR gs os n (pieces 10 y) = (match readL gs os x with | none => .inr n | some (gs', os') => parseR gs' os' (n + 1) (pieces 10 z)) from by rw [hyx]; exact parseR_hit hx)
          have hgl : gs.length ≤ 100000 := by have := HGO.out; omega
          have hol : os.length ≤ 100000 := by have := HGO.out; omega
          obtain ⟨w0, ws, hpx⟩ : ∃ w0 ws, pieces 32 x = w0 :: ws := by
            cases hp : pieces 32 x with
            | nil => exact absurd hp (pieces_ne _ _)
            | cons a b => exact ⟨a, b, rfl⟩
          have HRL := Lib.hid (show readL gs os x = readR gs os w0 ws by unfold readL; rw [hpx]; rfl)
          rw [hpx] at CS HXL
          have CRD := Lib.hid (fun W (hW : CircIn W cb gs os) vw (hv : IsStrs W vw (w0 :: ws)) => cRead_any cb gs os vw w0 ws W hW hv HXL.out hgl hol)
          have HYL := Lib.hid hyl
          have HNL := Lib.hid (show n ≤ 2049 by omega)
          clear hyx hx hpx h0 hgl hol
          cases hrr : readR gs os w0 ws with
          | none =>
            have HE := Lib.hid (show parseT l = ⟨[], [], n, 3⟩ by rw [HR.out, ← HPR.out, HRD.out, HRL.out, hrr]; rfl)
            rw [hrr] at CRD
            have hn2 := HNL.out
            go_wp2_with fail
            refine (CC.out _ HMR.out).mono ?_
            rintro e w' ⟨rfl, q, rfl⟩
            have BRq := Lib.hid (BRR.out.drewN q)
            have BEq := Lib.hid (below_drewN BEL.out q)
            have HMq := Lib.hid (show MaxIs (wr.drewN q) from HMR.out.below (below_drewN (Below.refl _ _) q))
            have HCq := Lib.hid (show CircIn (wr.drewN q) cb gs os from by obtain ⟨vg, vo, h⟩ := HCI.out; exact ⟨vg, vo, h.drewN q⟩)
            try dsimp only
            generalize wr.drewN q = wq at *
            go_wp2_with fail
            refine (CS.out _ HMq.out).mono ?_
            rintro e W1 ⟨vs, rfl, hos, hb⟩
            have BR1 := Lib.hid (BRq.out.below hb)
            have BE1 := Lib.hid (below_trans BEq.out hb (Nat.le_trans (Nat.le_of_eq HRB.out) BEq.out.size))
            have HC1 := Lib.hid (show CircIn W1 cb gs os from by obtain ⟨vg, vo, h⟩ := HCq.out; exact ⟨vg, vo, h.below hb⟩)
            have KS1 := Lib.hid hos.is
            obtain ⟨As, cs, rfl, _, _⟩ := own_form hos.1
            clear hb hos
            try dsimp only
            go_wp2_with fail
            refine (CRD.out _ HC1.out _ KS1.out).mono ?_
            rintro e W2 ⟨rfl, _, hb⟩
            have BXW := Lib.hid (BR1.out.under hb HLT.out)
            have BW := Lib.hid (BE1.out.trans (hb.mono (Nat.le_of_lt HLT.out)))
            clear hb
            try dsimp only
            have BX1 := Lib.hid (BXW.out.set 0 (.slice none 0 0))
            have BX2 := Lib.hid (BX1.out.set 1 (.slice none 0 0))
            have f00 := BXW.out.cell (i := 0) rfl
            have f01 := BXW.out.cell (i := 1) rfl
            have f0 := BXW.out.frozen 0
            have f1 := BX1.out.frozen 1
            have g1' := BX1.out.cell (i := 1) rfl
            have g2 := BX2.out.cell (i := 0) rfl
            have g3 := BX2.out.cell (i := 1) rfl
            have BF := Lib.hid ((BW.out.setCell (p := ⟨rb, 0, none⟩) (Nat.le_refl _) (.slice none 0 0)).setCell (p := ⟨rb, 1, none⟩) (Nat.le_refl _) (.slice none 0 0))
            go_wp2_with fail
            (try simp only [Exit.inBlock, Exit.then])
            refine bodyPost_ret (v := .tuple #[.agg #[.slice none 0 0, .slice none 0 0], .int .i64 n, .int .i64 3]) ?_ rfl ?_
            · rw [results_cell_tmp2 rfl]
              go_simp
            · have hp := HP2.out (.agg #[.slice none 0 0, .slice none 0 0]) _ (by rw [HE.out]; exact ⟨_, _, rfl, IsGates.nil _, IsInts.nil _⟩) BF.out
              rw [HE.out] at hp
              exact hp
          | some pr =>
            obtain ⟨gs', os'⟩ := pr
            have HRX := Lib.hid (show parseR gs' os' (n + 1) (pieces 10 z) = R by rw [← HPR.out, HRD.out, HRL.out, hrr])
            have HLN := Lib.hid (readL_len (HRL.out.trans hrr))
            rw [hrr] at CRD
            have hn2 := HNL.out
            go_wp2_with fail
            refine (CC.out _ HMR.out).mono ?_
            rintro e w' ⟨rfl, q, rfl⟩
            have BRq := Lib.hid (BRR.out.drewN q)
            have BEq := Lib.hid (below_drewN BEL.out q)
            have HMq := Lib.hid (show MaxIs (wr.drewN q) from HMR.out.below (below_drewN (Below.refl _ _) q))
            have HCq := Lib.hid (show CircIn (wr.drewN q) cb gs os from by obtain ⟨vg, vo, h⟩ := HCI.out; exact ⟨vg, vo, h.drewN q⟩)
            try dsimp only
            generalize wr.drewN q = wq at *
            go_wp2_with fail
            refine (CS.out _ HMq.out).mono ?_
            rintro e W1 ⟨vs, rfl, hos, hb⟩
            have BR1 := Lib.hid (BRq.out.below hb)
            have BE1 := Lib.hid (below_trans BEq.out hb (Nat.le_trans (Nat.le_of_eq HRB.out) BEq.out.size))
            have HC1 := Lib.hid (show CircIn W1 cb gs os from by obtain ⟨vg, vo, h⟩ := HCq.out; exact ⟨vg, vo, h.below hb⟩)
            have KS1 := Lib.hid hos.is
            obtain ⟨As, cs, rfl, _, _⟩ := own_form hos.1
            clear hb hos
            try dsimp only
            go_wp2_with fail
            refine (CRD.out _ HC1.out _ KS1.out).mono ?_
            rintro e W2 ⟨rfl, hcn, hb⟩
            have HC2 := Lib.hid (hcn (gs', os') rfl)
            have BXW := Lib.hid (BR1.out.under hb HLT.out)
            have BW := Lib.hid (BE1.out.trans (hb.mono (Nat.le_of_lt HLT.out)))
            clear hb hcn
            try dsimp only
            go_wp2_with fail
            refine ⟨⟨z, gs', os', n + 1, rfl, by go_num, by have := HYL.out; omega, by have := HGO.out; have := HLN.out; omega, HRX.out, HC2.out, BXW.out, BW.out⟩, ?_⟩
            show (bs z).size < s1.size
            have := HYL.out
            rw [HS1.out, bs_size, bs_size]
            omega
end Go.Proofs.YtploomncapiloaaGreatDoor
