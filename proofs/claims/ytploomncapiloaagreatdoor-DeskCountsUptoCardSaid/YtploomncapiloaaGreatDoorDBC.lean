/- Parts of the proof, put together by a program: DeskJ DeskO. No condition. -/
import Derived.Test.YtploomncapiloaaGreatDoorDBB
namespace Go.Proofs.YtploomncapiloaaGreatDoor
open Go.RowKit Go.Sort Go.PlainAid Croft
theorem dealB_ok (ds : List Int) (n : Int) : dealB ds n = true ↔ dealOk ds n := decide_eq_true_iff
theorem dealX_len (x : Int) (ds : List Int) (n : Int) : (dealX x ds n (dealB ds n)).length ≤ 9 := by
  unfold dealX
  cases h : dealB ds n with
  | true =>
    have := (dealB_ok ds n).1 h
    rw [if_pos rfl, ofFs_length, deal_length]
    have := this.2.2
    omega
  | false => simp
def PRes (base db : Nat) (o : Option (List UInt8 × Bench)) (w : World) (e : Ending) (w' : World) : Prop := match o with
  | none => e = .returned (.tuple #[.string (bs []), .bool false]) ∧ Below w.heap.size w w'
  | some r => e = .returned (.tuple #[.string (bs r.1), .bool true]) ∧ DeskIs w' base db r.2 ∧ Left base db w w'
theorem KeepIs.ptr {w : World} {base : Nat} {kp : Value} {o : Option Keep} (h : KeepIs w base kp o) : ∃ pa, kp = .pointer pa := by
  cases o with
  | none => exact ⟨_, h⟩
  | some k => obtain ⟨kb, mb, V, h, _⟩ := h; exact ⟨_, h⟩
theorem LayB.mono {lo lo' : Nat} {w : World} (h : LayB lo w) (hl : lo ≤ lo') : LayB lo' w := by
  obtain ⟨w0, h1, h2, h3⟩ := h; exact ⟨w0, h1, h2, Nat.le_trans h3 hl⟩
set_option maxRecDepth 100000 in
set_option maxHeartbeats 4000000 in
theorem plain_any (base db lo : Nat) (b : Bench) (v : List UInt8) (va : Value) (n : List Int) (w : World) (hd : DeskIs w base db b) (hdb : db < base) (hbw : base ≤ w.heap.size) (h1 : OwnInts w lo va n) (hn0 : ∀ z ∈ n, 0 ≤ z) (hl : n.length ≤ 100000) (hL : LayB db w) :
    Calls Tryz.prog 31 #[.pointer (some ⟨db, 0, none⟩), .string (bs v), va] w fun e w' => PRes base db (plainA b v n) w e w' := by
  have HD := Lib.hid hd
  have HL := Lib.hid hL
  have KN := Lib.hid h1
  have HN0 := Lib.hid hn0
  obtain ⟨kp, hbx, hkp⟩ := hd
  obtain ⟨pa, rfl⟩ := hkp.ptr
  have BX := Lib.hid hbx
  have HKP := Lib.hid hkp
  have hdl := hbx.lt
  obtain ⟨A3, c3, rfl, hc3, _⟩ := own_form h1.1
  obtain ⟨N, hN⟩ : ∃ N, N = n.length := ⟨_, rfl⟩
  have HNL := Lib.hid hN
  rw [← hN] at hl hc3 ⊢
  suffices hgoal : ∀ Post : Ending → World → Prop, (∀ e w', PRes base db (plainA b v n) w e w' → Post e w') → Calls Tryz.prog 31 #[.pointer (some ⟨db, 0, none⟩), .string (bs v), .slice A3 N c3] w Post from hgoal _ fun e w' h => h
  intro Post hpo
  have HP := Lib.hid hpo
  have HNO := Lib.hid (show plainA b v n = none → ∀ w', Below w.heap.size w w' → Post (.returned (.tuple #[.string (bs []), .bool false])) w' from fun h w' hb => HP.out _ _ (by unfold PRes; rw [h]; exact ⟨rfl, hb⟩))
  have HYES := Lib.hid (show ∀ s b', plainA b v n = some (s, b') → ∀ w', DeskIs w' base db b' → Left base db w w' → Post (.returned (.tuple #[.string (bs s), .bool true])) w' from fun s b' h w' h2 h3 => HP.out _ _ (by unfold PRes; rw [h]; exact ⟨rfl, h2, h3⟩))
  have HSAME := Lib.hid (show ∀ s, plainA b v n = some (s, b) → ∀ w', Below w.heap.size w w' → Post (.returned (.tuple #[.string (bs s), .bool true])) w' from fun s h w' hb => HYES.out s b h w' (HD.out.below hb) (.of_below hb))
  obtain ⟨sv, hsv⟩ : ∃ sv, sv = bs v := ⟨_, rfl⟩
  rw [← hsv]
  obtain ⟨w1, hw1⟩ : ∃ w1, w1 = w.alloc (.cells #[.slice A3 N c3] 53) := ⟨_, rfl⟩
  have HW1 := Lib.hid hw1
  have B1 := Lib.hid (show Below w.heap.size w w1 by rw [hw1]; exact (Below.refl w.heap.size w).alloc (Nat.le_refl _) _)
  have X1 := Lib.hid (show Box w1 w.heap.size 53 [.slice A3 N c3] by rw [hw1]; exact Box.new _ _ _)
  have hcn : w1.cell? ⟨w.heap.size, 0, none⟩ = some (.slice A3 N c3) := X1.out.cell (i := 0) rfl
  have hlt1 := X1.out.lt
  have hsz1 := B1.out.size
  have hdl1 := Nat.lt_of_lt_of_le hdl hsz1
  have BX1 := Lib.hid (BX.out.below B1.out)
  have L1 := Lib.hid (HL.out.low (B1.out.mono (Nat.le_of_lt hdl)))
  have hmf : ∀ (fn : Fn) (first cap : Array Value) (w : World), (Instr.makeFunc fn first cap).run Tryz.prog w = .ok (.func fn first cap) w := fun _ _ _ _ => rfl
  clear hpo hn0 h1 hN hL hbx hkp
  by_cases n_Deal : v = wDeal
  · have hcc := 0
    have t_Deal : (sv.toList == [100, 101, 97, 108]) = true := by rw [hsv, bs_toList, n_Deal]; rfl
    have t_Open : (sv.toList == [111, 112, 101, 110]) = false := by rw [hsv, bs_toList, n_Deal]; decide
    have t_Clear : (sv.toList == [99, 108, 101, 97, 114]) = false := by rw [hsv, bs_toList, n_Deal]; decide
    have t_Show : (sv.toList == [115, 104, 111, 119]) = false := by rw [hsv, bs_toList, n_Deal]; decide
    have t_Run : (sv.toList == [114, 117, 110]) = false := by rw [hsv, bs_toList, n_Deal]; decide
    have t_Keys : (sv.toList == [107, 101, 121, 115]) = false := by rw [hsv, bs_toList, n_Deal]; decide
    by_cases hc : 2 ≤ n.length
    · have hc0 := hc
      have hNL := HNL.out
      have d1 : (N : Int) ≥ 2 := by omega
      have d2 : decide ((N : Int) ≥ 2) = true := decide_eq_true d1
      obtain ⟨z0, z1, r, rfl⟩ : ∃ z0 z1 r, n = z0 :: z1 :: r := by
        match n, hc with
        | z0 :: z1 :: r, _ => exact ⟨z0, z1, r, rfl⟩
      obtain ⟨b3, c3', hv, _, l_b, hcell⟩ := own_ints KN.out (by simp)
      injection hv with hv1 _ hv3
      subst hv1 hv3
      have y0 := (B1.out.cell (p := ⟨b3, 0, none⟩) l_b).trans (hcell 0 z0 rfl)
      have i_0 := KN.out.2.2 z0 (by simp)
      have p_0 := HN0.out z0 (by simp)
      have hwz0 : IntKind.u64.wrap z0 = z0 := u64_nonneg p_0 (by have := i_0.2; omega)
      have u_0 : U64 z0 := ⟨p_0, by have := i_0.2; omega⟩
      have hI0 : (0 : Int) < (N : Int) := by omega
      have y1 := (B1.out.cell (p := ⟨b3, 1, none⟩) l_b).trans (hcell 1 z1 rfl)
      have i_1 := KN.out.2.2 z1 (by simp)
      have p_1 := HN0.out z1 (by simp)
      have hwz1 : IntKind.u64.wrap z1 = z1 := u64_nonneg p_1 (by have := i_1.2; omega)
      have u_1 : U64 z1 := ⟨p_1, by have := i_1.2; omega⟩
      have hI1 : (1 : Int) < (N : Int) := by omega
      have hJ0 : 0 < N := by omega
      have lb3 := Nat.lt_of_lt_of_le l_b hsz1
      have HK := Lib.hid (HSAME.out _ (by unfold plainA; rw [if_pos n_Deal, if_pos hc0]))
      have hcut := ints_from (lo := 2) (show IsInts w (.slice (some ⟨b3, 0, none⟩) (z0 :: z1 :: r).length c3) (z0 :: z1 :: r) from KN.out.is) (by simp)
      rw [← HNL.out] at hcut
      have hs1 := islice_from (some ⟨b3, 0, none⟩) N c3 2 2 rfl (by omega)
      have hs2 := islice_fromA (some ⟨b3, 0, none⟩) N c3 2 2 rfl (by omega)
      obtain ⟨vt, hvt⟩ : ∃ vt, vt = Value.slice (if c3 = 2 then some ⟨b3, 0, none⟩ else (some (⟨b3, 0, none⟩ : Addr)).map (·.add (2 * 1))) (N - 2) (c3 - 2) := ⟨_, rfl⟩
      rw [← hvt] at hcut hs1 hs2
      have KT := Lib.hid hcut
      have CW := Lib.hid (fun q => wide_any _ r (w1.drewN q) ((KT.out.below B1.out).drewN q) (fun z hz => HN0.out z (by simp [hz])))
      have hxl := dealX_len z1 r z0
      obtain ⟨X, hX⟩ : ∃ X, X = dealX z1 r z0 (dealB r z0) := ⟨_, rfl⟩
      obtain ⟨E, hE⟩ : ∃ E, E = dealE (dealB r z0) := ⟨_, rfl⟩
      have hE0 : 0 ≤ E := by rw [hE]; unfold dealE; split <;> omega
      have hE1 : E ≤ 1 := by rw [hE]; unfold dealE; split <;> omega
      have CD := Lib.hid (fun vd W (h : IsNums W vd r) => sDeal_any z1 vd r z0 _ (dealB_ok r z0) W u_1 h)
      have HKK := Lib.hid (show ∀ w', Below w.heap.size w w' → Post (.returned (.tuple #[.string (bs (toldT X E)), .bool true])) w' by rw [hX, hE]; exact HK.out)
      rw [← hX] at hxl
      rw [← hX, ← hE] at CD
      clear hsv n_Deal hc hc0 hNL hcell hcut hvt hX hE HK hcc hw1
      go_enter Tryz.func31, Tryz.ntmps31
      go_wp2_with fail
      rw [← HW1.out]
      go_region_held3 (fun w' => w'.cell? ⟨w.heap.size, 0, none⟩ = some (.slice (some ⟨b3, 0, none⟩) N c3) ∧ w'.cell? ⟨b3, 0, none⟩ = some (.int .i64 z0) ∧ w'.cell? ⟨b3, 1, none⟩ = some (.int .i64 z1)) (go_keep) (first | (go_at_call 52; refine (CW.out _).mono ?_; rintro e W1 ⟨vw, rfl, ho, hb⟩; have D1 := Lib.hid ((below_drewN (Below.refl w1.heap.size w1) _).trans hb); have q1_0 := (D1.out.cell (p := ⟨w.heap.size, 0, none⟩) hlt1).trans hcn; have q1_1 := (D1.out.cell (p := ⟨b3, 0, none⟩) lb3).trans y0; have q1_2 := (D1.out.cell (p := ⟨b3, 1, none⟩) lb3).trans y1; have CX := Lib.hid (CD.out vw W1 ho.is); clear ho hb CW) | (go_at_call 56; refine (CX.out).mono ?_; rintro e W2 ⟨vx, rfl, ho, hb⟩; have D2 := Lib.hid (below_trans D1.out hb D1.out.size); have q2_0 := (D2.out.cell (p := ⟨w.heap.size, 0, none⟩) hlt1).trans hcn; have q2_1 := (D2.out.cell (p := ⟨b3, 0, none⟩) lb3).trans y0; have q2_2 := (D2.out.cell (p := ⟨b3, 1, none⟩) lb3).trans y1; have CT := Lib.hid (told_any vx X E W2 ho.is (by omega) hE0 (by omega) (L1.out.lay.below (D2.out.mono (Nat.le_refl _))).2.1); clear ho hb CX q1_0 q1_1 q1_2) | (go_at_call 53; refine (CT.out).mono ?_; rintro e W3 ⟨rfl, hb⟩; have D3 := Lib.hid (below_trans D2.out hb D2.out.size); have q3_0 := (D3.out.cell (p := ⟨w.heap.size, 0, none⟩) hlt1).trans hcn; have q3_1 := (D3.out.cell (p := ⟨b3, 0, none⟩) lb3).trans y0; have q3_2 := (D3.out.cell (p := ⟨b3, 1, none⟩) lb3).trans y1; clear hb CT q2_0 q2_1 q2_2))
      go_wp2_with fail
      exact HKK.out _ (below_trans B1.out D3.out hsz1)
    · have hc0 := hc
      have hNL := HNL.out
      have d1 : ¬ (N : Int) ≥ 2 := by omega
      have d2 : decide ((N : Int) ≥ 2) = false := decide_eq_false d1
      have HK := Lib.hid (HNO.out (by unfold plainA; rw [if_pos n_Deal, if_neg hc]))
      clear hsv n_Deal hc hc0 hNL hw1 hcn hcc
      go_enter Tryz.func31, Tryz.ntmps31
      go_wp2_with fail
      have hk := HK.out _ B1.out
      rw [HW1.out] at hk
      exact hk
  by_cases n_Open : v = wOpen
  · have hcc := 0
    have t_Deal : (sv.toList == [100, 101, 97, 108]) = false := by rw [hsv, bs_toList, n_Open]; decide
    have t_Open : (sv.toList == [111, 112, 101, 110]) = true := by rw [hsv, bs_toList, n_Open]; rfl
    have t_Clear : (sv.toList == [99, 108, 101, 97, 114]) = false := by rw [hsv, bs_toList, n_Open]; decide
    have t_Show : (sv.toList == [115, 104, 111, 119]) = false := by rw [hsv, bs_toList, n_Open]; decide
    have t_Run : (sv.toList == [114, 117, 110]) = false := by rw [hsv, bs_toList, n_Open]; decide
    have t_Keys : (sv.toList == [107, 101, 121, 115]) = false := by rw [hsv, bs_toList, n_Open]; decide
    by_cases hc : 1 ≤ n.length
    · have hc0 := hc
      have hNL := HNL.out
      have d1 : (N : Int) ≥ 1 := by omega
      have d2 : decide ((N : Int) ≥ 1) = true := decide_eq_true d1
      have HK := Lib.hid (HSAME.out _ (by unfold plainA; rw [if_neg (by rw [n_Open]; decide), if_pos n_Open, if_pos hc]))
      have CO := Lib.hid (opened_any _ n lo w1 (KN.out.below B1.out) HN0.out (by omega) hc L1.out.lay)
      rw [← HNL.out, HW1.out] at CO
      rw [← HNL.out] at HK
      obtain ⟨so, hso⟩ : ∃ so, so = bs (if N % 2 = 0 then errT 3 else openA n) := ⟨_, rfl⟩
      rw [← hso] at CO HK
      clear hsv n_Open hc hc0 hw1 hcn hcc hNL hso
      go_enter Tryz.func31, Tryz.ntmps31
      go_wp2_with fail
      refine CO.out.mono ?_
      rw [← HW1.out]
      rintro e w' ⟨rfl, hb⟩
      have BB := Lib.hid (below_trans B1.out hb hsz1)
      clear hb
      try dsimp only
      go_wp2_with fail
      exact HK.out _ BB.out
    · have hc0 := hc
      have hNL := HNL.out
      have d1 : ¬ (N : Int) ≥ 1 := by omega
      have d2 : decide ((N : Int) ≥ 1) = false := decide_eq_false d1
      have HK := Lib.hid (HNO.out (by unfold plainA; rw [if_neg (by rw [n_Open]; decide), if_pos n_Open, if_neg hc]))
      clear hsv n_Open hc hc0 hNL hw1 hcn hcc
      go_enter Tryz.func31, Tryz.ntmps31
      go_wp2_with fail
      have hk := HK.out _ B1.out
      rw [HW1.out] at hk
      exact hk
  by_cases n_Clear : v = wClear
  · have hcc := 0
    have t_Deal : (sv.toList == [100, 101, 97, 108]) = false := by rw [hsv, bs_toList, n_Clear]; decide
    have t_Open : (sv.toList == [111, 112, 101, 110]) = false := by rw [hsv, bs_toList, n_Clear]; decide
    have t_Clear : (sv.toList == [99, 108, 101, 97, 114]) = true := by rw [hsv, bs_toList, n_Clear]; rfl
    have t_Show : (sv.toList == [115, 104, 111, 119]) = false := by rw [hsv, bs_toList, n_Clear]; decide
    have t_Run : (sv.toList == [114, 117, 110]) = false := by rw [hsv, bs_toList, n_Clear]; decide
    have t_Keys : (sv.toList == [107, 101, 121, 115]) = false := by rw [hsv, bs_toList, n_Clear]; decide
    by_cases hc : n.length = 0
    · have hc0 := hc
      have hNL := HNL.out
      have d2 : ((N : Int) == 0) = true := by rw [beq_iff_eq]; omega
      have HK := Lib.hid (HYES.out okT ⟨[], b.ks⟩ (by unfold plainA; rw [if_neg (by rw [n_Clear]; decide), if_neg (by rw [n_Clear]; decide), if_pos n_Clear, if_pos hc]) (w1.setCell ⟨db, 0, none⟩ (.string (bs []))) ⟨.pointer pa, (show Box _ db 32 [.string (bs []), .pointer pa] from BX1.out.set 0 (.string (bs []))), (HKP.out.below B1.out).grown (set_grown w1 db 0 (.string (bs []))) hdb⟩ ((Left.of_below B1.out).trans (.of_grown (set_grown w1 db 0 (.string (bs []))))))
      have hf0 := BX1.out.frozen 0
      have hq0 := BX1.out.cell (i := 0) rfl
      rw [HW1.out] at hf0 hq0
      clear hsv n_Clear hc hc0 hNL hw1 hcn hcc
      go_enter Tryz.func31, Tryz.ntmps31
      go_wp2_with fail
      have hk := HK.out
      rw [HW1.out, World.setCell_alloc_past (hn := hdl)] at hk
      exact hk
    · have hc0 := hc
      have hNL := HNL.out
      have d2 : ((N : Int) == 0) = false := by rw [beq_eq_false_iff_ne]; omega
      have HK := Lib.hid (HNO.out (by unfold plainA; rw [if_neg (by rw [n_Clear]; decide), if_neg (by rw [n_Clear]; decide), if_pos n_Clear, if_neg hc]))
      clear hsv n_Clear hc hc0 hNL hw1 hcn hcc
      go_enter Tryz.func31, Tryz.ntmps31
      go_wp2_with fail
      have hk := HK.out _ B1.out
      rw [HW1.out] at hk
      exact hk
  by_cases n_Show : v = wShow
  · have hcc := 0
    have t_Deal : (sv.toList == [100, 101, 97, 108]) = false := by rw [hsv, bs_toList, n_Show]; decide
    have t_Open : (sv.toList == [111, 112, 101, 110]) = false := by rw [hsv, bs_toList, n_Show]; decide
    have t_Clear : (sv.toList == [99, 108, 101, 97, 114]) = false := by rw [hsv, bs_toList, n_Show]; decide
    have t_Show : (sv.toList == [115, 104, 111, 119]) = true := by rw [hsv, bs_toList, n_Show]; rfl
    have t_Run : (sv.toList == [114, 117, 110]) = false := by rw [hsv, bs_toList, n_Show]; decide
    have t_Keys : (sv.toList == [107, 101, 121, 115]) = false := by rw [hsv, bs_toList, n_Show]; decide
    by_cases hc : n.length = 0
    · have hc0 := hc
      have hNL := HNL.out
      have d2 : ((N : Int) == 0) = true := by rw [beq_iff_eq]; omega
      have HK := Lib.hid (HSAME.out _ (by unfold plainA; rw [if_neg (by rw [n_Show]; decide), if_neg (by rw [n_Show]; decide), if_neg (by rw [n_Show]; decide), if_pos n_Show, if_pos hc]))
      have CO := Lib.hid (netted_any 58 #[] showF db b.tx _ w1 BX1.out L1.out.lay (fun x W => by kernel_rfl) (fun v gs os W hb hC h0 => show_any v gs os W (L1.out.lay.below hb) hC h0))
      rw [HW1.out] at CO
      clear hsv n_Show hc hc0 hw1 hcn hcc hNL
      go_enter Tryz.func31, Tryz.ntmps31
      go_wp2_with fail
      refine CO.out.mono ?_
      rw [← HW1.out]
      rintro e w' ⟨rfl, hb⟩
      have BB := Lib.hid (below_trans B1.out hb hsz1)
      clear hb
      try dsimp only
      go_wp2_with fail
      exact HK.out _ BB.out
    · have hc0 := hc
      have hNL := HNL.out
      have d2 : ((N : Int) == 0) = false := by rw [beq_eq_false_iff_ne]; omega
      have HK := Lib.hid (HNO.out (by unfold plainA; rw [if_neg (by rw [n_Show]; decide), if_neg (by rw [n_Show]; decide), if_neg (by rw [n_Show]; decide), if_pos n_Show, if_neg hc]))
      clear hsv n_Show hc hc0 hNL hw1 hcn hcc
      go_enter Tryz.func31, Tryz.ntmps31
      go_wp2_with fail
      have hk := HK.out _ B1.out
      rw [HW1.out] at hk
      exact hk
  by_cases n_Run : v = wRun
  · have hcc := 0
    have t_Deal : (sv.toList == [100, 101, 97, 108]) = false := by rw [hsv, bs_toList, n_Run]; decide
    have t_Open : (sv.toList == [111, 112, 101, 110]) = false := by rw [hsv, bs_toList, n_Run]; decide
    have t_Clear : (sv.toList == [99, 108, 101, 97, 114]) = false := by rw [hsv, bs_toList, n_Run]; decide
    have t_Show : (sv.toList == [115, 104, 111, 119]) = false := by rw [hsv, bs_toList, n_Run]; decide
    have t_Run : (sv.toList == [114, 117, 110]) = true := by rw [hsv, bs_toList, n_Run]; rfl
    have t_Keys : (sv.toList == [107, 101, 121, 115]) = false := by rw [hsv, bs_toList, n_Run]; decide
    have HK := Lib.hid (HSAME.out _ (by unfold plainA; rw [if_neg (by rw [n_Run]; decide), if_neg (by rw [n_Run]; decide), if_neg (by rw [n_Run]; decide), if_neg (by rw [n_Run]; decide), if_pos n_Run]))
    have CO := Lib.hid (netted_any 59 #[.pointer (some ⟨w.heap.size, 0, none⟩)] (runF n) db b.tx _ w1 BX1.out L1.out.lay (fun x W => by kernel_rfl) (fun v gs os W hb hC h0 => pRun_any w.heap.size n _ v gs os W ((hb.cell (p := ⟨w.heap.size, 0, none⟩) hlt1).trans hcn) (Nat.lt_of_lt_of_le hlt1 hb.size) (by rw [HNL.out]; exact ((KN.out.below B1.out).below hb).is) HN0.out (L1.out.lay.below hb) hC h0))
    rw [HW1.out] at CO
    clear hsv n_Run hw1 hcn hcc
    go_enter Tryz.func31, Tryz.ntmps31
    go_wp2_with fail
    refine CO.out.mono ?_
    rw [← HW1.out]
    rintro e w' ⟨rfl, hb⟩
    have BB := Lib.hid (below_trans B1.out hb hsz1)
    clear hb
    try dsimp only
    go_wp2_with fail
    exact HK.out _ BB.out
  by_cases n_Keys : v = wKeys
  · have hcc := 0
    have t_Deal : (sv.toList == [100, 101, 97, 108]) = false := by rw [hsv, bs_toList, n_Keys]; decide
    have t_Open : (sv.toList == [111, 112, 101, 110]) = false := by rw [hsv, bs_toList, n_Keys]; decide
    have t_Clear : (sv.toList == [99, 108, 101, 97, 114]) = false := by rw [hsv, bs_toList, n_Keys]; decide
    have t_Show : (sv.toList == [115, 104, 111, 119]) = false := by rw [hsv, bs_toList, n_Keys]; decide
    have t_Run : (sv.toList == [114, 117, 110]) = false := by rw [hsv, bs_toList, n_Keys]; decide
    have t_Keys : (sv.toList == [107, 101, 121, 115]) = true := by rw [hsv, bs_toList, n_Keys]; rfl
    by_cases hc : n.length = 2
    · have hc0 := hc
      have hNL := HNL.out
      have d2 : ((N : Int) == 2) = true := by rw [beq_iff_eq]; omega
      obtain ⟨z0, z1, rfl⟩ : ∃ z0 z1, n = [z0, z1] := by
        match n, hc with
        | [z0, z1], _ => exact ⟨z0, z1, rfl⟩
      obtain ⟨b3, c3', hv, _, l_b, hcell⟩ := own_ints KN.out (by simp)
      injection hv with hv1 _ hv3
      subst hv1 hv3
      have hN2 : N = 2 := by rw [HNL.out]; rfl
      clear d2
      subst hN2
      have y0 := (B1.out.cell (p := ⟨b3, 0, none⟩) l_b).trans (hcell 0 z0 rfl)
      have y1 := (B1.out.cell (p := ⟨b3, 1, none⟩) l_b).trans (hcell 1 z1 rfl)
      have lb3 := Nat.lt_of_lt_of_le l_b hsz1
      by_cases hok : 0 ≤ z1 ∧ z1 ≤ 4 ∧ 1 ≤ z0 ∧ z0 ≤ 9 ∧ 2 * z1 + 1 ≤ z0
      · obtain ⟨Tn, rfl⟩ := Int.eq_ofNat_of_zero_le hok.1
        obtain ⟨Nn, rfl⟩ := Int.eq_ofNat_of_zero_le (show 0 ≤ z0 by omega)
        have HK := Lib.hid (HYES.out okT ⟨b.tx, some ⟨Nn, Tn, 0, 0, fun _ => none⟩⟩ (by unfold plainA; rw [if_neg (by rw [n_Keys]; decide), if_neg (by rw [n_Keys]; decide), if_neg (by rw [n_Keys]; decide), if_neg (by rw [n_Keys]; decide), if_neg (by rw [n_Keys]; decide), if_pos n_Keys, if_pos hc0]; exact congrArg some (if_pos hok)))
        have CN := Lib.hid (fun q => kNew_ok Nn Tn (w1.drewN q) (by omega) (by omega) (by omega) (by omega))
        clear hsv n_Keys hc hc0 hw1 hcc hNL hcell hok
        go_enter Tryz.func31, Tryz.ntmps31
        go_wp2_with fail
        rw [← HW1.out]
        go_region_held3 (fun w' => w'.cell? ⟨w.heap.size, 0, none⟩ = some (.slice (some ⟨b3, 0, none⟩) 2 c3) ∧ w'.cell? ⟨b3, 0, none⟩ = some (.int .i64 (Nn : Int)) ∧ w'.cell? ⟨b3, 1, none⟩ = some (.int .i64 (Tn : Int))) (go_keep) (first | (go_at_call 61; refine (CN.out _).mono ?_; rintro e W1 ⟨kb, mb, V, rfl, hk, hb⟩; have D1 := Lib.hid ((below_drewN (Below.refl w1.heap.size w1) _).trans hb); have q1_0 := (D1.out.cell (p := ⟨w.heap.size, 0, none⟩) hlt1).trans hcn; have q1_1 := (D1.out.cell (p := ⟨b3, 0, none⟩) lb3).trans y0; have q1_2 := (D1.out.cell (p := ⟨b3, 1, none⟩) lb3).trans y1; have HKS := Lib.hid hk; clear hk hb CN))
        have B2 := Lib.hid (below_trans B1.out D1.out hsz1)
        have BX2 := Lib.hid (BX1.out.below D1.out)
        have hf1 := BX2.out.frozen 1
        have hq1 := BX2.out.cell (i := 1) rfl
        obtain ⟨W3, hW3⟩ : ∃ W3, W3 = W1.setCell ⟨db, 1, none⟩ (.pointer (some ⟨kb, 0, none⟩)) := ⟨_, rfl⟩
        have G3 := Lib.hid (show W1.grownBy W3 (some db) by rw [hW3]; exact set_grown W1 db 1 _)
        have BX3 := Lib.hid (show Box W3 db 32 [.string (bs b.tx), .pointer (some ⟨kb, 0, none⟩)] by rw [hW3]; exact BX2.out.set 1 _)
        have HKP3 := Lib.hid (show KeepIs W3 base (.pointer (some ⟨kb, 0, none⟩)) (some ⟨Nn, Tn, 0, 0, fun _ => none⟩) from KeepIs.grown (show KeepIs W1 base (.pointer (some ⟨kb, 0, none⟩)) (some ⟨Nn, Tn, 0, 0, fun _ => none⟩) from ⟨kb, mb, V, rfl, HKS.out.less (Nat.le_trans hbw hsz1)⟩) G3.out hdb)
        have L3 := Lib.hid (show LayB db W3 from (L1.out.low (D1.out.mono (Nat.le_of_lt hdl1))).low ⟨G3.out.os, G3.out.tape, G3.out.output, G3.out.size, fun k hk => G3.out.block k (Nat.lt_of_lt_of_le hk (Nat.le_of_lt (Nat.lt_of_lt_of_le hdl1 D1.out.size))) (fun e => by injection e with e; omega)⟩)
        have CD := Lib.hid (done_any 0 W3 (by omega) (by omega) L3.out.lay.2.1)
        rw [hW3] at CD
        have HW3 := Lib.hid hW3
        clear hW3 q1_0 q1_1 q1_2
        go_wp2_with fail
        refine CD.out.mono ?_
        rw [← HW3.out]
        rintro e W4 ⟨rfl, hb⟩
        have HK4 := Lib.hid (HK.out W4 ⟨_, BX3.out.below hb, HKP3.out.below hb⟩ (((Left.of_below B2.out).trans (.of_grown G3.out)).below hb))
        clear hb
        try dsimp only
        go_wp2_with fail
        exact HK4.out
      · have HK := Lib.hid (HSAME.out _ (by unfold plainA; rw [if_neg (by rw [n_Keys]; decide), if_neg (by rw [n_Keys]; decide), if_neg (by rw [n_Keys]; decide), if_neg (by rw [n_Keys]; decide), if_neg (by rw [n_Keys]; decide), if_pos n_Keys, if_pos hc0]; exact congrArg some (if_neg hok)))
        have CN := Lib.hid (fun q => kNew_bad z0 z1 (w1.drewN q) hok)
        have CD := Lib.hid (fun q => done_any 1 (w1.drewN q) (by omega) (by omega) L1.out.lay.2.1)
        clear hsv n_Keys hc hc0 hw1 hcc hNL hcell hok
        go_enter Tryz.func31, Tryz.ntmps31
        go_wp2_with fail
        rw [← HW1.out]
        go_region_held3 (fun w' => w'.cell? ⟨w.heap.size, 0, none⟩ = some (.slice (some ⟨b3, 0, none⟩) 2 c3) ∧ w'.cell? ⟨b3, 0, none⟩ = some (.int .i64 z0) ∧ w'.cell? ⟨b3, 1, none⟩ = some (.int .i64 z1)) (go_keep) ((go_at_call 61; refine (CN.out _).mono ?_; rintro e W2 ⟨rfl, rfl⟩))
        trace_state
        go_wp2_with fail
        refine (CD.out _).mono ?_
        rintro e W4 ⟨rfl, hb⟩
        have BB := Lib.hid (B1.out.trans ((below_drewN (Below.refl w1.heap.size w1) _).trans hb |>.mono hsz1))
        clear hb
        try dsimp only
        go_wp2_with fail
        exact HK.out _ BB.out
    · have hc0 := hc
      have hNL := HNL.out
      have d2 : ((N : Int) == 2) = false := by rw [beq_eq_false_iff_ne]; omega
      have HK := Lib.hid (HNO.out (by unfold plainA; rw [if_neg (by rw [n_Keys]; decide), if_neg (by rw [n_Keys]; decide), if_neg (by rw [n_Keys]; decide), if_neg (by rw [n_Keys]; decide), if_neg (by rw [n_Keys]; decide), if_pos n_Keys, if_neg hc]))
      clear hsv n_Keys hc hc0 hNL hw1 hcn hcc
      go_enter Tryz.func31, Tryz.ntmps31
      go_wp2_with fail
      have hk := HK.out _ B1.out
      rw [HW1.out] at hk
      exact hk
  have t_Deal : (sv.toList == [100, 101, 97, 108]) = false := by rw [hsv, bs_toList, beq_eq_false_iff_ne]; exact n_Deal
  have t_Open : (sv.toList == [111, 112, 101, 110]) = false := by rw [hsv, bs_toList, beq_eq_false_iff_ne]; exact n_Open
  have t_Clear : (sv.toList == [99, 108, 101, 97, 114]) = false := by rw [hsv, bs_toList, beq_eq_false_iff_ne]; exact n_Clear
  have t_Show : (sv.toList == [115, 104, 111, 119]) = false := by rw [hsv, bs_toList, beq_eq_false_iff_ne]; exact n_Show
  have t_Run : (sv.toList == [114, 117, 110]) = false := by rw [hsv, bs_toList, beq_eq_false_iff_ne]; exact n_Run
  have t_Keys : (sv.toList == [107, 101, 121, 115]) = false := by rw [hsv, bs_toList, beq_eq_false_iff_ne]; exact n_Keys
  have HK := Lib.hid (HNO.out (by unfold plainA; rw [if_neg n_Deal, if_neg n_Open, if_neg n_Clear, if_neg n_Show, if_neg n_Run, if_neg n_Keys]))
  clear hsv hw1 hcn n_Deal n_Open n_Clear n_Show n_Run n_Keys
  go_enter Tryz.func31, Tryz.ntmps31
  go_wp2_with fail
  have hk := HK.out _ B1.out
  rw [HW1.out] at hk
  exact hk
theorem idxL_le (x : List UInt8) : ∀ l, idxL x l ≤ l.length
  | [] => Nat.le_refl _
  | y :: l => by
    have := idxL_le x l
    unfold idxL
    split
    · omega
    · rw [List.length_cons]; omega
theorem idxL_hit (x : List UInt8) : ∀ l, idxL x l < l.length → l[idxL x l]? = some x
  | [], h => by simp [idxL] at h
  | y :: l, h => by
    unfold idxL at h ⊢
    split
    · next e => subst e; rfl
    · next e =>
      rw [if_neg e, List.length_cons] at h
      rw [List.getElem?_cons_succ]
      exact idxL_hit x l (by omega)
theorem idxL_before (x : List UInt8) : ∀ l j, j < idxL x l → l[j]? ≠ some x
  | [], j, h => by simp [idxL] at h
  | y :: l, j, h => by
    unfold idxL at h
    split at h
    · omega
    · next e =>
      cases j with
      | zero => rw [List.getElem?_cons_zero]; intro h2; injection h2 with h2; exact e h2.symm
      | succ j => rw [List.getElem?_cons_succ]; exact idxL_before x l j (by omega)
theorem idx_any (x : List UInt8) (va : Value) (ws : List (List UInt8)) (w : World) (h : IsStrs w va ws) :
    Calls Tryz.prog 34 #[va, .string (bs x)] w fun e w' => e = .returned (.int .i64 (if idxL x ws < ws.length then (idxL x ws : Int) else -1)) ∧ w = w' := by
  obtain ⟨A, c, rfl, hc, hm, hl, hr⟩ := h
  rcases Nat.eq_zero_or_pos ws.length with h0 | hp
  · have : ws = [] := List.length_eq_zero_iff.1 h0
    subst this
    refine (sh_slices_Index_string_empty A c (bs x) w).mono fun e w' hh => ?_
    obtain ⟨rfl, rfl⟩ := hh
    exact ⟨rfl, rfl⟩
  · obtain ⟨b, o, rfl, hb, hcell⟩ := hr.at_ (j := 0) (by rw [sts_length]; exact hp)
    have hg : ∀ (j : Nat) (hj : j < ws.length), (ws.map bs).getD j ByteArray.empty = bs ws[j] := fun j hj => by
      simp [List.getD, List.getElem?_eq_getElem hj]
    have hc' : ∀ j, j < (ws.map bs).length → w.cell? ⟨b, o + j, none⟩ = some (.string ((ws.map bs).getD j ByteArray.empty)) := fun j hj => by
      rw [List.length_map] at hj
      rw [hcell j (by rw [sts_length]; exact hj), sts_get, hg j hj, List.getElem?_eq_getElem hj]
      rfl
    have hlen : (ws.map bs).length = ws.length := List.length_map ..
    refine (sh_slices_Index_string b o ws.length c (ws.map bs) (bs x) w (by omega) (by omega) hc').mono fun e w' hh => ?_
    obtain ⟨rfl, rfl⟩ := hh
    refine ⟨?_, rfl⟩
    congr 2
    by_cases hi : idxL x ws < ws.length
    · rw [if_pos hi]
      have h1 := idxL_hit x ws hi
      rw [List.getElem?_eq_getElem hi] at h1
      refine Lib.idxOfS_hit (ws.map bs) ws.length (idxL x ws) (bs x) hi (by omega) (by rw [hg _ hi]; injection h1 with h1; rw [h1]) (fun j hj he => ?_)
      have hjl : j < ws.length := by omega
      rw [hg j hjl] at he
      exact idxL_before x ws j hj (by rw [List.getElem?_eq_getElem hjl, bs_inj he])
    · rw [if_neg hi]
      refine Lib.idxOfS_miss (ws.map bs) ws.length (bs x) (fun j hj he => ?_)
      rw [hg j hj] at he
      have hle := idxL_le x ws
      exact idxL_before x ws j (by omega) (by rw [List.getElem?_eq_getElem hj, bs_inj he])
set_option maxRecDepth 100000 in
theorem sslice_to (A : Option Addr) (m c hi : Nat) (h2 : hi ≤ c) (W : World) :
    (Instr.slice 24 (.slice A m c) none (some (.int .i64 (hi : Int))) none).run Tryz.prog W = .ok (.slice A hi c) W := by
  have hU : Program.underlying Tryz.prog 24 = some (.slice (Program.elem Tryz.prog 24)) := by kernel_rfl
  have hs : ∀ W, (sizeOf (Program.elem Tryz.prog 24)).run Tryz.prog W = .ok 1 W := fun W => by kernel_rfl
  rw [run_slice_h W _ A m c hU .i64 _ (by omega) (by omega), hs]
  simp only [Result.andThen, sliced, Nat.zero_mul, Nat.sub_zero, Int.toNat_natCast]
  congr 2
  split
  · rfl
  · cases A with
    | none => rfl
    | some a =>
      obtain ⟨b, o, s⟩ := a
      simp [Addr.add]
theorem IsStrs.first {w : World} {A : Option Addr} {len c : Nat} {l : List (List UInt8)} (h : IsStrs w (.slice A len c) l) (k : Nat) (hk : k ≤ l.length) : IsStrs w (.slice A k c) (l.take k) := by
  obtain ⟨A1, c1, e, h1, h2, h3, h4⟩ := h
  injection e with e1 e2 e3
  subst e1 e2 e3
  have hl : (l.take k).length = k := by rw [List.length_take]; omega
  refine ⟨A, c, by rw [hl], by omega, h2, by omega, ?_⟩
  rcases Nat.eq_zero_or_pos k with h0 | hp
  · subst h0; exact .inl rfl
  · obtain ⟨b, o, rfl, hb, hcell⟩ := h4.at_ (j := 0) (by rw [sts_length]; omega)
    refine .inr ⟨b, o, rfl, hb, fun j hj => ?_⟩
    rw [sts_length, hl] at hj
    rw [hcell j (by rw [sts_length]; omega), sts_get, sts_get, List.getElem?_take, if_pos hj]
set_option maxRecDepth 100000 in
set_option maxHeartbeats 4000000 in
theorem work_any (base db : Nat) (b : Bench) (va : Value) (ws : List (List UInt8)) (w : World) (hd : DeskIs w base db b) (h1 : IsStrs w va ws) (hsz : ∀ x ∈ ws, x.length ≤ 1000000) (hwl : ws.length ≤ 100000) (hL : LayB db w) :
    Calls Tryz.prog 28 #[.pointer (some ⟨db, 0, none⟩), va] w fun e w' => e = .returned (.string (bs (workA b.tx ws))) ∧ Below w.heap.size w w' := by
  have HL := Lib.hid hL
  have KS := Lib.hid h1
  obtain ⟨kp, hbx, _⟩ := hd
  have BX := Lib.hid hbx
  have hdl := hbx.lt
  have CI := Lib.hid (idx_any [47] va ws w h1)
  obtain ⟨A, c, rfl, hc, _, _, _⟩ := h1
  have HSZ := Lib.hid hsz
  suffices hgoal : ∀ Post : Ending → World → Prop, (∀ w', Below w.heap.size w w' → Post (.returned (.string (bs (workA b.tx ws)))) w') → Calls Tryz.prog 28 #[.pointer (some ⟨db, 0, none⟩), .slice A ws.length c] w Post from hgoal _ fun w' h => ⟨rfl, h⟩
  intro Post hpo
  have HP := Lib.hid hpo
  have CF3 := Lib.hid (fun W (hW : Lay W) => failed_any 3 W (by omega) (by omega) hW.2.1)
  obtain ⟨i, hi⟩ : ∃ i, i = idxL [47] ws := ⟨_, rfl⟩
  obtain ⟨N, hN⟩ : ∃ N, N = ws.length := ⟨_, rfl⟩
  have HW := Lib.hid (show workA b.tx ws = if i < N then (if numsOk (ws.take i) = true ∧ numsOk (ws.drop (i + 1)) = true ∧ 2 ≤ i then netA b.tx (workF ((ws.take i).map numR) ((ws.drop (i + 1)).map numR)) else errT 3) else errT 3 by rw [hi, hN]; rfl)
  rw [← hi] at CI
  have HNL := Lib.hid hN
  rw [← hN] at CI hc hwl ⊢
  clear hpo hsz hL hbx hi hN
  by_cases hlt : i < N
  · rw [if_pos hlt] at CI
    rw [if_pos hlt] at HW
    have hi0 : decide ((i : Int) < 0) = false := by simp
    have hs1 := sslice_to A N c i (by omega)
    have hw1 : IntKind.i64.wrap ((i : Int) + 1) = (i : Int) + 1 := IntWalk.i64_in _ (by omega)
    have hs2 := sslice_from A N c (i + 1) ((i : Int) + 1) (by omega) (by omega)
    have ha := (KS.out).first i (by rw [← HNL.out]; omega)
    have hb := (show IsStrs w (.slice A ws.length c) ws from KS.out).from_ (i + 1) (by rw [← HNL.out]; omega)
    rw [← HNL.out] at hb
    obtain ⟨vt, hvt⟩ : ∃ vt, vt = Value.slice (if c = i + 1 then A else A.map (·.add ((i + 1) * 1))) (N - (i + 1)) (c - (i + 1)) := ⟨_, rfl⟩
    rw [← hvt] at hb hs2
    have KB := Lib.hid hb
    have hal : (ws.take i).length = i := by rw [List.length_take, ← HNL.out]; omega
    have hnl : numsOk (ws.take i) = true → (numbersL (ws.take i)).length = i := fun h => by unfold numbersL; rw [if_pos h, List.length_map, hal]
    have CN1 := Lib.hid (dNumbers_any _ _ w ha (fun x hx => by have := HSZ.out x (List.mem_of_mem_take hx); omega))
    have CN2 := Lib.hid (fun W (hW : Below w.heap.size w W) => dNumbers_any vt _ W (KB.out.below hW) (fun x hx => by have := HSZ.out x (List.mem_of_mem_drop hx); omega))
    obtain ⟨a, hA⟩ : ∃ a, a = ws.take i := ⟨_, rfl⟩
    obtain ⟨d, hD⟩ : ∃ d, d = ws.drop (i + 1) := ⟨_, rfl⟩
    rw [← hA] at CN1 hnl HW
    rw [← hD] at CN2 HW
    have HNLA := Lib.hid hnl
    obtain ⟨La, hLa⟩ : ∃ La, La = numbersL a := ⟨_, rfl⟩
    obtain ⟨Ld, hLd⟩ : ∃ Ld, Ld = numbersL d := ⟨_, rfl⟩
    have HLA := Lib.hid hLa
    have HLD := Lib.hid hLd
    rw [← hLa] at CN1
    rw [← hLd] at CN2
    obtain ⟨o1, ho1⟩ : ∃ o1, o1 = numsOk a := ⟨_, rfl⟩
    obtain ⟨o2, ho2⟩ : ∃ o2, o2 = numsOk d := ⟨_, rfl⟩
    have HO1 := Lib.hid ho1
    have HO2 := Lib.hid ho2
    rw [← ho1] at CN1 HW
    rw [← ho2] at CN2 HW
    clear ha hb hvt hal hnl hA hD hLa hLd ho1 ho2
    go_enter Tryz.func28, Tryz.ntmps28
    go_wp2_with fail
    refine CI.out.mono ?_
    rintro e w' ⟨rfl, rfl⟩
    try dsimp only
    go_wp2_with fail
    refine CN1.out.mono ?_
    rintro e W1 ⟨v1, rfl, hw1', hb1⟩
    obtain ⟨A1, c1, rfl, hcc1, _⟩ := own_form hw1'.1
    have K1 := Lib.hid hw1'
    have B1 := Lib.hid hb1
    clear hw1' hb1
    try dsimp only
    have BA1 := Lib.hid (B1.out.alloc B1.out.size (.cells #[.slice A1 La.length c1] 53))
    have XA1 := Lib.hid (Box.new W1 53 [.slice A1 La.length c1])
    go_wp2_with fail
    refine (CN2.out _ BA1.out).mono ?_
    rintro e W2 ⟨v2, rfl, hw2', hb2⟩
    obtain ⟨A2, c2, rfl, hcc2, _⟩ := own_form hw2'.1
    have K2 := Lib.hid hw2'
    have B2 := Lib.hid (below_trans BA1.out hb2 BA1.out.size)
    have XA2 := Lib.hid (XA1.out.below hb2)
    have KA2 := Lib.hid ((K1.out.below ((Below.refl W1.heap.size W1).alloc (Nat.le_refl _) (.cells #[.slice A1 La.length c1] 53))).below hb2)
    have BA2 := Lib.hid (B2.out.alloc B2.out.size (.cells #[.slice A2 Ld.length c2] 53))
    have hcell1 := XA2.out.cell (i := 0) rfl
    clear hw2' hb2
    have hcell2 : (W2.alloc (.cells #[.slice A2 Ld.length c2] 53)).cell? ⟨W1.heap.size, 0, none⟩ = some (.slice A1 La.length c1) := (XA2.out.alloc _).cell (i := 0) rfl
    have hltx := XA2.out.lt
    have HCD := Lib.hid ((Box.new W2 53 [.slice A2 Ld.length c2]).cell (i := 0) rfl)
    have LW := Lib.hid (HL.out.low (BA2.out.mono (Nat.le_of_lt hdl)))
    try dsimp only
    have CF := Lib.hid (CF3.out _ LW.out.lay)
    cases o1 with
    | false =>
      have HWE := Lib.hid (show workA b.tx ws = errT 3 by rw [HW.out, if_neg (by simp)])
      rw [HWE.out] at HP
      go_wp2_with fail
      refine CF.out.mono ?_
      rintro e W3 ⟨rfl, hb⟩
      have BB := Lib.hid (below_trans BA2.out hb BA2.out.size)
      clear hb
      try dsimp only
      go_wp2_with fail
      exact HP.out _ BB.out
    | true =>
      cases o2 with
      | false =>
        have HWE := Lib.hid (show workA b.tx ws = errT 3 by rw [HW.out, if_neg (by simp)])
        rw [HWE.out] at HP
        go_wp2_with fail
        refine CF.out.mono ?_
        rintro e W3 ⟨rfl, hb⟩
        have BB := Lib.hid (below_trans BA2.out hb BA2.out.size)
        clear hb
        try dsimp only
        go_wp2_with fail
        exact HP.out _ BB.out
      | true =>
        have hLi := HNLA.out HO1.out.symm
        rw [← HLA.out] at hLi
        by_cases h2 : 2 ≤ i
        · have hq : ¬ La.length < 2 := by omega
          have hqI : ¬ (La.length : Int) < 2 := by omega
          have hqd : decide ((La.length : Int) < 2) = false := decide_eq_false hqI
          have hLa : La = a.map numR := by rw [HLA.out]; exact if_pos HO1.out.symm
          have hLd : Ld = d.map numR := by rw [HLD.out]; exact if_pos HO2.out.symm
          have HWE := Lib.hid (show workA b.tx ws = netA b.tx (workF La Ld) by rw [HW.out, if_pos ⟨rfl, rfl, h2⟩, hLa, hLd])
          rw [HWE.out] at HP
          have hna : ∀ z ∈ La, 0 ≤ z := by rw [hLa]; exact numsOk_nonneg HO1.out.symm
          have hnd : ∀ z ∈ Ld, 0 ≤ z := by rw [hLd]; exact numsOk_nonneg HO2.out.symm
          have hs2x : W2.heap.size < (W2.alloc (.cells #[.slice A2 Ld.length c2] 53)).heap.size := by rw [size_alloc]; omega
          have CNT := Lib.hid (netted_any 50 #[.pointer (some ⟨W1.heap.size, 0, none⟩), .pointer (some ⟨W2.heap.size, 0, none⟩)] (workF La Ld) db b.tx _ _ (BX.out.below BA2.out) LW.out.lay (fun x W => by kernel_rfl)
            (fun v gs os W hb hC _ => wRun_any W1.heap.size W2.heap.size w.heap.size La Ld _ _ v gs os W ((hb.cell (p := ⟨W1.heap.size, 0, none⟩) (Nat.lt_trans hltx hs2x)).trans hcell2) ((hb.cell (p := ⟨W2.heap.size, 0, none⟩) hs2x).trans HCD.out) (Nat.lt_of_lt_of_le (Nat.lt_trans hltx hs2x) hb.size) (Nat.lt_of_lt_of_le hs2x hb.size)
              ((KA2.out.alloc _).below hb) hna ((K2.out.alloc _).below hb).is hnd (by omega) (LW.out.lay.below hb) hC))
          clear hLa hLd hna hnd hLi
          go_wp2_with fail
          refine CNT.out.mono ?_
          rintro e W3 ⟨rfl, hb⟩
          have BB := Lib.hid (below_trans BA2.out hb BA2.out.size)
          clear hb
          try dsimp only
          go_wp2_with fail
          exact HP.out _ BB.out
        · have hqI : (La.length : Int) < 2 := by omega
          have hq : La.length < 2 := by omega
          have hqd : decide ((La.length : Int) < 2) = true := decide_eq_true hqI
          have HWE := Lib.hid (show workA b.tx ws = errT 3 by rw [HW.out, if_neg (fun h => h2 h.2.2)])
          rw [HWE.out] at HP
          clear hLi
          go_wp2_with fail
          refine CF.out.mono ?_
          rintro e W3 ⟨rfl, hb⟩
          have BB := Lib.hid (below_trans BA2.out hb BA2.out.size)
          clear hb
          try dsimp only
          go_wp2_with fail
          exact HP.out _ BB.out
  · rw [if_neg hlt] at CI
    rw [if_neg hlt] at HW
    rw [HW.out] at HP
    clear HNL hlt
    go_enter Tryz.func28, Tryz.ntmps28
    go_wp2_with fail
    refine CI.out.mono ?_
    rintro e w' ⟨rfl, rfl⟩
    try dsimp only
    go_wp2_with fail
    refine (CF3.out _ HL.out.lay).mono ?_
    rintro e w' ⟨rfl, hb⟩
    have BB := Lib.hid hb
    clear hb
    try dsimp only
    go_wp2_with fail
    exact HP.out _ BB.out
end Go.Proofs.YtploomncapiloaaGreatDoor
