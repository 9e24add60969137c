/- Parts of the proof, put together by a program: DeskC. No condition. -/
import Derived.Test.YtploomncapiloaaGreatDoorDAZ
namespace Go.Proofs.YtploomncapiloaaGreatDoor
open Go.RowKit Go.Sort Go.PlainAid Croft
theorem ints_from {w : World} {A : Option Addr} {c lo : Nat} {zs : List Int} (h : IsInts w (.slice A zs.length c) zs) (h1 : lo ≤ zs.length) : IsInts w (.slice (if c = lo then A else A.map (·.add (lo * 1))) (zs.length - lo) (c - lo)) (zs.drop lo) := by
  obtain ⟨A1, c1, e1, e2, e3, e4, e5, e6⟩ := h
  injection e1 with e1a _ e1c
  subst e1a e1c
  have hl : (zs.drop lo).length = zs.length - lo := by simp
  refine ⟨_, _, by rw [hl], by rw [hl]; omega, by omega, by rw [hl]; omega, fun z hz => e5 z (List.mem_of_mem_drop hz), ?_⟩
  rcases Nat.lt_or_ge lo zs.length with hlt | hge
  · obtain ⟨b, o, rfl, hb, hc⟩ := e6.at_ (j := lo) (by rw [i64s_length]; omega)
    rw [if_neg (by omega)]
    refine .inr ⟨b, o + lo, by simp [add_addr], hb, fun j hj => ?_⟩
    rw [i64s_length, hl] at hj
    rw [Nat.add_assoc, hc _ (by rw [i64s_length]; omega), i64s_get, i64s_get, List.getElem?_drop]
  · have h0 : zs.drop lo = [] := List.drop_of_length_le hge
    rw [h0]; exact .inl (by simp [i64s])
theorem islice_from (A : Option Addr) (m c lo : Nat) (x : Int) (hx : x = lo) (h1 : lo ≤ m) (W : World) :
    (Instr.slice 53 (.slice A m c) (some (.int .i64 x)) none none).run Tryz.prog W = .ok (.slice (if c = lo then A else A.map (·.add (lo * 1))) (m - lo) (c - lo)) W := by
  subst hx
  have hU : Program.underlying Tryz.prog 53 = some (.slice (Program.elem Tryz.prog 53)) := by kernel_rfl
  have hs : ∀ W, (sizeOf (Program.elem Tryz.prog 53)).run Tryz.prog W = .ok 1 W := fun W => by kernel_rfl
  rw [run_slice_l W _ A m c hU .i64 _ (by omega) (by omega), hs]
  simp [Result.andThen, sliced]
theorem islice_fromA (A : Option Addr) (m c lo : Nat) (x : Int) (hx : x = lo) (h1 : lo ≤ m) (W : World) :
    (Instr.sliceAt 53 (.slice A m c) (some (.int .i64 x)) none none).run Tryz.prog W = .ok (.slice (if c = lo then A else A.map (·.add (lo * 1))) (m - lo) (c - lo)) W := by
  have hU : Program.underlying Tryz.prog 53 = some (.slice (Program.elem Tryz.prog 53)) := by kernel_rfl
  rw [run_sliceAt_slice _ _ _ _ _ _ hU]
  exact islice_from A m c lo x hx h1 W
theorem own_ints {w : World} {lo : Nat} {v : Value} {zs : List Int} (h : OwnInts w lo v zs) (h1 : 0 < zs.length) : ∃ b c, v = .slice (some ⟨b, 0, none⟩) zs.length c ∧ lo ≤ b ∧ b < w.heap.size ∧ ∀ (k : Nat) (z : Int), zs[k]? = some z → w.cell? ⟨b, k, none⟩ = some (.int .i64 z) := by
  obtain ⟨g, c, rfl, h2, h3⟩ := own_slice h.1 h1
  obtain ⟨A, c', e1, _, _, _, e5, e6⟩ := h.is
  injection e1 with e1 _ _
  subst e1
  refine ⟨g, c, rfl, h2, h3, fun k z hz => ?_⟩
  obtain ⟨b, o, y, e2, _, hy, _, hc⟩ := ints_at e6 e5 (List.getElem?_eq_some_iff.1 hz).1
  injection e2 with e2
  injection e2 with e2 e3 _
  subst e2 e3
  rw [hz] at hy
  injection hy with hy
  subst hy
  rw [Nat.zero_add] at hc
  exact hc
theorem Near.undrew {kb mb n : Nat} {w w' : World} (h : Near kb mb (w.drewN n) w') : Near kb mb w w' := ⟨h.os, h.tape, h.output, h.size, h.block⟩
theorem near_cell {kb mb : Nat} {w w' : World} {p : Addr} (h : Near kb mb w w') (hl : p.block < w.heap.size) (h1 : p.block ≠ kb) (h2 : p.block ≠ mb) : w'.cell? p = w.cell? p := World.cell?_of_block (h.block p.block hl h1 h2)
def LayB (lo : Nat) (w : World) : Prop := ∃ w0, Lay w0 ∧ Below w0.heap.size w0 w ∧ w0.heap.size ≤ lo
theorem LayB.lay {lo : Nat} {w : World} (h : LayB lo w) : Lay w := by
  obtain ⟨w0, h1, h2, _⟩ := h; exact h1.below h2
theorem LayB.low {lo : Nat} {w w' : World} (h : LayB lo w) (hb : Below lo w w') : LayB lo w' := by
  obtain ⟨w0, h1, h2, h3⟩ := h; exact ⟨w0, h1, h2.trans (hb.mono h3), h3⟩
structure Held (w : World) (base kb mb lo bk bn : Nat) (k : Keep) (va : Value) (n : List Int) : Prop where
  keys : KI base kb mb w k
  ok : k.Ok 1000
  ck : w.cell? ⟨bk, 0, none⟩ = some (.pointer (some ⟨kb, 0, none⟩))
  cn : w.cell? ⟨bn, 0, none⟩ = some va
  own : OwnInts w lo va n
  nn : ∀ z ∈ n, 0 ≤ z
  lay : LayB base w
  p1 : kb < lo
  p2 : mb < lo
  p3 : lo ≤ bk
  p4 : lo ≤ bn
  p5 : bk < w.heap.size
  p6 : bn < w.heap.size
section
variable {base kb mb lo : Nat}
theorem Held.far {w : World} {bk bn : Nat} {k : Keep} {va : Value} {n : List Int} (h : Held w base kb mb lo bk bn k va n) : bk < w.heap.size ∧ bk ≠ kb ∧ bk ≠ mb ∧ bn < w.heap.size ∧ bn ≠ kb ∧ bn ≠ mb := by
  have := h.p1; have := h.p2; have := h.p3; have := h.p4; have := h.p5; have := h.p6
  omega
theorem Held.bk {w : World} {bk bn : Nat} {k : Keep} {va : Value} {n : List Int} (h : Held w base kb mb lo bk bn k va n) : base ≤ kb := by
  obtain ⟨V, hk⟩ := h.keys; exact hk.le
theorem Held.bm {w : World} {bk bn : Nat} {k : Keep} {va : Value} {n : List Int} (h : Held w base kb mb lo bk bn k va n) : base ≤ mb := by
  obtain ⟨V, hk⟩ := h.keys; exact hk.store.le
theorem Held.bw {w : World} {bk bn : Nat} {k : Keep} {va : Value} {n : List Int} (h : Held w base kb mb lo bk bn k va n) : base ≤ w.heap.size := by
  obtain ⟨V, hk⟩ := h.keys; have := hk.le; have := hk.lt; omega
def KRes (base kb mb : Nat) (r : List UInt8 × Keep) (w : World) (e : Ending) (w' : World) : Prop := e = .returned (.string (bs r.1)) ∧ KI base kb mb w' r.2 ∧ Near kb mb w w'
set_option maxRecDepth 100000 in
set_option maxHeartbeats 4000000 in
theorem keyed1_any (n : List Int) (bk bn : Nat) (k : Keep) (va : Value) (w : World) (H : Held w base kb mb lo bk bn k va (n)) :
    Calls Tryz.prog 63 #[.pointer (some ⟨bk, 0, none⟩), .pointer (some ⟨bn, 0, none⟩)] w fun e w' => KRes base kb mb (genA n k) w e w' := by
  have HL := Lib.hid H.lay
  have HK := Lib.hid H.keys
  have HO := Lib.hid H.ok
  have H0 := Lib.hid (And.intro H.bk (And.intro H.bm H.bw))
  have hnn := H.nn
  obtain ⟨l_k, e_k1, e_k2, l_n, e_n1, e_n2⟩ := H.far
  obtain ⟨A3, c3, hv, _⟩ := own_form H.own.1
  obtain ⟨N, hN⟩ : ∃ N, N = n.length := ⟨_, rfl⟩
  rw [← hN] at hv
  subst hv
  have k_0 := H.ck
  have k_1 := H.cn
  have KN := Lib.hid H.own.is
  suffices hgoal : ∀ Post : Ending → World → Prop, (∀ w', KI base kb mb w' (genA n k).2 → Near kb mb w w' → Post (.returned (.string (bs (genA n k).1))) w') → Calls Tryz.prog 63 #[.pointer (some ⟨bk, 0, none⟩), .pointer (some ⟨bn, 0, none⟩)] w Post from hgoal _ fun w' h1 h2 => ⟨rfl, h1, h2⟩
  intro Post hpo
  have HP := Lib.hid hpo
  have CW := Lib.hid (fun q => wide_any _ n (w.drewN q) (KN.out.drewN q) hnn)
  clear hpo H hnn hN
  go_enter Tryz.func63, Tryz.ntmps63
  go_upto_block 1 with fail
  go_region_held3 (fun w' => w'.cell? ⟨bk, 0, none⟩ = some (.pointer (some ⟨kb, 0, none⟩)) ∧ w'.cell? ⟨bn, 0, none⟩ = some (.slice A3 N c3)) (go_keep) (first | (go_at_call 52; refine (CW.out _).mono ?_; rintro e W1 ⟨vw, rfl, ho, hb⟩; have N1 := Lib.hid (Near.of_below (kb := kb) (mb := mb) ((below_drewN (Below.refl w.heap.size w) _).trans hb)); have D1 := Lib.hid ((below_drewN (Below.refl w.heap.size w) _).trans hb); have q1_0 := (near_cell (p := ⟨bk, 0, none⟩) N1.out l_k e_k1 e_k2).trans k_0; have q1_1 := (near_cell (p := ⟨bn, 0, none⟩) N1.out l_n e_n1 e_n2).trans k_1; have CK := Lib.hid (genA_keys _ n W1 (HK.out.below D1.out) ho.is HO.out); clear ho hb CW) | (go_at_call 65; refine (CK.out).mono ?_; rintro e W2 ⟨z, E, rfl, hr, hz, hE, hk, hn⟩; have N2 := Lib.hid (N1.out.trans hn); have q2_0 := (near_cell (p := ⟨bk, 0, none⟩) N2.out l_k e_k1 e_k2).trans k_0; have q2_1 := (near_cell (p := ⟨bn, 0, none⟩) N2.out l_n e_n1 e_n2).trans k_1; have HR := Lib.hid hr; have HZ := Lib.hid hk; have CT := Lib.hid (handle_any z E W2 hz.1 hz.2 hE.1 hE.2 (HL.out.low (N2.out.low H0.out.1 H0.out.2.1 H0.out.2.2)).lay.2.1); clear hr hk hn CK q1_0 q1_1) | (go_at_call 64; refine (CT.out).mono ?_; rintro e W3 ⟨rfl, hb⟩; have N3 := Lib.hid (N2.out.below hb); have q3_0 := (near_cell (p := ⟨bk, 0, none⟩) N3.out l_k e_k1 e_k2).trans k_0; have q3_1 := (near_cell (p := ⟨bn, 0, none⟩) N3.out l_n e_n1 e_n2).trans k_1; have HZ2 := Lib.hid (HZ.out.below hb); clear hb CT q2_0 q2_1))
  go_wp2_with fail
  have hp := HP.out W3 HZ2.out N3.out
  rw [HR.out] at hp
  exact hp
set_option maxRecDepth 100000 in
set_option maxHeartbeats 4000000 in
theorem keyed2_any (z0 : Int) (r : List Int) (bk bn : Nat) (k : Keep) (va : Value) (w : World) (H : Held w base kb mb lo bk bn k va (z0 :: r)) :
    Calls Tryz.prog 66 #[.pointer (some ⟨bk, 0, none⟩), .pointer (some ⟨bn, 0, none⟩)] w fun e w' => KRes base kb mb (refreshA z0 r k) w e w' := by
  have HL := Lib.hid H.lay
  have HK := Lib.hid H.keys
  have HO := Lib.hid H.ok
  have H0 := Lib.hid (And.intro H.bk (And.intro H.bm H.bw))
  have hnn := H.nn
  obtain ⟨l_k, e_k1, e_k2, l_n, e_n1, e_n2⟩ := H.far
  obtain ⟨b3, c3, hv, hb3, l_b, hcell⟩ := own_ints H.own (by simp)
  obtain ⟨N, hN⟩ : ∃ N, N = (z0 :: r).length := ⟨_, rfl⟩
  have hN1 : N ≥ 1 := by simp [hN]
  have hJ0 : 0 < N := by omega
  have hI0 : (0 : Int) < (N : Int) := by omega
  have hNc : N ≤ c3 := by have := H.own.is; obtain ⟨A, c, e1, e2, _⟩ := this; rw [hv] at e1; injection e1 with _ _ e1; omega
  rw [← hN] at hv
  subst hv
  have e_b1 : b3 ≠ kb := by have := H.p1; omega
  have e_b2 : b3 ≠ mb := by have := H.p2; omega
  have k_0 := H.ck
  have k_1 := H.cn
  have k_2 := hcell 0 z0 rfl
  have i_0 := H.own.2.2 z0 (by simp)
  have p_0 := H.nn z0 (by simp)
  have hwz0 : IntKind.u64.wrap z0 = z0 := u64_nonneg p_0 (by have := i_0.2; omega)
  have u_0 : U64 z0 := ⟨p_0, by have := i_0.2; omega⟩
  have hcut := ints_from (lo := 1) (show IsInts w (.slice (some ⟨b3, 0, none⟩) (z0 :: r).length c3) (z0 :: r) by rw [← hN]; exact H.own.is) (by simp)
  rw [← hN] at hcut
  have hs1 := islice_from (some ⟨b3, 0, none⟩) N c3 1 1 rfl (by omega)
  have hs2 := islice_fromA (some ⟨b3, 0, none⟩) N c3 1 1 rfl (by omega)
  obtain ⟨vt, hvt⟩ : ∃ vt, vt = Value.slice (if c3 = 1 then some ⟨b3, 0, none⟩ else (some (⟨b3, 0, none⟩ : Addr)).map (·.add (1 * 1))) (N - 1) (c3 - 1) := ⟨_, rfl⟩
  rw [← hvt] at hcut hs1 hs2
  have KN := Lib.hid hcut
  have hr0 : ∀ z ∈ r, 0 ≤ z := fun z hz => hnn z (by simp [hz])
  clear hcut hvt
  suffices hgoal : ∀ Post : Ending → World → Prop, (∀ w', KI base kb mb w' (refreshA z0 r k).2 → Near kb mb w w' → Post (.returned (.string (bs (refreshA z0 r k).1))) w') → Calls Tryz.prog 66 #[.pointer (some ⟨bk, 0, none⟩), .pointer (some ⟨bn, 0, none⟩)] w Post from hgoal _ fun w' h1 h2 => ⟨rfl, h1, h2⟩
  intro Post hpo
  have HP := Lib.hid hpo
  have CW := Lib.hid (fun q => wide_any _ r (w.drewN q) (KN.out.drewN q) hr0)
  clear hpo H hnn hcell hb3 hN
  go_enter Tryz.func66, Tryz.ntmps66
  go_upto_block 1 with fail
  go_region_held3 (fun w' => w'.cell? ⟨bk, 0, none⟩ = some (.pointer (some ⟨kb, 0, none⟩)) ∧ w'.cell? ⟨bn, 0, none⟩ = some (.slice (some ⟨b3, 0, none⟩) N c3) ∧ w'.cell? ⟨b3, 0, none⟩ = some (.int .i64 z0)) (go_keep) (first | (go_at_call 52; refine (CW.out _).mono ?_; rintro e W1 ⟨vw, rfl, ho, hb⟩; have N1 := Lib.hid (Near.of_below (kb := kb) (mb := mb) ((below_drewN (Below.refl w.heap.size w) _).trans hb)); have D1 := Lib.hid ((below_drewN (Below.refl w.heap.size w) _).trans hb); have q1_0 := (near_cell (p := ⟨bk, 0, none⟩) N1.out l_k e_k1 e_k2).trans k_0; have q1_1 := (near_cell (p := ⟨bn, 0, none⟩) N1.out l_n e_n1 e_n2).trans k_1; have q1_2 := (near_cell (p := ⟨b3, 0, none⟩) N1.out l_b e_b1 e_b2).trans k_2; have CK := Lib.hid (refreshA_keys z0 _ r W1 (HK.out.below D1.out) i_0 ho.is HO.out); clear ho hb CW) | (go_at_call 67; refine (CK.out).mono ?_; rintro e W2 ⟨E, rfl, hr, hE, hk, hn⟩; have N2 := Lib.hid (N1.out.trans hn); have q2_0 := (near_cell (p := ⟨bk, 0, none⟩) N2.out l_k e_k1 e_k2).trans k_0; have q2_1 := (near_cell (p := ⟨bn, 0, none⟩) N2.out l_n e_n1 e_n2).trans k_1; have q2_2 := (near_cell (p := ⟨b3, 0, none⟩) N2.out l_b e_b1 e_b2).trans k_2; have HR := Lib.hid hr; have HZ := Lib.hid hk; have CT := Lib.hid (done_any E W2 hE.1 hE.2 (HL.out.low (N2.out.low H0.out.1 H0.out.2.1 H0.out.2.2)).lay.2.1); clear hr hk hn CK q1_0 q1_1 q1_2) | (go_at_call 62; refine (CT.out).mono ?_; rintro e W3 ⟨rfl, hb⟩; have N3 := Lib.hid (N2.out.below hb); have q3_0 := (near_cell (p := ⟨bk, 0, none⟩) N3.out l_k e_k1 e_k2).trans k_0; have q3_1 := (near_cell (p := ⟨bn, 0, none⟩) N3.out l_n e_n1 e_n2).trans k_1; have q3_2 := (near_cell (p := ⟨b3, 0, none⟩) N3.out l_b e_b1 e_b2).trans k_2; have HZ2 := Lib.hid (HZ.out.below hb); clear hb CT q2_0 q2_1 q2_2))
  go_wp2_with fail
  have hp := HP.out W3 HZ2.out N3.out
  rw [HR.out] at hp
  exact hp
set_option maxRecDepth 100000 in
set_option maxHeartbeats 4000000 in
theorem keyed3_any (z0 z1 : Int) (bk bn : Nat) (k : Keep) (va : Value) (w : World) (H : Held w base kb mb lo bk bn k va ([z0, z1])) :
    Calls Tryz.prog 68 #[.pointer (some ⟨bk, 0, none⟩), .pointer (some ⟨bn, 0, none⟩)] w fun e w' => KRes base kb mb (tweakA z0 z1 k) w e w' := by
  have HL := Lib.hid H.lay
  have HK := Lib.hid H.keys
  have HO := Lib.hid H.ok
  have H0 := Lib.hid (And.intro H.bk (And.intro H.bm H.bw))
  have hnn := H.nn
  obtain ⟨l_k, e_k1, e_k2, l_n, e_n1, e_n2⟩ := H.far
  obtain ⟨b3, c3, hv, hb3, l_b, hcell⟩ := own_ints H.own (by simp)
  obtain ⟨N, hN⟩ : ∃ N, N = ([z0, z1]).length := ⟨_, rfl⟩
  have hN1 : N ≥ 2 := by simp [hN]
  have hNc : N ≤ c3 := by have := H.own.is; obtain ⟨A, c, e1, e2, _⟩ := this; rw [hv] at e1; injection e1 with _ _ e1; omega
  rw [← hN] at hv
  subst hv
  have hN2 : N = 2 := by rw [hN]; rfl
  clear hN hN1
  subst hN2
  have e_b1 : b3 ≠ kb := by have := H.p1; omega
  have e_b2 : b3 ≠ mb := by have := H.p2; omega
  have k_0 := H.ck
  have k_1 := H.cn
  have k_2 := hcell 0 z0 rfl
  have i_0 := H.own.2.2 z0 (by simp)
  have p_0 := H.nn z0 (by simp)
  have hwz0 : IntKind.u64.wrap z0 = z0 := u64_nonneg p_0 (by have := i_0.2; omega)
  have u_0 : U64 z0 := ⟨p_0, by have := i_0.2; omega⟩
  have k_3 := hcell 1 z1 rfl
  have i_1 := H.own.2.2 z1 (by simp)
  have p_1 := H.nn z1 (by simp)
  have hwz1 : IntKind.u64.wrap z1 = z1 := u64_nonneg p_1 (by have := i_1.2; omega)
  have u_1 : U64 z1 := ⟨p_1, by have := i_1.2; omega⟩
  suffices hgoal : ∀ Post : Ending → World → Prop, (∀ w', KI base kb mb w' (tweakA z0 z1 k).2 → Near kb mb w w' → Post (.returned (.string (bs (tweakA z0 z1 k).1))) w') → Calls Tryz.prog 68 #[.pointer (some ⟨bk, 0, none⟩), .pointer (some ⟨bn, 0, none⟩)] w Post from hgoal _ fun w' h1 h2 => ⟨rfl, h1, h2⟩
  intro Post hpo
  have HP := Lib.hid hpo
  have CK := Lib.hid (fun q => tweakA_keys z0 z1 (w.drewN q) (HK.out.below (below_drewN (Below.refl _ _) q)) i_0 u_1 HO.out)
  clear hpo H hnn hcell hb3
  go_enter Tryz.func68, Tryz.ntmps68
  go_upto_block 1 with fail
  go_region_held3 (fun w' => w'.cell? ⟨bk, 0, none⟩ = some (.pointer (some ⟨kb, 0, none⟩)) ∧ w'.cell? ⟨bn, 0, none⟩ = some (.slice (some ⟨b3, 0, none⟩) 2 c3) ∧ w'.cell? ⟨b3, 0, none⟩ = some (.int .i64 z0) ∧ w'.cell? ⟨b3, 1, none⟩ = some (.int .i64 z1)) (go_keep) (first | (go_at_call 69; refine (CK.out _).mono ?_; rintro e W1 ⟨z, E, rfl, hr, hz, hE, hk, hn⟩; have N1 := Lib.hid (Near.undrew hn); have q1_0 := (near_cell (p := ⟨bk, 0, none⟩) N1.out l_k e_k1 e_k2).trans k_0; have q1_1 := (near_cell (p := ⟨bn, 0, none⟩) N1.out l_n e_n1 e_n2).trans k_1; have q1_2 := (near_cell (p := ⟨b3, 0, none⟩) N1.out l_b e_b1 e_b2).trans k_2; have q1_3 := (near_cell (p := ⟨b3, 1, none⟩) N1.out l_b e_b1 e_b2).trans k_3; have HR := Lib.hid hr; have HZ := Lib.hid hk; have CT := Lib.hid (handle_any z E W1 hz.1 hz.2 hE.1 hE.2 (HL.out.low (N1.out.low H0.out.1 H0.out.2.1 H0.out.2.2)).lay.2.1); clear hr hk hn CK) | (go_at_call 64; refine (CT.out).mono ?_; rintro e W2 ⟨rfl, hb⟩; have N2 := Lib.hid (N1.out.below hb); have q2_0 := (near_cell (p := ⟨bk, 0, none⟩) N2.out l_k e_k1 e_k2).trans k_0; have q2_1 := (near_cell (p := ⟨bn, 0, none⟩) N2.out l_n e_n1 e_n2).trans k_1; have q2_2 := (near_cell (p := ⟨b3, 0, none⟩) N2.out l_b e_b1 e_b2).trans k_2; have q2_3 := (near_cell (p := ⟨b3, 1, none⟩) N2.out l_b e_b1 e_b2).trans k_3; have HZ2 := Lib.hid (HZ.out.below hb); clear hb CT q1_0 q1_1 q1_2 q1_3))
  go_wp2_with fail
  have hp := HP.out W2 HZ2.out N2.out
  rw [HR.out] at hp
  exact hp
set_option maxRecDepth 100000 in
set_option maxHeartbeats 4000000 in
theorem keyed4_any (z0 z1 z2 z3 : Int) (bk bn : Nat) (k : Keep) (va : Value) (w : World) (H : Held w base kb mb lo bk bn k va ([z0, z1, z2, z3])) :
    Calls Tryz.prog 70 #[.pointer (some ⟨bk, 0, none⟩), .pointer (some ⟨bn, 0, none⟩)] w fun e w' => KRes base kb mb (combineA z0 z1 z2 z3 k) w e w' := by
  have HL := Lib.hid H.lay
  have HK := Lib.hid H.keys
  have HO := Lib.hid H.ok
  have H0 := Lib.hid (And.intro H.bk (And.intro H.bm H.bw))
  have hnn := H.nn
  obtain ⟨l_k, e_k1, e_k2, l_n, e_n1, e_n2⟩ := H.far
  obtain ⟨b3, c3, hv, hb3, l_b, hcell⟩ := own_ints H.own (by simp)
  obtain ⟨N, hN⟩ : ∃ N, N = ([z0, z1, z2, z3]).length := ⟨_, rfl⟩
  have hN1 : N ≥ 4 := by simp [hN]
  have hNc : N ≤ c3 := by have := H.own.is; obtain ⟨A, c, e1, e2, _⟩ := this; rw [hv] at e1; injection e1 with _ _ e1; omega
  rw [← hN] at hv
  subst hv
  have hN2 : N = 4 := by rw [hN]; rfl
  clear hN hN1
  subst hN2
  have e_b1 : b3 ≠ kb := by have := H.p1; omega
  have e_b2 : b3 ≠ mb := by have := H.p2; omega
  have k_0 := H.ck
  have k_1 := H.cn
  have k_2 := hcell 0 z0 rfl
  have i_0 := H.own.2.2 z0 (by simp)
  have p_0 := H.nn z0 (by simp)
  have hwz0 : IntKind.u64.wrap z0 = z0 := u64_nonneg p_0 (by have := i_0.2; omega)
  have u_0 : U64 z0 := ⟨p_0, by have := i_0.2; omega⟩
  have k_3 := hcell 1 z1 rfl
  have i_1 := H.own.2.2 z1 (by simp)
  have p_1 := H.nn z1 (by simp)
  have hwz1 : IntKind.u64.wrap z1 = z1 := u64_nonneg p_1 (by have := i_1.2; omega)
  have u_1 : U64 z1 := ⟨p_1, by have := i_1.2; omega⟩
  have k_4 := hcell 2 z2 rfl
  have i_2 := H.own.2.2 z2 (by simp)
  have p_2 := H.nn z2 (by simp)
  have hwz2 : IntKind.u64.wrap z2 = z2 := u64_nonneg p_2 (by have := i_2.2; omega)
  have u_2 : U64 z2 := ⟨p_2, by have := i_2.2; omega⟩
  have k_5 := hcell 3 z3 rfl
  have i_3 := H.own.2.2 z3 (by simp)
  have p_3 := H.nn z3 (by simp)
  have hwz3 : IntKind.u64.wrap z3 = z3 := u64_nonneg p_3 (by have := i_3.2; omega)
  have u_3 : U64 z3 := ⟨p_3, by have := i_3.2; omega⟩
  suffices hgoal : ∀ Post : Ending → World → Prop, (∀ w', KI base kb mb w' (combineA z0 z1 z2 z3 k).2 → Near kb mb w w' → Post (.returned (.string (bs (combineA z0 z1 z2 z3 k).1))) w') → Calls Tryz.prog 70 #[.pointer (some ⟨bk, 0, none⟩), .pointer (some ⟨bn, 0, none⟩)] w Post from hgoal _ fun w' h1 h2 => ⟨rfl, h1, h2⟩
  intro Post hpo
  have HP := Lib.hid hpo
  have CK := Lib.hid (fun q => combineA_keys z0 z1 z2 z3 (w.drewN q) (HK.out.below (below_drewN (Below.refl _ _) q)) i_0 i_1 u_2 u_3 HO.out)
  clear hpo H hnn hcell hb3
  go_enter Tryz.func70, Tryz.ntmps70
  go_upto_block 1 with fail
  go_region_held3 (fun w' => w'.cell? ⟨bk, 0, none⟩ = some (.pointer (some ⟨kb, 0, none⟩)) ∧ w'.cell? ⟨bn, 0, none⟩ = some (.slice (some ⟨b3, 0, none⟩) 4 c3) ∧ w'.cell? ⟨b3, 0, none⟩ = some (.int .i64 z0) ∧ w'.cell? ⟨b3, 1, none⟩ = some (.int .i64 z1) ∧ w'.cell? ⟨b3, 2, none⟩ = some (.int .i64 z2) ∧ w'.cell? ⟨b3, 3, none⟩ = some (.int .i64 z3)) (go_keep) (first | (go_at_call 71; refine (CK.out _).mono ?_; rintro e W1 ⟨z, E, rfl, hr, hz, hE, hk, hn⟩; have N1 := Lib.hid (Near.undrew hn); have q1_0 := (near_cell (p := ⟨bk, 0, none⟩) N1.out l_k e_k1 e_k2).trans k_0; have q1_1 := (near_cell (p := ⟨bn, 0, none⟩) N1.out l_n e_n1 e_n2).trans k_1; have q1_2 := (near_cell (p := ⟨b3, 0, none⟩) N1.out l_b e_b1 e_b2).trans k_2; have q1_3 := (near_cell (p := ⟨b3, 1, none⟩) N1.out l_b e_b1 e_b2).trans k_3; have q1_4 := (near_cell (p := ⟨b3, 2, none⟩) N1.out l_b e_b1 e_b2).trans k_4; have q1_5 := (near_cell (p := ⟨b3, 3, none⟩) N1.out l_b e_b1 e_b2).trans k_5; have HR := Lib.hid hr; have HZ := Lib.hid hk; have CT := Lib.hid (handle_any z E W1 hz.1 hz.2 hE.1 hE.2 (HL.out.low (N1.out.low H0.out.1 H0.out.2.1 H0.out.2.2)).lay.2.1); clear hr hk hn CK) | (go_at_call 64; refine (CT.out).mono ?_; rintro e W2 ⟨rfl, hb⟩; have N2 := Lib.hid (N1.out.below hb); have q2_0 := (near_cell (p := ⟨bk, 0, none⟩) N2.out l_k e_k1 e_k2).trans k_0; have q2_1 := (near_cell (p := ⟨bn, 0, none⟩) N2.out l_n e_n1 e_n2).trans k_1; have q2_2 := (near_cell (p := ⟨b3, 0, none⟩) N2.out l_b e_b1 e_b2).trans k_2; have q2_3 := (near_cell (p := ⟨b3, 1, none⟩) N2.out l_b e_b1 e_b2).trans k_3; have q2_4 := (near_cell (p := ⟨b3, 2, none⟩) N2.out l_b e_b1 e_b2).trans k_4; have q2_5 := (near_cell (p := ⟨b3, 3, none⟩) N2.out l_b e_b1 e_b2).trans k_5; have HZ2 := Lib.hid (HZ.out.below hb); clear hb CT q1_0 q1_1 q1_2 q1_3 q1_4 q1_5))
  go_wp2_with fail
  have hp := HP.out W2 HZ2.out N2.out
  rw [HR.out] at hp
  exact hp
set_option maxRecDepth 100000 in
set_option maxHeartbeats 4000000 in
theorem keyed5_any (z0 z1 : Int) (r : List Int) (bk bn : Nat) (k : Keep) (va : Value) (w : World) (H : Held w base kb mb lo bk bn k va (z0 :: z1 :: r)) :
    Calls Tryz.prog 72 #[.pointer (some ⟨bk, 0, none⟩), .pointer (some ⟨bn, 0, none⟩)] w fun e w' => KRes base kb mb (multiplyA z0 z1 r k) w e w' := by
  have HL := Lib.hid H.lay
  have HK := Lib.hid H.keys
  have HO := Lib.hid H.ok
  have H0 := Lib.hid (And.intro H.bk (And.intro H.bm H.bw))
  have hnn := H.nn
  obtain ⟨l_k, e_k1, e_k2, l_n, e_n1, e_n2⟩ := H.far
  obtain ⟨b3, c3, hv, hb3, l_b, hcell⟩ := own_ints H.own (by simp)
  obtain ⟨N, hN⟩ : ∃ N, N = (z0 :: z1 :: r).length := ⟨_, rfl⟩
  have hN1 : N ≥ 2 := by simp [hN]
  have hJ0 : 0 < N := by omega
  have hI0 : (0 : Int) < (N : Int) := by omega
  have hI1 : (1 : Int) < (N : Int) := by omega
  have hNc : N ≤ c3 := by have := H.own.is; obtain ⟨A, c, e1, e2, _⟩ := this; rw [hv] at e1; injection e1 with _ _ e1; omega
  rw [← hN] at hv
  subst hv
  have e_b1 : b3 ≠ kb := by have := H.p1; omega
  have e_b2 : b3 ≠ mb := by have := H.p2; omega
  have k_0 := H.ck
  have k_1 := H.cn
  have k_2 := hcell 0 z0 rfl
  have i_0 := H.own.2.2 z0 (by simp)
  have p_0 := H.nn z0 (by simp)
  have hwz0 : IntKind.u64.wrap z0 = z0 := u64_nonneg p_0 (by have := i_0.2; omega)
  have u_0 : U64 z0 := ⟨p_0, by have := i_0.2; omega⟩
  have k_3 := hcell 1 z1 rfl
  have i_1 := H.own.2.2 z1 (by simp)
  have p_1 := H.nn z1 (by simp)
  have hwz1 : IntKind.u64.wrap z1 = z1 := u64_nonneg p_1 (by have := i_1.2; omega)
  have u_1 : U64 z1 := ⟨p_1, by have := i_1.2; omega⟩
  have hcut := ints_from (lo := 2) (show IsInts w (.slice (some ⟨b3, 0, none⟩) (z0 :: z1 :: r).length c3) (z0 :: z1 :: r) by rw [← hN]; exact H.own.is) (by simp)
  rw [← hN] at hcut
  have hs1 := islice_from (some ⟨b3, 0, none⟩) N c3 2 2 rfl (by omega)
  have hs2 := islice_fromA (some ⟨b3, 0, none⟩) N c3 2 2 rfl (by omega)
  obtain ⟨vt, hvt⟩ : ∃ vt, vt = Value.slice (if c3 = 2 then some ⟨b3, 0, none⟩ else (some (⟨b3, 0, none⟩ : Addr)).map (·.add (2 * 1))) (N - 2) (c3 - 2) := ⟨_, rfl⟩
  rw [← hvt] at hcut hs1 hs2
  have KN := Lib.hid hcut
  have hr0 : ∀ z ∈ r, 0 ≤ z := fun z hz => hnn z (by simp [hz])
  clear hcut hvt
  suffices hgoal : ∀ Post : Ending → World → Prop, (∀ w', KI base kb mb w' (multiplyA z0 z1 r k).2 → Near kb mb w w' → Post (.returned (.string (bs (multiplyA z0 z1 r k).1))) w') → Calls Tryz.prog 72 #[.pointer (some ⟨bk, 0, none⟩), .pointer (some ⟨bn, 0, none⟩)] w Post from hgoal _ fun w' h1 h2 => ⟨rfl, h1, h2⟩
  intro Post hpo
  have HP := Lib.hid hpo
  have CW := Lib.hid (fun q => wide_any _ r (w.drewN q) (KN.out.drewN q) hr0)
  clear hpo H hnn hcell hb3 hN
  go_enter Tryz.func72, Tryz.ntmps72
  go_upto_block 1 with fail
  go_region_held3 (fun w' => w'.cell? ⟨bk, 0, none⟩ = some (.pointer (some ⟨kb, 0, none⟩)) ∧ w'.cell? ⟨bn, 0, none⟩ = some (.slice (some ⟨b3, 0, none⟩) N c3) ∧ w'.cell? ⟨b3, 0, none⟩ = some (.int .i64 z0) ∧ w'.cell? ⟨b3, 1, none⟩ = some (.int .i64 z1)) (go_keep) (first | (go_at_call 52; refine (CW.out _).mono ?_; rintro e W1 ⟨vw, rfl, ho, hb⟩; have N1 := Lib.hid (Near.of_below (kb := kb) (mb := mb) ((below_drewN (Below.refl w.heap.size w) _).trans hb)); have D1 := Lib.hid ((below_drewN (Below.refl w.heap.size w) _).trans hb); have q1_0 := (near_cell (p := ⟨bk, 0, none⟩) N1.out l_k e_k1 e_k2).trans k_0; have q1_1 := (near_cell (p := ⟨bn, 0, none⟩) N1.out l_n e_n1 e_n2).trans k_1; have q1_2 := (near_cell (p := ⟨b3, 0, none⟩) N1.out l_b e_b1 e_b2).trans k_2; have q1_3 := (near_cell (p := ⟨b3, 1, none⟩) N1.out l_b e_b1 e_b2).trans k_3; have CK := Lib.hid (multiplyA_keys z0 z1 _ r W1 (HK.out.below D1.out) i_0 i_1 ho.is HO.out); clear ho hb CW) | (go_at_call 73; refine (CK.out).mono ?_; rintro e W2 ⟨z, E, rfl, hr, hz, hE, hk, hn⟩; have N2 := Lib.hid (N1.out.trans hn); have q2_0 := (near_cell (p := ⟨bk, 0, none⟩) N2.out l_k e_k1 e_k2).trans k_0; have q2_1 := (near_cell (p := ⟨bn, 0, none⟩) N2.out l_n e_n1 e_n2).trans k_1; have q2_2 := (near_cell (p := ⟨b3, 0, none⟩) N2.out l_b e_b1 e_b2).trans k_2; have q2_3 := (near_cell (p := ⟨b3, 1, none⟩) N2.out l_b e_b1 e_b2).trans k_3; have HR := Lib.hid hr; have HZ := Lib.hid hk; have CT := Lib.hid (handle_any z E W2 hz.1 hz.2 hE.1 hE.2 (HL.out.low (N2.out.low H0.out.1 H0.out.2.1 H0.out.2.2)).lay.2.1); clear hr hk hn CK q1_0 q1_1 q1_2 q1_3) | (go_at_call 64; refine (CT.out).mono ?_; rintro e W3 ⟨rfl, hb⟩; have N3 := Lib.hid (N2.out.below hb); have q3_0 := (near_cell (p := ⟨bk, 0, none⟩) N3.out l_k e_k1 e_k2).trans k_0; have q3_1 := (near_cell (p := ⟨bn, 0, none⟩) N3.out l_n e_n1 e_n2).trans k_1; have q3_2 := (near_cell (p := ⟨b3, 0, none⟩) N3.out l_b e_b1 e_b2).trans k_2; have q3_3 := (near_cell (p := ⟨b3, 1, none⟩) N3.out l_b e_b1 e_b2).trans k_3; have HZ2 := Lib.hid (HZ.out.below hb); clear hb CT q2_0 q2_1 q2_2 q2_3))
  go_wp2_with fail
  have hp := HP.out W3 HZ2.out N3.out
  rw [HR.out] at hp
  exact hp
set_option maxRecDepth 100000 in
set_option maxHeartbeats 4000000 in
theorem keyed6_any (z0 : Int) (bk bn : Nat) (k : Keep) (va : Value) (w : World) (H : Held w base kb mb lo bk bn k va ([z0])) :
    Calls Tryz.prog 74 #[.pointer (some ⟨bk, 0, none⟩), .pointer (some ⟨bn, 0, none⟩)] w fun e w' => KRes base kb mb (keyA z0 k) w e w' := by
  have HL := Lib.hid H.lay
  have HK := Lib.hid H.keys
  have HO := Lib.hid H.ok
  have H0 := Lib.hid (And.intro H.bk (And.intro H.bm H.bw))
  have hnn := H.nn
  obtain ⟨l_k, e_k1, e_k2, l_n, e_n1, e_n2⟩ := H.far
  obtain ⟨b3, c3, hv, hb3, l_b, hcell⟩ := own_ints H.own (by simp)
  obtain ⟨N, hN⟩ : ∃ N, N = ([z0]).length := ⟨_, rfl⟩
  have hN1 : N ≥ 1 := by simp [hN]
  have hNc : N ≤ c3 := by have := H.own.is; obtain ⟨A, c, e1, e2, _⟩ := this; rw [hv] at e1; injection e1 with _ _ e1; omega
  rw [← hN] at hv
  subst hv
  have hN2 : N = 1 := by rw [hN]; rfl
  clear hN hN1
  subst hN2
  have e_b1 : b3 ≠ kb := by have := H.p1; omega
  have e_b2 : b3 ≠ mb := by have := H.p2; omega
  have k_0 := H.ck
  have k_1 := H.cn
  have k_2 := hcell 0 z0 rfl
  have i_0 := H.own.2.2 z0 (by simp)
  have p_0 := H.nn z0 (by simp)
  have hwz0 : IntKind.u64.wrap z0 = z0 := u64_nonneg p_0 (by have := i_0.2; omega)
  have u_0 : U64 z0 := ⟨p_0, by have := i_0.2; omega⟩
  suffices hgoal : ∀ Post : Ending → World → Prop, (∀ w', KI base kb mb w' (keyA z0 k).2 → Near kb mb w w' → Post (.returned (.string (bs (keyA z0 k).1))) w') → Calls Tryz.prog 74 #[.pointer (some ⟨bk, 0, none⟩), .pointer (some ⟨bn, 0, none⟩)] w Post from hgoal _ fun w' h1 h2 => ⟨rfl, h1, h2⟩
  intro Post hpo
  have HP := Lib.hid hpo
  have CK := Lib.hid (fun q => keyA_keys z0 (w.drewN q) (HK.out.below (below_drewN (Below.refl _ _) q)) i_0 HO.out)
  clear hpo H hnn hcell hb3
  go_enter Tryz.func74, Tryz.ntmps74
  go_upto_block 1 with fail
  go_region_held3 (fun w' => w'.cell? ⟨bk, 0, none⟩ = some (.pointer (some ⟨kb, 0, none⟩)) ∧ w'.cell? ⟨bn, 0, none⟩ = some (.slice (some ⟨b3, 0, none⟩) 1 c3) ∧ w'.cell? ⟨b3, 0, none⟩ = some (.int .i64 z0)) (go_keep) (first | (go_at_call 75; refine (CK.out _).mono ?_; rintro e W1 ⟨z, E, rfl, hr, hz, hE, hb⟩; have N1 := Lib.hid (Near.of_below (kb := kb) (mb := mb) ((below_drewN (Below.refl w.heap.size w) _).trans hb)); have D1 := Lib.hid ((below_drewN (Below.refl w.heap.size w) _).trans hb); have q1_0 := (near_cell (p := ⟨bk, 0, none⟩) N1.out l_k e_k1 e_k2).trans k_0; have q1_1 := (near_cell (p := ⟨bn, 0, none⟩) N1.out l_n e_n1 e_n2).trans k_1; have q1_2 := (near_cell (p := ⟨b3, 0, none⟩) N1.out l_b e_b1 e_b2).trans k_2; have HR := Lib.hid hr; have HZ := Lib.hid hz; have HE := Lib.hid hE; clear hr hb CK hz hE))
  have KL := Lib.hid (lit_nums W1 [z] (by intro y hy; simp only [List.mem_singleton] at hy; subst hy; exact HZ.out) (by simp))
  have BA := Lib.hid ((Below.refl W1.heap.size W1).alloc (Nat.le_refl _) (.cells #[.int .u64 z] 67))
  have CT := Lib.hid (told_any _ [z] E _ KL.out (by simp) HE.out.1 HE.out.2 (tab_below (HL.out.low (N1.out.low H0.out.1 H0.out.2.1 H0.out.2.2)).lay.2.1 BA.out))
  go_wp2_with fail
  refine CT.out.mono ?_
  rintro e W2 ⟨rfl, hb⟩
  have B2 := Lib.hid (below_trans BA.out hb BA.out.size)
  clear hb
  try dsimp only
  go_wp2_with fail
  have hp := HP.out W2 (by rw [HR.out]; exact (HK.out.below D1.out).below B2.out) (N1.out.below B2.out)
  rw [HR.out] at hp
  exact hp
set_option maxRecDepth 100000 in
set_option maxHeartbeats 4000000 in
theorem keyed7_any (z0 : Int) (bk bn : Nat) (k : Keep) (va : Value) (w : World) (H : Held w base kb mb lo bk bn k va ([z0])) :
    Calls Tryz.prog 76 #[.pointer (some ⟨bk, 0, none⟩), .pointer (some ⟨bn, 0, none⟩)] w fun e w' => KRes base kb mb (dropA z0 k) w e w' := by
  have HL := Lib.hid H.lay
  have HK := Lib.hid H.keys
  have HO := Lib.hid H.ok
  have H0 := Lib.hid (And.intro H.bk (And.intro H.bm H.bw))
  have hnn := H.nn
  obtain ⟨l_k, e_k1, e_k2, l_n, e_n1, e_n2⟩ := H.far
  obtain ⟨b3, c3, hv, hb3, l_b, hcell⟩ := own_ints H.own (by simp)
  obtain ⟨N, hN⟩ : ∃ N, N = ([z0]).length := ⟨_, rfl⟩
  have hN1 : N ≥ 1 := by simp [hN]
  have hNc : N ≤ c3 := by have := H.own.is; obtain ⟨A, c, e1, e2, _⟩ := this; rw [hv] at e1; injection e1 with _ _ e1; omega
  rw [← hN] at hv
  subst hv
  have hN2 : N = 1 := by rw [hN]; rfl
  clear hN hN1
  subst hN2
  have e_b1 : b3 ≠ kb := by have := H.p1; omega
  have e_b2 : b3 ≠ mb := by have := H.p2; omega
  have k_0 := H.ck
  have k_1 := H.cn
  have k_2 := hcell 0 z0 rfl
  have i_0 := H.own.2.2 z0 (by simp)
  have p_0 := H.nn z0 (by simp)
  have hwz0 : IntKind.u64.wrap z0 = z0 := u64_nonneg p_0 (by have := i_0.2; omega)
  have u_0 : U64 z0 := ⟨p_0, by have := i_0.2; omega⟩
  suffices hgoal : ∀ Post : Ending → World → Prop, (∀ w', KI base kb mb w' (dropA z0 k).2 → Near kb mb w w' → Post (.returned (.string (bs (dropA z0 k).1))) w') → Calls Tryz.prog 76 #[.pointer (some ⟨bk, 0, none⟩), .pointer (some ⟨bn, 0, none⟩)] w Post from hgoal _ fun w' h1 h2 => ⟨rfl, h1, h2⟩
  intro Post hpo
  have HP := Lib.hid hpo
  have CK := Lib.hid (fun q => dropA_keys z0 (w.drewN q) (HK.out.below (below_drewN (Below.refl _ _) q)) i_0)
  clear hpo H hnn hcell hb3
  go_enter Tryz.func76, Tryz.ntmps76
  go_upto_block 1 with fail
  go_region_held3 (fun w' => w'.cell? ⟨bk, 0, none⟩ = some (.pointer (some ⟨kb, 0, none⟩)) ∧ w'.cell? ⟨bn, 0, none⟩ = some (.slice (some ⟨b3, 0, none⟩) 1 c3) ∧ w'.cell? ⟨b3, 0, none⟩ = some (.int .i64 z0)) (go_keep) (first | (go_at_call 77; refine (CK.out _).mono ?_; rintro e W1 ⟨E, rfl, hr, hE, hk, hn⟩; have N1 := Lib.hid (Near.undrew hn); have q1_0 := (near_cell (p := ⟨bk, 0, none⟩) N1.out l_k e_k1 e_k2).trans k_0; have q1_1 := (near_cell (p := ⟨bn, 0, none⟩) N1.out l_n e_n1 e_n2).trans k_1; have q1_2 := (near_cell (p := ⟨b3, 0, none⟩) N1.out l_b e_b1 e_b2).trans k_2; have HR := Lib.hid hr; have HZ := Lib.hid hk; have CT := Lib.hid (done_any E W1 hE.1 hE.2 (HL.out.low (N1.out.low H0.out.1 H0.out.2.1 H0.out.2.2)).lay.2.1); clear hr hk hn CK) | (go_at_call 62; refine (CT.out).mono ?_; rintro e W2 ⟨rfl, hb⟩; have N2 := Lib.hid (N1.out.below hb); have q2_0 := (near_cell (p := ⟨bk, 0, none⟩) N2.out l_k e_k1 e_k2).trans k_0; have q2_1 := (near_cell (p := ⟨bn, 0, none⟩) N2.out l_n e_n1 e_n2).trans k_1; have q2_2 := (near_cell (p := ⟨b3, 0, none⟩) N2.out l_b e_b1 e_b2).trans k_2; have HZ2 := Lib.hid (HZ.out.below hb); clear hb CT q1_0 q1_1 q1_2))
  go_wp2_with fail
  have hp := HP.out W2 HZ2.out N2.out
  rw [HR.out] at hp
  exact hp
end
end Go.Proofs.YtploomncapiloaaGreatDoor
