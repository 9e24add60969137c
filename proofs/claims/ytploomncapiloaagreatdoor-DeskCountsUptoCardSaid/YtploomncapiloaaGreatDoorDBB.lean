/- Parts of the proof, put together by a program: DeskG DeskH DeskF. No condition. -/
import Derived.Test.YtploomncapiloaaGreatDoorDBA
namespace Go.Proofs.YtploomncapiloaaGreatDoor
open Go.RowKit Go.Sort Go.PlainAid Croft
theorem pairL_length : ∀ (l : List Int), (pairL l).length = l.length / 2
  | [] => rfl
  | [_] => by simp [pairL]
  | _ :: _ :: l => by
    rw [pairL, List.length_cons, pairL_length l, List.length_cons, List.length_cons]; omega
theorem pairL_get : ∀ (l : List Int) (k : Nat) (x y : Int), l[2 * k]? = some x → l[2 * k + 1]? = some y → (pairL l)[k]? = some (x, y)
  | [], k, x, y, h, _ => by simp at h
  | [_], k, x, y, _, h => by simp at h
  | a :: b :: l, 0, x, y, h, h' => by simp at h h'; subst h h'; rfl
  | a :: b :: l, k + 1, x, y, h, h' => by
    rw [pairL, List.getElem?_cons_succ]
    exact pairL_get l k x y (by simpa [Nat.mul_succ] using h) (by simpa [Nat.mul_succ] using h')
theorem below_undrew {B : Nat} {w w' : World} (h : Below B w.drew w') : Below B w w' := ⟨h.os, h.tape, h.output, h.size, h.block⟩
theorem robR_facts (t : Int) (l : List (Int × Int)) : (∀ z ∈ (robR t l).2.1, 0 ≤ z) ∧ (robR t l).2.1.length ≤ l.length ∧ U64 (robR t l).1 ∧ 0 ≤ (robR t l).2.2 ∧ (robR t l).2.2 ≤ 6 := by
  unfold robR
  by_cases h : checkE t l = 0
  · rw [if_pos h]
    obtain ⟨_, hok, _⟩ := checkE_zero.1 h
    split
    · next hf =>
      refine ⟨fun z hz => ?_, ?_, U64.of_ofF _, by dsimp only; omega, by dsimp only; omega⟩
      · rw [(srt_perm _).mem_iff] at hz
        unfold badL at hz
        obtain ⟨s, hs, rfl⟩ := List.mem_map.1 hz
        have := hok.1 s (List.mem_filter.1 hs).1
        omega
      · show (srt _).length ≤ _
        rw [srt_length]
        unfold badL
        rw [List.length_map]
        exact List.length_filter_le _ _
    · exact ⟨by simp, by simp, ⟨by decide, by decide⟩, by decide, by decide⟩
  · rw [if_neg h]
    refine ⟨by simp, by simp, ⟨by dsimp only; omega, by dsimp only; omega⟩, ?_⟩
    dsimp only
    unfold checkE
    repeat' split
    all_goals omega
theorem step_push_share {ops : Array Oper} {o : Oper} {a : Act} {K : Act → World → Prop} {Q : Exit → Act → World → Prop} {E : Prop} {w : World} (hgd : o.guard = none) (s x : Operand)
    (ho : o.op = .call { callee := .builtin .append, args := #[s, x], argTypes := #[69, 69] })
    (base : Nat) (v : Value) (l : List (Int × Int)) (n z : Int) (g c : Nat) (hs : a.eval s = v) (hown : OwnShares w base v l) (hx : a.eval x = .slice (some ⟨g, 0, none⟩) 1 c)
    (hc : w.cell? ⟨g, 0, none⟩ = some (.int .i64 n)) (hc2 : w.cell? ⟨g, 1, none⟩ = some (.int .u64 z)) (hn : I64 n) (hz : U64 z) (hl : l.length + 1 ≤ 8796093022208) (hb : base ≤ w.heap.size)
    (h : ∀ b cap w', OwnShares w' base (.slice (some ⟨b, 0, none⟩) (l.length + 1) cap) (l ++ [(n, z)]) → Below base w w' → K (a.put o.dst (.slice (some ⟨b, 0, none⟩) (l.length + 1) cap)) w') : if Region.wanted o (yielded ops a.tmps) = true then Oper.wp Tryz.prog o a w K Q else E := by
  obtain ⟨i0, hi, hz0, hz1, hz2⟩ := info_parts sinfo
  refine step_append_lies w hgd s x 69 ho base 71 i0 (.agg #[.int .i64 0, .int .u64 0]) 2 16 Tryz.underlying69 hi hz0 hz1 hz2 rfl (by decide) v l.length (shs l) hs hown.1 ⟨g, 0, none⟩ 1 c [.int .i64 n, .int .u64 z] hx rfl ?_ ?_ (by omega) ?_ ?_ hb _ rfl ?_
  · intro j u hu
    match j, hu with
    | 0, hu =>
      simp at hu
      subst hu
      rw [add_addr]; exact hc
    | 1, hu =>
      simp at hu
      subst hu
      rw [add_addr]; exact hc2
  · intro u hu
    simp at hu
    rcases hu with rfl | rfl <;> rfl
  · unfold maxLen; omega
  · omega
  · intro b cap w' h1 h2 _ _
    refine h b cap w' ⟨?_, by simpa using hl, fun y hy => ?_⟩ ((Below.refl _ _).grown h2 hb (fun k hk => (hown.1.lt k hk).1))
    · have e : (l ++ [(n, z)]).length = l.length + 1 := by simp
      have e2 : shs (l ++ [(n, z)]) = shs l ++ [.int .i64 n, .int .u64 z] := by simp [shs]
      rw [e, e2]; exact h1
    · rcases List.mem_append.1 hy with h3 | h3
      · exact hown.2.2 y h3
      · simp at h3; subst h3; exact ⟨hn, hz⟩
set_option maxRecDepth 100000 in
set_option maxHeartbeats 4000000 in
theorem opened_any (va : Value) (n : List Int) (lo : Nat) (w : World) (h1 : OwnInts w lo va n) (hn0 : ∀ z ∈ n, 0 ≤ z) (hl : n.length ≤ 100000) (hp : 1 ≤ n.length) (hL : Lay w) :
    Calls Tryz.prog 57 #[va] w fun e w' => e = .returned (.string (bs (if n.length % 2 = 0 then errT 3 else openA n))) ∧ Below w.heap.size w w' := by
  have HL := Lib.hid hL
  have KN := Lib.hid h1
  have HN0 := Lib.hid hn0
  obtain ⟨b3, c3, rfl, hb3, l_b, hcell⟩ := own_ints h1 (by omega)
  have HCELL := Lib.hid hcell
  obtain ⟨N, hN⟩ : ∃ N, N = n.length := ⟨_, rfl⟩
  have HN := Lib.hid hN
  suffices hgoal : ∀ Post : Ending → World → Prop, (∀ w', Below w.heap.size w w' → Post (.returned (.string (bs (if n.length % 2 = 0 then errT 3 else openA n)))) w') → Calls Tryz.prog 57 #[.slice (some ⟨b3, 0, none⟩) n.length c3] w Post from hgoal _ fun w' h => ⟨rfl, h⟩
  intro Post hpo
  have HP := Lib.hid hpo
  rw [← hN] at hl hp HP ⊢
  have CF3 := Lib.hid (failed_any 3 w (by omega) (by omega) hL.2.1)
  clear hpo h1 hn0 hcell hN hL
  by_cases hodd : N % 2 = 0
  · have hr : ((N : Int) % 2 == 0) = true := by rw [beq_iff_eq]; omega
    rw [if_pos hodd] at HP
    clear hodd
    go_enter Tryz.func57, Tryz.ntmps57
    go_wp2_with fail
    refine CF3.out.mono ?_
    rintro e w' ⟨rfl, hb⟩
    try dsimp only
    go_wp2_with fail
    exact HP.out _ hb
  · rw [if_neg hodd] at HP
    obtain ⟨M, hM⟩ : ∃ M, N = 2 * M + 1 := ⟨N / 2, by omega⟩
    have HM := Lib.hid hM
    have hr : ((N : Int) % 2 == 0) = false := by rw [beq_eq_false_iff_ne]; omega
    clear hodd CF3 hM
    obtain ⟨z0, r, rfl⟩ : ∃ z0 r, n = z0 :: r := by
      cases n with
      | nil => have := HN.out; simp at this; omega
      | cons z0 r => exact ⟨z0, r, rfl⟩
    have HRL := Lib.hid (show r.length = 2 * M by have h1 := HN.out; have h2 := HM.out; rw [List.length_cons] at h1; omega)
    obtain ⟨L, hL⟩ : ∃ L, L = pairL r := ⟨_, rfl⟩
    have HLM := Lib.hid (show L.length = M by rw [hL, pairL_length, HRL.out]; omega)
    have HLQ := Lib.hid hL
    have HPL := Lib.hid (show openA (z0 :: r) = toldT ((robR z0 L).1 :: (robR z0 L).2.1) (robR z0 L).2.2 by unfold openA; rw [hL]; rfl)
    rw [HPL.out] at HP
    have c0 := HCELL.out 0 z0 rfl
    have hML : M ≤ 50000 := by have := HM.out; omega
    clear hL
    go_enter Tryz.func57, Tryz.ntmps57
    go_wp2_with fail
    go_loopw [3, 4] (fun v i wr => ∃ k p : Nat, k ≤ M ∧ p = 2 * k + 1 ∧ i = .int .i64 p ∧ OwnShares wr w.heap.size v (L.take k) ∧ Below w.heap.size w wr) (fun _ i _ => (N + 2) - (intOf i).toNat)
    case atStart => exact ⟨0, 1, Nat.zero_le _, rfl, rfl, OwnShares.nil _ _, Below.refl _ _⟩
    case round =>
      obtain ⟨k, p, hk, hp, rfl, hown, hbel⟩ := hrel
      have KO := Lib.hid hown
      have BEL := Lib.hid hbel
      have HPK := Lib.hid hp
      have hsz := hbel.size
      have hMN := HM.out
      by_cases hlt : k < M
      · obtain ⟨x, hx⟩ : ∃ x, r[2 * k]? = some x := ⟨_, List.getElem?_eq_getElem (by rw [HRL.out]; omega)⟩
        obtain ⟨y, hy⟩ : ∃ y, r[2 * k + 1]? = some y := ⟨_, List.getElem?_eq_getElem (by rw [HRL.out]; omega)⟩
        have hxi := KN.out.2.2 x (List.mem_cons_of_mem _ (List.mem_of_getElem? hx))
        have hyi := KN.out.2.2 y (List.mem_cons_of_mem _ (List.mem_of_getElem? hy))
        have hy0 := HN0.out y (List.mem_cons_of_mem _ (List.mem_of_getElem? hy))
        have hyu : U64 y := ⟨hy0, by have := hyi.2; omega⟩
        have hwy : IntKind.u64.wrap y = y := u64_nonneg hy0 (by have := hyi.2; omega)
        have cx := (BEL.out.cell (p := ⟨b3, p, none⟩) l_b).trans (HCELL.out p x (by rw [hp]; exact hx))
        have cy := (BEL.out.cell (p := ⟨b3, p + 1, none⟩) l_b).trans (HCELL.out (p + 1) y (by rw [hp]; exact hy))
        obtain ⟨Lk, hLk⟩ : ∃ Lk, Lk = L.take k := ⟨_, rfl⟩
        have HT := Lib.hid (show L.take (k + 1) = Lk ++ [(x, y)] by rw [hLk, List.take_add_one, HLQ.out, pairL_get r k x y hx hy]; rfl)
        have HTL := Lib.hid (show Lk.length = k by rw [hLk, List.length_take, HLM.out]; omega)
        replace KO := Lib.hid (show OwnShares wr w.heap.size u3 Lk by rw [hLk]; exact KO.out)
        have hB : w.heap.size ≤ (wr.alloc (.cells #[.int .i64 x, .int .u64 y] 71)).heap.size := by rw [size_alloc]; exact Nat.le_succ_of_le hsz
        have hlr := Nat.lt_of_lt_of_le l_b hsz
        have hpN : p < N := by omega
        have hpI : (p : Int) < (N : Int) := by omega
        have hpN2 : p + 1 < N := by omega
        have hpI2 : (p : Int) + 1 < (N : Int) := by omega
        have hw1 : IntKind.i64.wrap ((p : Int) + 1) = (p : Int) + 1 := IntWalk.i64_in _ (by omega)
        have hw2 : IntKind.i64.wrap ((p : Int) + 2) = (p : Int) + 2 := IntWalk.i64_in _ (by omega)
        have hp0 : (0 : Int) ≤ (p : Int) + 1 := by omega
        have hpt : ((p : Int) + 1).toNat = p + 1 := by omega
        clear hx hy hp hown hbel hMN hLk
        go_wp2_with fail
        go_region_held3 (fun w' => w'.cell? ⟨b3, p, none⟩ = some (.int .i64 x) ∧ w'.cell? ⟨b3, p + 1, none⟩ = some (.int .i64 y)) (go_keep) ((refine step_push_share rfl _ _ (by rfl) w.heap.size _ Lk x y _ 1 (by rfl) ((KO.out.drewN 1).alloc _) (by rfl) (pair_cell0 _ _ _ _) (pair_cell1 _ _ _ _) hxi hyu (by rw [HTL.out]; omega) hB ?_; intro bb cap w7 ho7 hb7; have q0 := (hb7.cell (p := ⟨b3, p, none⟩) l_b).trans ((World.cell?_alloc_lt wr _ _ hlr).trans cx); have q1 := (hb7.cell (p := ⟨b3, p + 1, none⟩) l_b).trans ((World.cell?_alloc_lt wr _ _ hlr).trans cy)))
        have K7 := Lib.hid ho7
        have B7 := Lib.hid ((BEL.out.alloc hsz (.cells #[.int .i64 x, .int .u64 y] 71)).trans (below_undrew hb7))
        clear ho7 hb7 q0 q1 cx cy
        go_wp2_with fail
        exact ⟨⟨k + 1, p + 2, by omega, by have := HPK.out; omega, by go_num, by rw [HT.out]; exact K7.out, B7.out⟩, by simp [intOf] <;> omega⟩
      · obtain rfl : k = M := by omega
        have hpN : p = N := by omega
        rw [show L.take k = L from List.take_of_length_le (by rw [HLM.out]; exact Nat.le_refl _)] at KO
        have hc0 := (BEL.out.cell (p := ⟨b3, 0, none⟩) l_b).trans c0
        have hN1 : 0 < N := by omega
        have hNI : (0 : Int) < (N : Int) := by omega
        obtain ⟨rf1, rf2, rf3, rf4, rf5⟩ := robR_facts z0 L
        rw [HLM.out] at rf2
        obtain ⟨X, hX⟩ : ∃ X, X = (robR z0 L).1 := ⟨_, rfl⟩
        obtain ⟨B, hB⟩ : ∃ B, B = (robR z0 L).2.1 := ⟨_, rfl⟩
        obtain ⟨E, hE⟩ : ∃ E, E = (robR z0 L).2.2 := ⟨_, rfl⟩
        have CO := Lib.hid ((robusts2 z0 L).1 _ _ KO.out.is)
        rw [← hX, ← hB, ← hE] at CO
        rw [← hX, ← hB, ← hE] at HP
        rw [← hB] at rf1 rf2
        rw [← hX] at rf3
        rw [← hE] at rf4 rf5
        have RF1 := Lib.hid rf1
        have RF3 := Lib.hid rf3
        clear hX hB hE rf1 rf3 hp hown hMN HPK
        subst hpN
        go_wp2_with fail
        refine CO.out.mono ?_
        rintro e W1 ⟨vb, rfl, hob, hb⟩
        have KB := Lib.hid hob.is
        have B1 := Lib.hid (below_trans BEL.out hb hsz)
        have HLO := Lib.hid (lit_own W1 W1.heap.size [X] (by intro q hq; simp only [List.mem_singleton] at hq; subst hq; exact RF3.out) (by simp) (Nat.le_refl _))
        have BA := Lib.hid ((Below.refl W1.heap.size W1).alloc (Nat.le_refl _) (.cells #[.int .u64 X] 67))
        have CW := Lib.hid (wide_any vb B _ (KB.out.below BA.out) RF1.out)
        clear hob hb
        try dsimp only
        go_wp2_with fail
        refine CW.out.mono ?_
        rintro e W2 ⟨vw, rfl, how, hbw⟩
        have KW := Lib.hid how.is
        have B2 := Lib.hid (below_trans BA.out hbw BA.out.size)
        have HLO2 := Lib.hid (HLO.out.below hbw)
        have hs2 := B2.out.size
        clear how hbw
        try dsimp only
        go_wp2_with (at_builtin; go_loud (refine wpList_join rfl _ _ rfl W1.heap.size _ _ [X] B rfl HLO2.out rfl KW.out (by simp; omega) hs2 ?_))
        intro v3 W3 ho3 hb3'
        have CT := Lib.hid (told_any v3 (X :: B) E W3 (show IsNums W3 v3 (X :: B) from OwnNums.is ho3) (by simp; omega) rf4 (by omega) (HL.out.below (below_trans B1.out (B2.out.trans hb3') B1.out.size)).2.1)
        have B3 := Lib.hid (below_trans B1.out (B2.out.trans hb3') B1.out.size)
        clear ho3 hb3'
        go_wp2_with fail
        refine CT.out.mono ?_
        rintro e W4 ⟨rfl, hb⟩
        have B4 := Lib.hid (below_trans B3.out hb B3.out.size)
        clear hb
        try dsimp only
        go_wp2_with fail
        exact HP.out _ B4.out
theorem runE2_range (gs : List Gt) (os : List Int) (n t : Int) (a b : Nat) : 0 ≤ runE2 gs os n t a b ∧ runE2 gs os n t a b ≤ 5 := by
  have := circE_range gs os
  unfold runE2 crewE
  repeat' split
  all_goals omega
theorem eRun_any (v vi vd : Value) (gs : List Gt) (os ins ds : List Int) (n t : Int) (w : World) (h : IsCirc w v gs os) (hi : IsNums w vi ins) (hd : IsNums w vd ds) :
    Calls Tryz.prog 51 #[v, .int .i64 n, .int .i64 t, vi, vd] w fun e w' => ∃ vo vs, e = .returned (.tuple #[vo, vs, .int .i64 (runE2 gs os n t ins.length ds.length)]) ∧ OwnNums w' w.heap.size vo (if runE2 gs os n t ins.length ds.length = 0 then ofFs (couts gs os (toFs ins)) else []) ∧ Below w.heap.size w w' := by
  by_cases h0 : runE2 gs os n t ins.length ds.length = 0
  · rw [if_pos h0, h0]
    unfold runE2 at h0
    split at h0
    · next hc =>
      split at h0
      · next hl =>
        split at h0
        · next hdl =>
          obtain ⟨hok, ⟨q1, q2, q3, q4, q5⟩, _⟩ := crewE_zero.1 hc
          obtain ⟨N, rfl⟩ : ∃ N : Nat, n = N := ⟨n.toNat, by omega⟩
          obtain ⟨T, rfl⟩ : ∃ T : Nat, t = T := ⟨t.toNat, by omega⟩
          have hnd : eNeedN gs os N T = (dat N T gs gs.length : Int) := by unfold eNeedN; rw [if_pos hc, Int.toNat_natCast, Int.toNat_natCast]
          refine (eRun_ok v vi vd gs os ins ds N T w h hi hd hc hl (by omega)).mono fun e w' hh => ?_
          obtain ⟨vo, g, vss, rfl, h1, _, _, h2⟩ := hh
          exact ⟨vo, _, rfl, h1, h2⟩
        · omega
      · omega
    · next hc => exact absurd h0 hc
  · rw [if_neg h0]
    exact (eRun_bad v vi vd gs os ins ds n t w h hi hd h0).mono fun e w' hh => ⟨_, _, hh.1, OwnNums.nil _ _, hh.2⟩
theorem toldT_if (l : List Int) (E : Int) : toldT (if E = 0 then l else []) E = toldT l E := by
  unfold toldT
  split
  · rfl
  · rfl
theorem crewE_circ {gs : List Gt} {os : List Int} {n t : Int} {a b : Nat} (h : runE2 gs os n t a b = 0) (ins : List Int) : (ofFs (couts gs os (toFs ins))).length ≤ 30 := by
  have hc : circE gs os = 0 := by
    unfold runE2 at h
    split at h
    · next hc => exact circE_zero.2 (crewE_zero.1 hc).1
    · next hc => exact absurd h hc
  unfold ofFs couts
  rw [List.length_map, List.length_map]
  exact (circE_zero.1 hc).o2
set_option maxRecDepth 100000 in
set_option maxHeartbeats 4000000 in
theorem wRun_any (bn bd lo : Nat) (n ds : List Int) (va vd v : Value) (gs : List Gt) (os : List Int) (w : World) (hcn : w.cell? ⟨bn, 0, none⟩ = some va) (hcd : w.cell? ⟨bd, 0, none⟩ = some vd) (hbn : bn < w.heap.size) (hbd : bd < w.heap.size)
    (h1 : OwnInts w lo va n) (hn0 : ∀ z ∈ n, 0 ≤ z) (h2 : IsInts w vd ds) (hd0 : ∀ z ∈ ds, 0 ≤ z) (hn2 : 2 ≤ n.length) (hL : Lay w) (h : IsCirc w v gs os) :
    Calls Tryz.prog 50 #[v, .pointer (some ⟨bn, 0, none⟩), .pointer (some ⟨bd, 0, none⟩)] w fun e w' => e = .returned (.string (bs (workF n ds gs os))) ∧ Below w.heap.size w w' := by
  match n, hn2 with
  | z0 :: z1 :: r, _ =>
  have KC := Lib.hid h
  have KD := Lib.hid h2
  have HL := Lib.hid hL
  obtain ⟨vg, vo, rfl, hg, ho⟩ := h
  obtain ⟨A1, c1, rfl, hc1, hm1, hl1, hu1, hr1⟩ := hg
  obtain ⟨A2, c2, rfl, hc2, hm2, hl2, hu2, hr2⟩ := ho
  obtain ⟨A4, c4, rfl, hc4, hm4, hl4, hu4, hr4⟩ := h2
  obtain ⟨b3, c3, hv, hb3, l_b, hcell⟩ := own_ints h1 (by simp)
  obtain ⟨N, hN⟩ : ∃ N, N = (z0 :: z1 :: r).length := ⟨_, rfl⟩
  have hN1 : N ≥ 2 := by simp [hN]
  have hJ0 : 0 < N := by omega
  have hI0 : (0 : Int) < (N : Int) := by omega
  have hI1 : (1 : Int) < (N : Int) := by omega
  have hNc : N ≤ c3 := by have := h1.is; obtain ⟨A, c, e1, e2, _⟩ := this; rw [hv] at e1; injection e1 with _ _ e1; omega
  rw [← hN] at hv
  subst hv
  have y0 := hcell 0 z0 rfl
  have y1 := hcell 1 z1 rfl
  have hcut := ints_from (lo := 2) (show IsInts w (.slice (some ⟨b3, 0, none⟩) (z0 :: z1 :: r).length c3) (z0 :: z1 :: r) by rw [← hN]; exact h1.is) (by simp)
  rw [← hN] at hcut
  have hs1 := islice_from (some ⟨b3, 0, none⟩) N c3 2 2 rfl (by omega)
  have hs2 := islice_fromA (some ⟨b3, 0, none⟩) N c3 2 2 rfl (by omega)
  obtain ⟨vt, hvt⟩ : ∃ vt, vt = Value.slice (if c3 = 2 then some ⟨b3, 0, none⟩ else (some (⟨b3, 0, none⟩ : Addr)).map (·.add (2 * 1))) (N - 2) (c3 - 2) := ⟨_, rfl⟩
  rw [← hvt] at hcut hs1 hs2
  have KN := Lib.hid hcut
  have hr0 : ∀ z ∈ r, 0 ≤ z := fun z hz => hn0 z (by simp [hz])
  obtain ⟨w1, hw1⟩ : ∃ w1, w1 = w.alloc (.cells #[.slice A1 gs.length c1, .slice A2 os.length c2] 85) := ⟨_, rfl⟩
  have B1 := Lib.hid (show Below w.heap.size w w1 by rw [hw1]; exact (Below.refl w.heap.size w).alloc (Nat.le_refl _) _)
  have BX1 := Lib.hid (show Box w1 w.heap.size 85 [.slice A1 gs.length c1, .slice A2 os.length c2] by rw [hw1]; exact Box.new _ _ _)
  have hlt1 := BX1.out.lt
  have hsz1 := B1.out.size
  have k0 := BX1.out.cell (i := 0) rfl
  have k1 := BX1.out.cell (i := 1) rfl
  have k2 := (B1.out.cell (p := ⟨bn, 0, none⟩) hbn).trans hcn
  have k3 := (B1.out.cell (p := ⟨b3, 0, none⟩) l_b).trans y0
  have k4 := (B1.out.cell (p := ⟨b3, 1, none⟩) l_b).trans y1
  have k5 := (B1.out.cell (p := ⟨bd, 0, none⟩) hbd).trans hcd
  have lbn := Nat.lt_of_lt_of_le hbn hsz1
  have lbd := Nat.lt_of_lt_of_le hbd hsz1
  have lb3 := Nat.lt_of_lt_of_le l_b hsz1
  have CW := Lib.hid (fun q => wide_any _ r (w1.drewN q) ((KN.out.below B1.out).drewN q) hr0)
  obtain ⟨E, hE⟩ : ∃ E, E = runE2 gs os z0 z1 r.length ds.length := ⟨_, rfl⟩
  obtain ⟨R, hR⟩ : ∃ R, R = (if E = 0 then ofFs (couts gs os (toFs r)) else []) := ⟨_, rfl⟩
  have hRl : R.length ≤ 30 := by
    rw [hR]
    split
    · next h0 => rw [hE] at h0; exact crewE_circ h0 r
    · simp
  have hEr := runE2_range gs os z0 z1 r.length ds.length
  rw [← hE] at hEr
  have HWF := Lib.hid (show workF (z0 :: z1 :: r) ds gs os = toldT R E by
    rw [hR, toldT_if, hE]; rfl)
  have CR := Lib.hid (fun vi vd W (hC : IsCirc W (.agg #[.slice A1 gs.length c1, .slice A2 os.length c2]) gs os) (hi : IsNums W vi r) (hd : IsNums W vd ds) => eRun_any _ vi vd gs os r ds z0 z1 W hC hi hd)
  rw [← hE, ← hR] at CR
  suffices hgoal : ∀ Post : Ending → World → Prop, (∀ w', Below w.heap.size w w' → Post (.returned (.string (bs (toldT R E)))) w') → Calls Tryz.prog 50 #[.agg #[.slice A1 gs.length c1, .slice A2 os.length c2], .pointer (some ⟨bn, 0, none⟩), .pointer (some ⟨bd, 0, none⟩)] w Post from hgoal _ fun w' h => ⟨by rw [HWF.out], h⟩
  intro Post hpo
  have HP := Lib.hid hpo
  clear hpo hu1 hr1 hm1 hu2 hr2 hm2 hu4 hr4 hm4 hL hn0 h1 hcell hN hcut hvt hE hR hr0 hcn hcd y0 y1
  go_enter Tryz.func50, Tryz.ntmps50
  go_upto_block 1 with fail
  rw [← hw1]
  clear hw1
  go_wp2_with fail
  go_region_held3 (fun w' => w'.cell? ⟨w.heap.size, 0, none⟩ = some (.slice A1 gs.length c1) ∧ w'.cell? ⟨w.heap.size, 1, none⟩ = some (.slice A2 os.length c2) ∧ w'.cell? ⟨bn, 0, none⟩ = some (.slice (some ⟨b3, 0, none⟩) N c3) ∧ w'.cell? ⟨b3, 0, none⟩ = some (.int .i64 z0) ∧ w'.cell? ⟨b3, 1, none⟩ = some (.int .i64 z1) ∧ w'.cell? ⟨bd, 0, none⟩ = some (.slice A4 ds.length c4)) (go_keep) (first | (go_at_call 52; refine (CW.out _).mono ?_; rintro e W1 ⟨vw, rfl, ho, hb⟩; have D1 := Lib.hid ((below_drewN (Below.refl w1.heap.size w1) _).trans hb); have q1_0 := (D1.out.cell (p := ⟨w.heap.size, 0, none⟩) hlt1).trans k0; have q1_1 := (D1.out.cell (p := ⟨w.heap.size, 1, none⟩) hlt1).trans k1; have q1_2 := (D1.out.cell (p := ⟨bn, 0, none⟩) lbn).trans k2; have q1_3 := (D1.out.cell (p := ⟨b3, 0, none⟩) lb3).trans k3; have q1_4 := (D1.out.cell (p := ⟨b3, 1, none⟩) lb3).trans k4; have q1_5 := (D1.out.cell (p := ⟨bd, 0, none⟩) lbd).trans k5; have KV := Lib.hid ho.is; have CX := Lib.hid (wide_any _ ds W1 (KD.out.below (B1.out.trans (D1.out.mono hsz1))) hd0); clear ho hb CW) | (go_at_call 52; refine (CX.out).mono ?_; rintro e W2 ⟨vx, rfl, ho, hb⟩; have D2 := Lib.hid (below_trans D1.out hb D1.out.size); have q2_0 := (D2.out.cell (p := ⟨w.heap.size, 0, none⟩) hlt1).trans k0; have q2_1 := (D2.out.cell (p := ⟨w.heap.size, 1, none⟩) hlt1).trans k1; have q2_2 := (D2.out.cell (p := ⟨bn, 0, none⟩) lbn).trans k2; have q2_3 := (D2.out.cell (p := ⟨b3, 0, none⟩) lb3).trans k3; have q2_4 := (D2.out.cell (p := ⟨b3, 1, none⟩) lb3).trans k4; have q2_5 := (D2.out.cell (p := ⟨bd, 0, none⟩) lbd).trans k5; have CY := Lib.hid (CR.out vw vx W2 (KC.out.below (B1.out.trans (D2.out.mono hsz1))) (KV.out.below hb) ho.is); clear ho hb CX q1_0 q1_1 q1_2 q1_3 q1_4 q1_5) | (go_at_call 51; refine (CY.out).mono ?_; rintro e W3 ⟨vr, vs, rfl, ho, hb⟩; have D3 := Lib.hid (below_trans D2.out hb D2.out.size); have q3_0 := (D3.out.cell (p := ⟨w.heap.size, 0, none⟩) hlt1).trans k0; have q3_1 := (D3.out.cell (p := ⟨w.heap.size, 1, none⟩) hlt1).trans k1; have q3_2 := (D3.out.cell (p := ⟨bn, 0, none⟩) lbn).trans k2; have q3_3 := (D3.out.cell (p := ⟨b3, 0, none⟩) lb3).trans k3; have q3_4 := (D3.out.cell (p := ⟨b3, 1, none⟩) lb3).trans k4; have q3_5 := (D3.out.cell (p := ⟨bd, 0, none⟩) lbd).trans k5; have KR := Lib.hid ho.is; clear ho hb CY q2_0 q2_1 q2_2 q2_3 q2_4 q2_5))
  have B3 := Lib.hid (show Below w.heap.size w W3 from B1.out.trans (D3.out.mono hsz1))
  have CT := Lib.hid (told_any vr R E W3 KR.out (by omega) hEr.1 (by omega) (HL.out.below B3.out).2.1)
  clear q3_0 q3_1 q3_2 q3_3 q3_4 q3_5
  go_wp2_with fail
  refine CT.out.mono ?_
  rintro e W4 ⟨rfl, hb⟩
  have B4 := Lib.hid (below_trans B3.out hb B3.out.size)
  clear hb
  try dsimp only
  go_wp2_with fail
  exact HP.out _ B4.out
theorem runL_len {gs : List Gt} {os : List Int} (h : circE gs os = 0) (n : List Int) : (runL gs os n).length ≤ 30 := by
  unfold runL
  split
  · unfold ofFs couts
    rw [List.length_map, List.length_map]
    exact (circE_zero.1 h).o2
  · simp
theorem runE_range (gs : List Gt) (os n : List Int) : 0 ≤ runE gs os n ∧ runE gs os n ≤ 5 := by
  have := circE_range gs os
  unfold runE
  split
  · split <;> omega
  · omega
theorem circT_small {gs : List Gt} {os : List Int} (h : circE gs os = 0) : (circT gs os).length ≤ 2048 := Nat.le_trans (circT_len (circE_zero.1 h)) (by omega)
set_option maxRecDepth 100000 in
set_option maxHeartbeats 1000000 in
theorem show_any (v : Value) (gs : List Gt) (os : List Int) (w : World) (hL : Lay w) (h : IsCirc w v gs os) (h0 : circE gs os = 0) :
    Calls Tryz.prog 58 #[v] w fun e w' => e = .returned (.string (bs (showF gs os))) ∧ Below w.heap.size w w' := by
  have KC := Lib.hid h
  have HL := Lib.hid hL
  have H0 := Lib.hid h0
  obtain ⟨vg, vo, rfl, hg, ho⟩ := h
  obtain ⟨A1, c1, rfl, hc1, hm1, hl1, hu1, hr1⟩ := hg
  obtain ⟨A2, c2, rfl, hc2, hm2, hl2, hu2, hr2⟩ := ho
  have B1 := Lib.hid ((Below.refl w.heap.size w).alloc (Nat.le_refl _) (.cells #[.slice A1 gs.length c1, .slice A2 os.length c2] 85))
  have CP := Lib.hid (cPrint_ok _ gs os _ (KC.out.below B1.out) h0 (HL.out.below B1.out).2.1)
  have hz := circT_small h0
  obtain ⟨s, hs⟩ : ∃ s, s = bs (circT gs os) := ⟨_, rfl⟩
  have hsz : s.size ≤ 2048 := by rw [hs, bs_size]; exact hz
  have HS := Lib.hid (show s ++ (⟨#[111, 107]⟩ : ByteArray) = bs (showF gs os) by rw [hs]; exact bs_append _ [111, 107])
  have t1 : ∀ W, (Op.stringOp .add s ⟨#[111, 107]⟩).run Tryz.prog W = .ok (.string (s ++ ⟨#[111, 107]⟩)) W := fun W => run_string_add_sum W s _ (by have : (⟨#[111, 107]⟩ : ByteArray).size = 2 := rfl; omega)
  rw [← hs] at CP
  clear hs hz hu1 hr1 hm1 hu2 hr2 hm2 hL h0
  go_enter Tryz.func58, Tryz.ntmps58
  go_wp2_with fail
  refine CP.out.mono ?_
  rintro e W2 ⟨rfl, hb⟩
  have B2 := Lib.hid (below_trans B1.out hb B1.out.size)
  clear hb
  try dsimp only
  go_wp2_with fail
  go_ret
  exact ⟨by rw [← HS.out]; rfl, B2.out⟩
set_option maxRecDepth 100000 in
set_option maxHeartbeats 2000000 in
theorem pRun_any (bn : Nat) (n : List Int) (va v : Value) (gs : List Gt) (os : List Int) (w : World) (hc : w.cell? ⟨bn, 0, none⟩ = some va) (hbn : bn < w.heap.size) (h1 : IsInts w va n) (hn0 : ∀ z ∈ n, 0 ≤ z) (hL : Lay w) (h : IsCirc w v gs os) (h0 : circE gs os = 0) :
    Calls Tryz.prog 59 #[v, .pointer (some ⟨bn, 0, none⟩)] w fun e w' => e = .returned (.string (bs (runF n gs os))) ∧ Below w.heap.size w w' := by
  have KC := Lib.hid h
  have KN := Lib.hid h1
  have HL := Lib.hid hL
  have hrl := runL_len h0 n
  have hre := runE_range gs os n
  have HR := Lib.hid (show runF n gs os = toldT (runL gs os n) (runE gs os n) from rfl)
  obtain ⟨vg, vo, rfl, hg, ho⟩ := h
  obtain ⟨A1, c1, rfl, hc1, hm1, hl1, hu1, hr1⟩ := hg
  obtain ⟨A2, c2, rfl, hc2, hm2, hl2, hu2, hr2⟩ := ho
  obtain ⟨A3, c3, rfl, hc3, hm3, hl3, hu3, hr3⟩ := h1
  obtain ⟨w1, hw1⟩ : ∃ w1, w1 = w.alloc (.cells #[.slice A1 gs.length c1, .slice A2 os.length c2] 85) := ⟨_, rfl⟩
  have B1 := Lib.hid (show Below w.heap.size w w1 by rw [hw1]; exact (Below.refl w.heap.size w).alloc (Nat.le_refl _) _)
  have BX1 := Lib.hid (show Box w1 w.heap.size 85 [.slice A1 gs.length c1, .slice A2 os.length c2] by rw [hw1]; exact Box.new _ _ _)
  have CW := Lib.hid (fun q => wide_any _ n (w1.drewN q) ((KN.out.below B1.out).drewN q) hn0)
  have k0 := BX1.out.cell (i := 0) rfl
  have k1 := BX1.out.cell (i := 1) rfl
  have kn := (B1.out.cell (p := ⟨bn, 0, none⟩) hbn).trans hc
  suffices hgoal : ∀ Post : Ending → World → Prop, (∀ w', Below w.heap.size w w' → Post (.returned (.string (bs (toldT (runL gs os n) (runE gs os n))))) w') → Calls Tryz.prog 59 #[.agg #[.slice A1 gs.length c1, .slice A2 os.length c2], .pointer (some ⟨bn, 0, none⟩)] w Post from hgoal _ fun w' h => ⟨by rw [HR.out], h⟩
  intro Post hpo
  have HP := Lib.hid hpo
  clear hpo hu1 hr1 hm1 hu2 hr2 hm2 hu3 hr3 hm3 hL h0 hc hn0
  obtain ⟨R, hR⟩ : ∃ R, R = runL gs os n := ⟨_, rfl⟩
  obtain ⟨E, hE⟩ : ∃ E, E = runE gs os n := ⟨_, rfl⟩
  have HRE := Lib.hid (And.intro hR hE)
  rw [← hR, ← hE] at HP
  rw [← hR] at hrl
  rw [← hE] at hre
  clear hR hE
  have hsz1 := B1.out.size
  go_enter Tryz.func59, Tryz.ntmps59
  go_upto_block 1 with fail
  rw [← hw1]
  clear hw1
  go_wp2_with fail
  go_region_held3 (fun w' => w'.cell? ⟨w.heap.size, 0, none⟩ = some (.slice A1 gs.length c1) ∧ w'.cell? ⟨w.heap.size, 1, none⟩ = some (.slice A2 os.length c2) ∧ w'.cell? ⟨bn, 0, none⟩ = some (.slice A3 n.length c3)) (go_keep) (first | (go_at_call 52; refine (CW.out _).mono ?_; rintro e W2 ⟨vw, rfl, ho2, hb2⟩; have D2 := Lib.hid ((below_drewN (Below.refl w1.heap.size w1) _).trans hb2); have BX2 := Lib.hid (BX1.out.below D2.out); have q0 := BX2.out.cell (i := 0) rfl; have q1 := BX2.out.cell (i := 1) rfl; have qn := (D2.out.cell (p := ⟨bn, 0, none⟩) (Nat.lt_of_lt_of_le hbn hsz1)).trans kn; have B2 := Lib.hid (below_trans B1.out D2.out hsz1); have CR := Lib.hid (cRun_any _ vw gs os n W2 (KC.out.below B2.out) ho2.is); clear ho2 hb2 CW) | (go_at_call 60; refine CR.out.mono ?_; rintro e W3 ⟨vr, rfl, ho3, hb3⟩; rw [← HRE.out.1] at ho3; rw [← HRE.out.2]; have D3 := Lib.hid hb3; have BX3 := Lib.hid (BX2.out.below D3.out); have r0 := BX3.out.cell (i := 0) rfl; have r1 := BX3.out.cell (i := 1) rfl; have rn := (D3.out.cell (p := ⟨bn, 0, none⟩) (Nat.lt_of_lt_of_le hbn B2.out.size)).trans qn; have B3 := Lib.hid (below_trans B2.out D3.out B2.out.size); have CT := Lib.hid (told_any vr R E W3 ho3.is (by omega) hre.1 (by omega) (HL.out.below B3.out).2.1); clear ho3 hb3 CR) | (go_at_call 53; refine CT.out.mono ?_; rintro e W4 ⟨rfl, hb4⟩; have D4 := Lib.hid hb4; have BX4 := Lib.hid (BX3.out.below D4.out); have s0 := BX4.out.cell (i := 0) rfl; have s1 := BX4.out.cell (i := 1) rfl; have sn := (D4.out.cell (p := ⟨bn, 0, none⟩) (Nat.lt_of_lt_of_le hbn B3.out.size)).trans rn; have B4 := Lib.hid (below_trans B3.out D4.out B3.out.size); clear hb4 CT))
  go_wp2_with fail
  exact HP.out _ B4.out
end Go.Proofs.YtploomncapiloaaGreatDoor
