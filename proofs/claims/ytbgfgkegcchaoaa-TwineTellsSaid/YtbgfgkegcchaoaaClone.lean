/- A list of shares copied, and shares picked out of it: what the calls return. -/
import Derived.Test.YtbgfgkegcchaoaaPickW
import Derived.Lib.SliceRun
namespace Go.Proofs.Ytbgfgkegcchaoaa
open Go.RowKit Croft

theorem IsShares.cells {w : World} {v : Value} {l : List (Int × Int)} (h : IsShares w v l) : ∀ s ∈ l, I64 s.1 ∧ U64 s.2 := by
  obtain ⟨_, _, _, _, _, _, h5, _⟩ := h
  exact h5
theorem shs_one (l : List (Int × Int)) : ∀ u ∈ shs l, u.oneCell' = true := by
  intro u hu
  unfold shs at hu
  obtain ⟨s, _, hs⟩ := List.mem_flatMap.1 hu
  simp at hs
  rcases hs with rfl | rfl <;> rfl
theorem wpList_join_shares {ops : Array Oper} {rest : List Oper} {o : Oper} {a : Act} {Q : Exit → Act → World → Prop} {w : World} (hgd : o.guard = none) (s x : Operand)
    (ho : o.op = .call { callee := .builtin .append, args := #[s, x], argTypes := #[90, 90] })
    (base : Nat) (v y : Value) (ds : List (Int × Int)) (hs : a.eval s = v) (hown : OwnShares w base v []) (hx : a.eval x = y) (hy : IsShares w y ds) (hp : 0 < ds.length)
    (hb : base ≤ w.heap.size)
    (h : ∀ v' w', OwnShares w' base v' ds → Below base w w' → wpList Try.prog ops Q rest (a.put o.dst v') w') : wpList Try.prog ops Q (o :: rest) a w := by
  obtain ⟨i0, hi, hz0, hz1, hz2⟩ := info_parts sinfo
  have hcs := hy.cells
  obtain ⟨A, cap, rfl, k1, k2, k3, k4, k5⟩ := hy
  cases A with
  | none =>
    rcases k5 with k5 | ⟨b, o, k5, _⟩
    · have := congrArg List.length k5
      rw [shs_length] at this
      simp at this
      omega
    · cases k5
  | some ad =>
    refine wpList_append_own w hgd s x 90 ho base 94 i0 (.agg #[.int .i64 0, .int .u64 0]) 2 16 Try.underlying90 hi hz0 hz1 hz2 rfl (by decide) v 0 (shs []) hs hown.1 ad ds.length cap (shs ds) hx (by rw [shs_length]) ?_ (shs_one ds) ?_ ?_ hb ?_
    · intro j u hu
      rcases k5 with k5 | ⟨b, o, k5, _, hc⟩
      · rw [k5] at hu; simp at hu
      · obtain rfl := Option.some.inj k5
        rw [add_addr, hc j (List.getElem?_eq_some_iff.1 hu).1, hu]
    · unfold maxLen; omega
    · omega
    · intro v' w' h1 h2 _
      refine h v' w' ⟨?_, k3, hcs⟩ ((Below.refl _ _).grown h2 hb (fun k hk => (hown.1.lt k hk).1))
      have e : shs [] ++ shs ds = shs ds := rfl
      rw [e, Nat.zero_add] at h1
      exact h1
set_option maxRecDepth 100000 in
theorem sClone_any (va : Value) (l : List (Int × Int)) (w : World) (h1 : IsShares w va l) (hp : 0 < l.length) :
    Calls Try.prog 116 #[va] w fun e w' => ∃ v, e = .returned v ∧ OwnShares w' w.heap.size v l ∧ Below w.heap.size w w' := by
  have KA := Lib.hid h1
  obtain ⟨A1, c1, rfl, hc1, hm1, hl1, hu1, hr1⟩ := h1
  obtain ⟨b, o, rfl, hb, _⟩ := hr1.at_ (j := 0) (by rw [shs_length]; omega)
  have KO := Lib.hid (lit_shares w w.heap.size [] (by simp) (by simp) (Nat.le_refl _))
  have hnil : ∀ W, (binOp .eql 90 (.slice (some ⟨b, o, none⟩) l.length c1) (.slice none 0 0)).run Try.prog W = .ok (.bool false) W := fun W => Lib.run_eql_slice_nil W _ _ _ _ _ _ _ Try.underlying90
  clear hu1 hr1 hm1 hb
  go_enter Try.func116, Try.ntmps116
  go_wp2_with (at_builtin; go_loud (refine wpList_join_shares rfl _ _ rfl w.heap.size _ _ l rfl KO.out rfl (KA.out.below ((Below.refl _ _).alloc (Nat.le_refl _) _)) hp (by rw [size_alloc]; omega) ?_))
  intro v' w' ho hb
  have K := Lib.hid ho
  have B := Lib.hid (((Below.refl w.heap.size w).alloc (Nat.le_refl _) (.cells (shs []).toArray 94)).trans hb)
  clear ho hb
  go_wp2_with fail
  go_ret
  exact ⟨_, rfl, K.out, B.out⟩
theorem OwnShares.under {w w' : World} {B base g n c : Nat} {l : List (Int × Int)} (h : OwnShares w base (.slice (some ⟨g, 0, none⟩) n c) l) (hb : Below B w w') (hg : g < B) : OwnShares w' base (.slice (some ⟨g, 0, none⟩) n c) l := by
  refine ⟨⟨h.1.1, ?_⟩, h.2⟩
  rcases h.1.2 with ⟨hv, _⟩ | ⟨g', cap, cur, hv, h2, h3, h4⟩
  · simp at hv
  · have hgg : g = g' := by injection hv with hv; injection hv with hv; injection hv
    subst hgg
    exact .inr ⟨g, cap, cur, hv, h2, (hb.block g hg).trans h3, h4⟩
theorem OwnShares.kept {w w' : World} {base : Nat} {v : Value} {l : List (Int × Int)} {row : Option Nat} (h : OwnShares w base v l) (hg : w.grownBy w' row) (hne : v.ownBlock = none ∨ v.ownBlock ≠ row) : OwnShares w' base v l := ⟨h.1.kept hg hne, h.2⟩
theorem perm_pick {P L S : List (Int × Int)} {i : Nat} {s : Int × Int} (h : (P ++ L).Perm S) (hi : L[i]? = some s) : ((P ++ [s]) ++ L.eraseIdx i).Perm S := by
  refine List.Perm.trans ?_ h
  rw [List.append_assoc]
  apply List.Perm.append_left
  obtain ⟨hl, hs⟩ := List.getElem?_eq_some_iff.1 hi
  have e : L = L.take i ++ s :: L.drop (i + 1) := by
    rw [← hs, ← List.drop_eq_getElem_cons hl, List.take_append_drop]
  rw [eraseIdx_eq]
  have h2 := (List.perm_middle (a := s) (l₁ := L.take i) (l₂ := L.drop (i + 1))).symm
  rw [← e] at h2
  exact h2
set_option maxRecDepth 100000 in
set_option maxHeartbeats 2000000 in
theorem kPicked_any (va vp : Value) (S : List (Int × Int)) (ps : List Int) (K N : Nat) (w : World) (h1 : IsShares w va S) (h2 : IsInts w vp ps) (hN : S.length = N) (hK : 1 ≤ K) (hKN : K ≤ N) (hN9 : N ≤ 9) :
    Calls Try.prog 54 #[va, vp, .int .i64 K] w fun e w' => ∃ v P L, e = .returned v ∧ (P ++ L).Perm S ∧ P.length = K ∧ OwnShares w' w.heap.size v P ∧ Below w.heap.size w w' := by
  have KA := Lib.hid h1
  have KP := Lib.hid h2
  have HN := Lib.hid hN
  obtain ⟨A2, c2, rfl, hc2, hm2, hl2, hu2, hr2⟩ := h2
  clear hu2 hr2 hm2 h1 hN
  suffices hgoal : ∀ Post : Ending → World → Prop, (∀ e w', (∃ v P L, e = .returned v ∧ (P ++ L).Perm S ∧ P.length = K ∧ OwnShares w' w.heap.size v P ∧ Below w.heap.size w w') → Post e w') → Calls Try.prog 54 #[va, .slice A2 ps.length c2, .int .i64 K] w Post from hgoal _ fun e w' h => h
  intro Post hpo
  have HPO := Lib.hid hpo
  clear hpo
  go_enter Try.func54, Try.ntmps54
  go_wp2_with fail
  refine (sClone_any _ S _ KA.out (by rw [HN.out]; omega)).mono ?_
  rintro e W1 ⟨vc, rfl, ho, hb⟩
  obtain ⟨g, c, hv, hg1, hg2⟩ := own_slice ho.1 (by rw [HN.out]; omega)
  rw [HN.out] at hv
  subst hv
  have KL := Lib.hid ho
  have B1 := Lib.hid hb
  have KP1 := Lib.hid (KP.out.below hb)
  clear ho hb
  try dsimp only
  go_wp2_with fail
  go_loopw [0, 7, 13] (fun vl v i wr => ∃ (k m : Nat) (L P : List (Int × Int)), k ≤ K ∧ i = .int .i64 k ∧ vl = .slice (some ⟨g, 0, none⟩) m c ∧ m + k = N ∧ P.length = k ∧ (P ++ L).Perm S ∧ OwnShares wr w.heap.size (.slice (some ⟨g, 0, none⟩) m c) L ∧ OwnShares wr W1.heap.size v P ∧ Below w.heap.size w wr ∧ W1.heap.size ≤ wr.heap.size) (fun _ _ i _ => K - (intOf i).toNat)
  case atStart => exact ⟨0, N, S, [], Nat.zero_le _, rfl, rfl, by omega, rfl, by simp, KL.out, OwnShares.nil _ _, B1.out, Nat.le_refl _⟩
  case round =>
    obtain ⟨k, m, L, P, hk, rfl, rfl, hmk, hpl, hperm, hL, hP, hbel, hsz1⟩ := hrel
    have KLr := Lib.hid hL
    have KPr := Lib.hid hP
    have HPM := Lib.hid hperm
    have HPL := Lib.hid hpl
    have BEL := Lib.hid hbel
    have hsz := hbel.size
    clear hL hP hperm hpl hbel
    by_cases hlt : k < K
    · obtain ⟨m', rfl⟩ : ∃ m', m = m' + 1 := ⟨m - 1, by omega⟩
      have hdk : decide ((k : Int) < (K : Int)) = true := by simp; omega
      have HLL := Lib.hid (show L.length = m' + 1 from KLr.out.len.symm)
      by_cases hkp : k < ps.length
      · have hdp : decide ((k : Int) < (ps.length : Int)) = true := by simp; omega
        obtain ⟨A, c_, hA, _, _, _, hu, hr_⟩ := KP.out.below BEL.out
        injection hA with hA1 hA2 hA3
        subst hA1 hA3
        clear hA2
        obtain ⟨bp, op_, z, rfl, hbp, hgp, hz64, hcz⟩ := ints_at hr_ hu hkp
        clear hu hr_ hgp hbp
        go_wp2_with fail
        try rw [show ((m' : Int) + 1) = ((m' + 1 : Nat) : Int) by simp]
        refine (rRest_any z (m' + 1) _ (by omega) (by omega)).mono ?_
        rintro e w' ⟨⟨r, hr, rfl⟩, rfl⟩
        clear hcz
        try dsimp only
        obtain ⟨s, hs⟩ : ∃ s, L[r]? = some s := ⟨_, List.getElem?_eq_getElem (by rw [HLL.out]; omega)⟩
        obtain ⟨a, y⟩ := s
        have hca := KLr.out.cellA hs
        have hcy := KLr.out.cellY hs
        have HS := Lib.hid hs
        have hin := KLr.out.2.2 _ (List.mem_of_getElem? hs)
        obtain ⟨ha64, hy64⟩ := hin
        dsimp only at ha64 hy64
        clear hs
        go_wp2_with (at_builtin; go_loud (refine wpList_push_share rfl _ _ rfl W1.heap.size _ P a y wr.heap.size 1 rfl (KPr.out.alloc _) rfl (pair_cell0 _ _ _ _) (pair_cell1 _ _ _ _) ha64 hy64 (by have := HPL.out; omega) (by rw [size_alloc]; omega) ?_))
        intro v' w5 hown' hbel'
        have KL5 := Lib.hid ((KLr.out.alloc (.cells #[.int .i64 a, .int .u64 y] 94)).under hbel' hg2)
        have B5 := Lib.hid ((BEL.out.alloc hsz (.cells #[.int .i64 a, .int .u64 y] 94)).trans (hbel'.mono (by have := B1.out.size; omega)))
        have hs5 : W1.heap.size ≤ w5.heap.size := by have := hbel'.size; rw [size_alloc] at this; omega
        have KP5 := Lib.hid hown'
        clear hown' hbel' hca hcy
        go_wp2_with fail
        refine (sDelete_any g m' c r w.heap.size L _ KL5.out (by omega) (by omega)).mono ?_
        rintro e w6 ⟨rfl, hL6, hgr6⟩
        have KL6 := Lib.hid hL6
        have KP6 := Lib.hid (KP5.out.kept hgr6 (.inr (fun e => by have := (KP5.out.1.lt g e).1; omega)))
        have B6 := Lib.hid (B5.out.grown hgr6 B5.out.size (fun j hj => by cases hj; exact hg1))
        have hs6 : W1.heap.size ≤ w6.heap.size := Nat.le_trans hs5 hgr6.size
        have HPM6 := Lib.hid (perm_pick HPM.out HS.out)
        clear hL6 hgr6
        try dsimp only
        go_wp2_with fail
        exact ⟨⟨k + 1, m', _, _, by omega, by go_num, rfl, by omega, by rw [List.length_append, HPL.out]; rfl, HPM6.out, KL6.out, KP6.out, B6.out, hs6⟩, by simp [intOf] <;> omega⟩
      · have hdp : decide ((k : Int) < (ps.length : Int)) = false := by simp; omega
        obtain ⟨s, hs⟩ : ∃ s, L[0]? = some s := ⟨_, List.getElem?_eq_getElem (by rw [HLL.out]; omega)⟩
        obtain ⟨a, y⟩ := s
        have hca := KLr.out.cellA hs
        have hcy := KLr.out.cellY hs
        simp only [Nat.zero_mul, Nat.zero_add] at hca hcy
        have HS := Lib.hid hs
        have hin := KLr.out.2.2 _ (List.mem_of_getElem? hs)
        obtain ⟨ha64, hy64⟩ := hin
        dsimp only at ha64 hy64
        clear hs
        go_wp2_with (at_builtin; go_loud (refine wpList_push_share rfl _ _ rfl W1.heap.size _ P a y wr.heap.size 1 rfl (KPr.out.alloc _) rfl (pair_cell0 _ _ _ _) (pair_cell1 _ _ _ _) ha64 hy64 (by have := HPL.out; omega) (by rw [size_alloc]; omega) ?_))
        intro v' w5 hown' hbel'
        have KL5 := Lib.hid ((KLr.out.alloc (.cells #[.int .i64 a, .int .u64 y] 94)).under hbel' hg2)
        have B5 := Lib.hid ((BEL.out.alloc hsz (.cells #[.int .i64 a, .int .u64 y] 94)).trans (hbel'.mono (by have := B1.out.size; omega)))
        have hs5 : W1.heap.size ≤ w5.heap.size := by have := hbel'.size; rw [size_alloc] at this; omega
        have KP5 := Lib.hid hown'
        clear hown' hbel' hca hcy
        go_wp2_with fail
        refine (sDelete_any g m' c 0 w.heap.size L _ KL5.out (by omega) (by omega)).mono ?_
        rintro e w6 ⟨rfl, hL6, hgr6⟩
        have KL6 := Lib.hid hL6
        have KP6 := Lib.hid (KP5.out.kept hgr6 (.inr (fun e => by have := (KP5.out.1.lt g e).1; omega)))
        have B6 := Lib.hid (B5.out.grown hgr6 B5.out.size (fun j hj => by cases hj; exact hg1))
        have hs6 : W1.heap.size ≤ w6.heap.size := Nat.le_trans hs5 hgr6.size
        have HPM6 := Lib.hid (perm_pick HPM.out HS.out)
        clear hL6 hgr6
        try dsimp only
        go_wp2_with fail
        exact ⟨⟨k + 1, m', _, _, by omega, by go_num, rfl, by omega, by rw [List.length_append, HPL.out]; rfl, HPM6.out, KL6.out, KP6.out, B6.out, hs6⟩, by simp [intOf] <;> omega⟩
    · obtain rfl : k = K := by omega
      go_wp2_with fail
      exact HPO.out _ _ ⟨_, P, L, rfl, HPM.out, HPL.out, KPr.out.less (by have := B1.out.size; omega), BEL.out⟩
end Go.Proofs.Ytbgfgkegcchaoaa
