/- Package twine: Pairs: what the call returns. -/
import Derived.Test.YtbgfgkegcchaoaaTwS
import Derived.Test.YtbgfgkegcchaoaaShamK
import Derived.Test.YtbgfgkegcchaoaaHideW
namespace Go.Proofs.Ytbgfgkegcchaoaa
open Go.RowKit Go.Maps Croft

/-- pairs of whole numbers, in memory -/
def prc (l : List (Int × Int)) : List Value := l.flatMap fun p => [Value.int .i64 p.1, Value.int .i64 p.2]
theorem prc_length (l : List (Int × Int)) : (prc l).length = l.length * 2 := pairs_length _ _ _
theorem prc_snoc (l : List (Int × Int)) (a b : Int) : prc (l ++ [(a, b)]) = prc l ++ [.int .i64 a, .int .i64 b] := by simp [prc]
def OwnPairs (w : World) (base : Nat) (v : Value) (l : List (Int × Int)) : Prop :=
  w.ownsRow base 88 2 v l.length (prc l) ∧ l.length ≤ 8796093022208 ∧ ∀ p ∈ l, I64 p.1 ∧ I64 p.2
theorem OwnPairs.nil (w : World) (base : Nat) : OwnPairs w base (.slice none 0 0) [] := ⟨World.ownsRow_nil _ _ _ _, by simp, by simp⟩
theorem OwnPairs.below {w w' : World} {base : Nat} {v : Value} {l : List (Int × Int)} (h : OwnPairs w base v l) (hb : Below w.heap.size w w') : OwnPairs w' base v l := ⟨own_kept h.1 hb, h.2⟩
theorem OwnPairs.alloc {w : World} {base : Nat} {v : Value} {l : List (Int × Int)} (h : OwnPairs w base v l) (o : Obj) : OwnPairs (w.alloc o) base v l := h.below ((Below.refl _ _).alloc (Nat.le_refl _) o)
theorem OwnPairs.drewN {w : World} {base : Nat} {v : Value} {l : List (Int × Int)} (h : OwnPairs w base v l) (n : Nat) : OwnPairs (w.drewN n) base v l := h.below (below_drewN (Below.refl _ _) n)
theorem OwnPairs.less {w : World} {base base' : Nat} {v : Value} {l : List (Int × Int)} (h : OwnPairs w base v l) (hb : base' ≤ base) : OwnPairs w base' v l := by
  refine ⟨⟨h.1.1, ?_⟩, h.2⟩
  rcases h.1.2 with h1 | ⟨g, cap, cur, hv, hg, r⟩
  · exact .inl h1
  · exact .inr ⟨g, cap, cur, hv, by omega, r⟩
theorem OwnPairs.notBox {w : World} {base b : Nat} {v : Value} {l : List (Int × Int)} {cs : List Value} {t : TypeId} (h : OwnPairs w base v l) (hb : Box w b t cs) (ht : t ≠ 88) : v.ownBlock ≠ some b := fun hv => by
  rcases h.1.2 with ⟨rfl, _⟩ | ⟨g, cap, cur, rfl, _, hg, _⟩
  · simp [Value.ownBlock] at hv
  · have e : g = b := by simpa [Value.ownBlock] using hv
    subst e
    unfold Box at hb
    rw [hb] at hg
    injection hg with hg
    injection hg with _ hg
    exact ht hg
theorem pinfo : (Try.prog.info? 88).map (fun i => (i.zero, i.size, i.bytes)) = some (some (.agg #[.int .i64 0, .int .i64 0]), 2, 16) := by kernel_rfl
theorem wpList_push_pair {ops : Array Oper} {rest : List Oper} {o : Oper} {a : Act} {Q : Exit → Act → World → Prop} {w : World} (hgd : o.guard = none) (s x : Operand)
    (ho : o.op = .call { callee := .builtin .append, args := #[s, x], argTypes := #[84, 84] })
    (base : Nat) (v : Value) (l : List (Int × Int)) (n z : Int) (g c : Nat) (hs : a.eval s = v) (hown : OwnPairs w base v l) (hx : a.eval x = .slice (some ⟨g, 0, none⟩) 1 c)
    (hc : w.cell? ⟨g, 0, none⟩ = some (.int .i64 n)) (hc2 : w.cell? ⟨g, 1, none⟩ = some (.int .i64 z)) (hn : I64 n) (hz : I64 z) (hl : l.length + 1 ≤ 8796093022208) (hb : base ≤ w.heap.size)
    (h : ∀ v' w', OwnPairs w' base v' (l ++ [(n, z)]) → Below base w w' → w.grownBy w' v.ownBlock → wpList Try.prog ops Q rest (a.put o.dst v') w') : wpList Try.prog ops Q (o :: rest) a w := by
  obtain ⟨i0, hi, hz0, hz1, hz2⟩ := info_parts pinfo
  refine wpList_append_own w hgd s x 84 ho base 88 i0 (.agg #[.int .i64 0, .int .i64 0]) 2 16 Try.underlying84 hi hz0 hz1 hz2 rfl (by decide) v l.length (prc l) hs hown.1 ⟨g, 0, none⟩ 1 c [.int .i64 n, .int .i64 z] hx rfl ?_ ?_ ?_ ?_ hb ?_
  · intro j u hu
    match j, hu with
    | 0, hu =>
      simp at hu
      subst hu
      rw [add_addr]; exact hc
    | 1, hu =>
      simp at hu
      subst hu
      rw [add_addr]; exact hc2
  · intro u hu
    simp at hu
    rcases hu with rfl | rfl <;> rfl
  · unfold maxLen; omega
  · omega
  · intro v' w' h1 h2 _
    refine h v' w' ⟨?_, ?_, ?_⟩ ((Below.refl _ _).grown h2 hb (fun k hk => (hown.1.lt k hk).1)) h2
    · have e : (l ++ [(n, z)]).length = l.length + 1 := by simp
      rw [e, prc_snoc]; exact h1
    · simpa using hl
    · intro y hy
      rcases List.mem_append.1 hy with h3 | h3
      · exact hown.2.2 y h3
      · simp at h3; subst h3; exact ⟨hn, hz⟩
/-- the pairs that a row is in, with rows behind it -/
def prRow (a : Int × List Int) (L : List (Int × List Int)) : List (Int × Int) := (L.filter fun b => !fitB a b).map fun b => (a.1, b.1)
def prK (l : List (Int × List Int)) : Nat → List (Int × Int)
  | 0 => []
  | k + 1 => match l[k]? with
    | some a => prK l k ++ prRow a (l.drop (k + 1))
    | none => prK l k
def prL (l : List (Int × List Int)) : List (Int × Int) := prK l l.length
theorem prK_next {l : List (Int × List Int)} {k : Nat} {a : Int × List Int} (h : l[k]? = some a) : prK l (k + 1) = prK l k ++ prRow a (l.drop (k + 1)) := by simp only [prK, h]
theorem prRow_next {a b : Int × List Int} {L : List (Int × List Int)} {m : Nat} (h : L[m]? = some b) : prRow a (L.take (m + 1)) = prRow a (L.take m) ++ (if fitB a b = true then [] else [(a.1, b.1)]) := by
  unfold prRow
  rw [List.take_add_one, h, Option.toList_some, List.filter_append, List.map_append]
  refine congrArg (((L.take m).filter fun b => !fitB a b).map (fun b => (a.1, b.1)) ++ ·) ?_
  cases hf : fitB a b <;> simp [hf]
theorem prRow_length (a : Int × List Int) (L : List (Int × List Int)) : (prRow a L).length ≤ L.length := by
  unfold prRow
  rw [List.length_map]
  exact List.length_filter_le _ _
theorem prK_length (l : List (Int × List Int)) : ∀ k, (prK l k).length ≤ k * l.length
  | 0 => by simp [prK]
  | k + 1 => by
    have ih := prK_length l k
    rw [Nat.succ_mul]
    cases h : l[k]? with
    | none => simp only [prK, h]; omega
    | some a =>
      rw [prK_next h, List.length_append]
      have h1 := prRow_length a (l.drop (k + 1))
      rw [List.length_drop] at h1
      omega
theorem rslice_from (A : Option Addr) (m c lo : Nat) (h1 : lo ≤ m) (W : World) :
    (Instr.sliceAt 77 (.slice A m c) (some (.int .i64 (lo : Int))) none none).run Try.prog W = .ok (.slice (if c = lo then A else A.map (·.add (lo * 2))) (m - lo) (c - lo)) W := by
  have hU : Program.underlying Try.prog 77 = some (.slice (Program.elem Try.prog 77)) := by kernel_rfl
  have hs : ∀ W, (sizeOf (Program.elem Try.prog 77)).run Try.prog W = .ok 2 W := fun W => by kernel_rfl
  rw [run_sliceAt_slice _ _ _ _ _ _ hU, run_slice_l W _ A m c hU .i64 _ (by omega) (by omega), hs]
  simp [Result.andThen, sliced]
theorem rowsB_true {l : List (Int × List Int)} : rowsB l = true ↔ ((∀ r ∈ l, 1 ≤ r.1 ∧ r.1 ≤ 9) ∧ (l.map (·.1)).Nodup) ∧ ∀ r ∈ l, 1 ≤ r.2.length ∧ r.2.length ≤ 5 := by
  unfold rowsB lenOk
  rw [Bool.and_eq_true, partyB_true, List.all_eq_true]
  simp
theorem formE_zero {l : List (Int × List Int)} (h : formE l = 0) : rowsB l = true := by
  unfold formE at h
  split at h
  · assumption
  · omega
theorem rows_few {l : List (Int × List Int)} (h : rowsB l = true) : l.length ≤ 9 := by
  obtain ⟨⟨h1, h2⟩, _⟩ := rowsB_true.1 h
  have hp : partyB (l.map (·.1)) = true := partyB_true.2 ⟨fun z hz => by obtain ⟨r, hr, rfl⟩ := List.mem_map.1 hz; exact h1 r hr, h2⟩
  have := party_len hp
  rwa [List.length_map] at this
theorem pPairs_bad (va : Value) (l : List (Int × List Int)) (w : World) (h1 : IsRows w va l) (h : formE l ≠ 0) :
    Calls Try.prog 52 #[va] w fun e w' => e = .returned (.tuple #[.slice none 0 0, .int .i64 (formE l)]) ∧ Below w.heap.size w w' := by
  have KA := Lib.hid h1
  have hb : (formE l != 0) = true := by rw [bne_iff_ne]; exact h
  clear h h1
  go_enter Try.func52, Try.ntmps52
  go_wp2_with fail
  refine (pForm_any va l w KA.out).mono ?_
  rintro e w' ⟨rfl, hb'⟩
  have HB := Lib.hid hb'
  clear hb'
  try dsimp only
  go_wp2_with fail
  go_ret2
  exact ⟨rfl, HB.out⟩
set_option maxRecDepth 100000 in
set_option maxHeartbeats 4000000 in
theorem pPairs_ok (va : Value) (l : List (Int × List Int)) (w : World) (h1 : IsRows w va l) (h : formE l = 0) (hp : 0 < l.length) :
    Calls Try.prog 52 #[va] w fun e w' => ∃ l' vp, l'.Perm l ∧ l'.Pairwise (fun a b => a.1 < b.1) ∧ e = .returned (.tuple #[vp, .int .i64 0]) ∧ OwnPairs w' w.heap.size vp (prL l') ∧ Below w.heap.size w w' := by
  have KA := Lib.hid h1
  have HE := Lib.hid h
  have hrb := formE_zero h
  have hl9 := rows_few hrb
  obtain ⟨⟨hat, hnd⟩, hln⟩ := rowsB_true.1 hrb
  obtain ⟨A, c, T, rfl, hc, hm, hl, hT, hr, hr3⟩ := h1.three
  have hTl : T.length = l.length := by rw [← hT]; simp [dat3]
  obtain ⟨b, o, rfl, _, _⟩ := hr.at_ (j := 0) (by rw [rc3_length]; omega)
  have HR := Lib.hid hr
  have HR3 := Lib.hid hr3
  have HT := Lib.hid hT
  have HTL := Lib.hid hTl
  have HAT := Lib.hid hat
  have HND := Lib.hid hnd
  suffices hgoal : ∀ Post : Ending → World → Prop, (∀ e w', (∃ l' vp, l'.Perm l ∧ l'.Pairwise (fun a b => a.1 < b.1) ∧ e = .returned (.tuple #[vp, .int .i64 0]) ∧ OwnPairs w' w.heap.size vp (prL l') ∧ Below w.heap.size w w') → Post e w') → Calls Try.prog 52 #[.slice (some ⟨b, o, none⟩) l.length c] w Post from hgoal _ fun e w' h => h
  intro Post hpo
  have HP := Lib.hid hpo
  clear hpo h1 h hr hr3 hT hTl hat hnd hln hrb hm
  obtain ⟨N, hN⟩ : ∃ N, N = l.length := ⟨_, rfl⟩
  rw [← hN] at hp hl9 hc hl ⊢
  have HN := Lib.hid hN
  clear hN
  go_enter Try.func52, Try.ntmps52
  go_wp2_with fail
  refine (pForm_any _ l w (by rw [HN.out]; exact KA.out)).mono ?_
  rintro e W1 ⟨rfl, hb1⟩
  rw [HE.out]
  have B1 := Lib.hid hb1
  have R31 := Lib.hid (HR3.out.below hb1)
  have C1 := Lib.hid (HR.out.below hb1)
  clear hb1
  try dsimp only
  go_wp2_with fail
  refine (rowsClone_at b o c N T _ (by rw [HTL.out, HN.out]) hl C1.out R31.out).mono ?_
  rintro e W2 ⟨v2, rfl, ho2, hb2⟩
  obtain ⟨g, cg, hv2, hg, hg2⟩ := own_slice ho2 (by omega)
  subst hv2
  have B2 := Lib.hid (below_trans B1.out hb2 B1.out.size)
  have O2 := Lib.hid ho2
  have S2 := Lib.hid (show Srt3 W2 T from fun p hp => by
    have hd : (p.1, p.2.2) ∈ l := by rw [← HT.out]; exact List.mem_map.2 ⟨p, hp, rfl⟩
    obtain ⟨h1, h2⟩ := HAT.out _ hd
    exact ⟨h1, h2, (R31.out.below hb2) p hp⟩)
  have hs1 := B1.out.size
  clear ho2 hb2
  try dsimp only
  go_wp2_with fail
  refine (rowsSort_at W1.heap.size g cg N T W2 (by rw [HTL.out, HN.out]) O2.out S2.out (by omega)).mono ?_
  rintro e W3 ⟨rfl, T', hperm, hsort, ho3, hg3⟩
  have B3 := Lib.hid (B2.out.grown hg3 B2.out.size (fun k hk => by injection hk with hk; omega))
  have R33 := Lib.hid (show Rows3 W3 T' from (HR3.out.below B3.out).perm hperm)
  have O3 := Lib.hid ho3
  have hT'l : T'.length = N := by rw [hperm.length_eq, HTL.out, HN.out]
  have HT'L := Lib.hid hT'l
  obtain ⟨l', hl'⟩ : ∃ l', l' = dat3 T' := ⟨_, rfl⟩
  have HPM := Lib.hid (show l'.Perm l by rw [hl', ← HT.out]; exact hperm.map _)
  have hll : l'.length = N := by rw [HPM.out.length_eq, HN.out]
  have HLL := Lib.hid hll
  have HSO := Lib.hid (show l'.Pairwise (fun a b => a.1 < b.1) by
    have hnd : (l'.map (·.1)).Nodup := (HPM.out.map (·.1)).nodup_iff.2 HND.out
    have h1 : l'.Pairwise (fun a b => a.1 ≤ b.1) := by rw [hl']; unfold dat3; rw [List.pairwise_map]; exact hsort
    have h2 : l'.Pairwise (fun a b => a.1 ≠ b.1) := by rw [List.nodup_iff_pairwise_ne, List.pairwise_map] at hnd; exact hnd
    exact (h1.and h2).imp (fun h => by omega))
  have HL' := Lib.hid hl'
  have HAT' := Lib.hid (show ∀ r ∈ l', 1 ≤ r.1 ∧ r.1 ≤ 9 from fun r hr => HAT.out r (HPM.out.mem_iff.1 hr))
  have hs3 := B3.out.size
  have hg3s : g < W3.heap.size := Nat.lt_of_lt_of_le hg2 hg3.size
  have hsl := fun lo (hlo : lo ≤ N) => rslice_from (some ⟨g, 0, none⟩) N cg lo hlo
  have hNc : N ≤ cg := by
    rcases ho3.2 with ⟨hv, _⟩ | ⟨g', cap', cur, hv, _, _, hnc, _⟩
    · cases hv
    · injection hv with _ _ hv3; omega
  clear hperm hsort ho3 hg3 hT'l hll hl' O2 S2 R31 C1
  have CELL := Lib.hid (show ∀ (k : Nat) (p : R3), T'[k]? = some p → W3.cell? ⟨g, k * 2, none⟩ = some (.int .i64 p.1) ∧ W3.cell? ⟨g, k * 2 + 1, none⟩ = some p.2.1 from fun k p hk => by
    have hk1 := (List.getElem?_eq_some_iff.1 hk).1
    obtain ⟨g1, g2⟩ := rc3_get hk
    have hl2 := HT'L.out
    exact ⟨by rw [O3.out.cellAt (k * 2) (by omega), g1], by rw [O3.out.cellAt (k * 2 + 1) (by omega), g2]⟩)
  try dsimp only
  go_wp2_with fail
  go_loopw [5, 21] (fun v i wr => ∃ k : Nat, k ≤ N ∧ i = .int .i64 k ∧ OwnPairs wr W3.heap.size v (prK l' k) ∧ Below W3.heap.size W3 wr) (fun _ i _ => N - (intOf i).toNat)
  case atStart => exact ⟨0, Nat.zero_le _, rfl, OwnPairs.nil _ _, Below.refl _ _⟩
  case round =>
    obtain ⟨k, hk, rfl, hown, hbel⟩ := hrel
    have KO := Lib.hid hown
    have BEL := Lib.hid hbel
    have hsz := hbel.size
    clear hown hbel
    by_cases hlk : k < N
    · obtain ⟨p, hpk⟩ : ∃ p, T'[k]? = some p := ⟨_, List.getElem?_eq_getElem (by rw [HT'L.out]; exact hlk)⟩
      obtain ⟨ca, cb⟩ := CELL.out k p hpk
      replace ca := (BEL.out.cell (p := ⟨g, k * 2, none⟩) hg3s).trans ca
      replace cb := (BEL.out.cell (p := ⟨g, k * 2 + 1, none⟩) hg3s).trans cb
      have hnums := R33.out p (List.mem_of_getElem? hpk)
      have HNP := Lib.hid (hnums.below BEL.out)
      obtain ⟨Ax, cx, hvx, _, _, _, _, _⟩ := hnums
      have hpl : l'[k]? = some (p.1, p.2.2) := by rw [HL'.out]; unfold dat3; rw [List.getElem?_map, hpk]; rfl
      have HPL := Lib.hid hpl
      have HMEM0 := List.mem_of_getElem? hpk
      have hpr := HAT'.out _ (List.mem_of_getElem? hpl)
      obtain ⟨p0, pv, pn⟩ := p
      dsimp only at ca cb hvx hpr hpl
      subst hvx
      have HMEM := Lib.hid HMEM0
      clear HMEM0
      have KP := Lib.hid (show IsNums wr (.slice Ax pn.length cx) pn from HNP.out)
      have BX := Lib.hid (Box.new wr 83 [.int .i64 p0, .slice Ax pn.length cx])
      have HB2 := Lib.hid ((Below.refl wr.heap.size wr).alloc (Nat.le_refl _) (.cells #[.int .i64 p0, .slice Ax pn.length cx] 83))
      have hsl1 := hsl (k + 1) (by omega)
      have hki : ((k : Int) + 1) = ((k + 1 : Nat) : Int) := by omega
      rw [← hki] at hsl1
      obtain ⟨A2, hA2⟩ : ∃ A2, A2 = (if cg = k + 1 then some (⟨g, 0, none⟩ : Addr) else (some (⟨g, 0, none⟩ : Addr)).map (·.add ((k + 1) * 2))) := ⟨_, rfl⟩
      rw [← hA2] at hsl1
      have HA2 := Lib.hid hA2
      obtain ⟨M, hM⟩ : ∃ M, M = N - (k + 1) := ⟨_, rfl⟩
      rw [← hM] at hsl1
      have hMN : M + (k + 1) = N := by omega
      have HM := Lib.hid hMN
      clear hA2 hM hpk hpl HNP hki
      go_upto_region 10 with fail
      obtain ⟨w2, hw2⟩ : ∃ w2, w2 = wr.alloc (.cells #[.int .i64 p0, .slice Ax pn.length cx] 83) := ⟨_, rfl⟩
      replace BX := Lib.hid (show Box w2 wr.heap.size 83 [.int .i64 p0, .slice Ax pn.length cx] by rw [hw2]; exact BX.out)
      have KP2 := Lib.hid (show IsNums w2 (.slice Ax pn.length cx) pn by rw [hw2]; exact KP.out.below HB2.out)
      have KO2 := Lib.hid (show OwnPairs w2 W3.heap.size _ (prK l' k) by rw [hw2]; exact KO.out.alloc _)
      have B2' := Lib.hid (show Below W3.heap.size W3 w2 by rw [hw2]; exact BEL.out.alloc hsz _)
      rw [← hw2]
      obtain ⟨cb', hcb'⟩ : ∃ c, c = wr.heap.size := ⟨_, rfl⟩
      rw [← hcb'] at BX ⊢
      have hs2 := B2'.out.size
      have hbx := BX.out.lt
      clear hw2 hcb' ca cb HB2 KP KO
      go_wp2_with fail
      go_loopw [5, 31] (fun v i wx => ∃ m : Nat, m ≤ M ∧ i = .int .i64 m ∧ OwnPairs wx W3.heap.size v (prK l' k ++ prRow (p0, pn) ((l'.drop (k + 1)).take m)) ∧ Box wx cb' 83 [.int .i64 p0, .slice Ax pn.length cx] ∧ Below W3.heap.size W3 wx) (fun _ i _ => M - (intOf i).toNat)
      case atStart => exact ⟨0, Nat.zero_le _, rfl, by rw [List.take_zero]; unfold prRow; rw [List.filter_nil, List.map_nil, List.append_nil]; exact KO2.out, BX.out, B2'.out⟩
      case round =>
        obtain ⟨m, hm, rfl, hown, hbox, hbq⟩ := hrel
        clear KO2 BX B2' hs2 hbx
        have KO := Lib.hid hown
        have BX := Lib.hid hbox
        have BQ := Lib.hid hbq
        have hsq := BQ.out.size
        clear hown hbox hbq
        by_cases hlm : m < M
        · have hA : A2 = some ⟨g, (k + 1) * 2, none⟩ := by
            rw [HA2.out, if_neg (by omega), Option.map_some, add_addr, Nat.zero_add]
          subst hA
          obtain ⟨p, hpk⟩ : ∃ p, T'[k + 1 + m]? = some p := ⟨_, List.getElem?_eq_getElem (by rw [HT'L.out]; omega)⟩
          obtain ⟨ca, cb⟩ := CELL.out _ p hpk
          replace ca := (BQ.out.cell (p := ⟨g, (k + 1 + m) * 2, none⟩) hg3s).trans ca
          replace cb := (BQ.out.cell (p := ⟨g, (k + 1 + m) * 2 + 1, none⟩) hg3s).trans cb
          rw [Nat.add_mul (k + 1) m 2] at ca cb
          have hnums := R33.out p (List.mem_of_getElem? hpk)
          have HNP := Lib.hid (hnums.below BQ.out)
          obtain ⟨Ay, cy, hvy, _, _, _, _, _⟩ := hnums
          have hpl : l'[k + 1 + m]? = some (p.1, p.2.2) := by rw [HL'.out]; unfold dat3; rw [List.getElem?_map, hpk]; rfl
          have hpr2 := HAT'.out _ (List.mem_of_getElem? hpl)
          have hpd : (l'.drop (k + 1))[m]? = some (p.1, p.2.2) := by rw [List.getElem?_drop]; exact hpl
          obtain ⟨q0, qv, qn⟩ := p
          dsimp only at ca cb hvy hpr2 hpl hpd
          subst hvy
          have HPN := Lib.hid (prRow_next (a := (p0, pn)) hpd)
          have KP := Lib.hid (show IsNums wr (.slice Ay qn.length cy) qn from HNP.out)
          have KPx := Lib.hid (show IsNums wr (.slice Ax pn.length cx) pn from (R33.out (p0, .slice Ax pn.length cx, pn) HMEM.out).below BQ.out)
          have BY := Lib.hid (Box.new wr 83 [.int .i64 q0, .slice Ay qn.length cy])
          have HB2 := Lib.hid ((Below.refl wr.heap.size wr).alloc (Nat.le_refl _) (.cells #[.int .i64 q0, .slice Ay qn.length cy] 83))
          have hbl := BX.out.lt
          clear hpk hpl hpd HNP
          go_upto_region 13 with fail
          obtain ⟨w4, hw4⟩ : ∃ w4, w4 = wr.alloc (.cells #[.int .i64 q0, .slice Ay qn.length cy] 83) := ⟨_, rfl⟩
          replace BY := Lib.hid (show Box w4 wr.heap.size 83 [.int .i64 q0, .slice Ay qn.length cy] by rw [hw4]; exact BY.out)
          have BX4 := Lib.hid (show Box w4 cb' 83 [.int .i64 p0, .slice Ax pn.length cx] by rw [hw4]; exact BX.out.below HB2.out)
          have KP4 := Lib.hid (show IsNums w4 (.slice Ay qn.length cy) qn by rw [hw4]; exact KP.out.below HB2.out)
          have KPx4 := Lib.hid (show IsNums w4 (.slice Ax pn.length cx) pn by rw [hw4]; exact KPx.out.below HB2.out)
          have KO4 := Lib.hid (show OwnPairs w4 W3.heap.size _ (prK l' k ++ prRow (p0, pn) ((l'.drop (k + 1)).take m)) by rw [hw4]; exact KO.out.alloc _)
          have B4 := Lib.hid (show Below W3.heap.size W3 w4 by rw [hw4]; exact BQ.out.alloc hsq _)
          rw [← hw4]
          obtain ⟨cy', hcy'⟩ : ∃ c, c = wr.heap.size := ⟨_, rfl⟩
          rw [← hcy'] at BY ⊢
          have hs4 := B4.out.size
          clear hw4 hcy' ca cb HB2 KP KPx KO BX BQ
          have g0 := BX4.out.cell (i := 0) rfl
          have g1 := BX4.out.cell (i := 1) rfl
          have g2 := BY.out.cell (i := 0) rfl
          have g3 := BY.out.cell (i := 1) rfl
          go_wp2_with fail
          refine (pFits_any (p0, pn) (q0, qn) _ _ _ ⟨by have := hpr.1; omega, by have := hpr.2; omega⟩ ⟨by have := hpr2.1; omega, by have := hpr2.2; omega⟩ KPx4.out KP4.out).mono ?_
          rintro e w5 ⟨rfl, hb5⟩
          have KO5 := Lib.hid (KO4.out.below hb5)
          have BX5 := Lib.hid (BX4.out.below hb5)
          have BY5 := Lib.hid (BY.out.below hb5)
          have B5 := Lib.hid (below_trans B4.out hb5 hs4)
          have hs5 := B5.out.size
          clear hb5 KO4 BX4 BY B4 g0 g1 g2 g3
          have g0 := BX5.out.cell (i := 0) rfl
          have g2 := BY5.out.cell (i := 0) rfl
          try dsimp only
          cases hf : fitB (p0, pn) (q0, qn) with
          | true =>
            have HM1 := Lib.hid (show prRow (p0, pn) ((l'.drop (k + 1)).take (m + 1)) = prRow (p0, pn) ((l'.drop (k + 1)).take m) by rw [HPN.out, if_pos hf, List.append_nil])
            clear hf HPN
            go_wp2_with fail
            exact ⟨⟨m + 1, by omega, by go_num, by rw [HM1.out]; exact KO5.out, BX5.out, B5.out⟩, by simp [intOf] <;> omega⟩
          | false =>
            have HM1 := Lib.hid (show prRow (p0, pn) ((l'.drop (k + 1)).take (m + 1)) = prRow (p0, pn) ((l'.drop (k + 1)).take m) ++ [(p0, q0)] by rw [HPN.out, if_neg (by rw [hf]; simp)])
            have HLN := Lib.hid (show (prK l' k ++ prRow (p0, pn) ((l'.drop (k + 1)).take m)).length + 1 ≤ 8796093022208 by
              have h1 := prK_length l' k
              have h2 := prRow_length (p0, pn) ((l'.drop (k + 1)).take m)
              rw [List.length_take, List.length_drop] at h2
              have h3 : k * l'.length ≤ 9 * 9 := Nat.mul_le_mul (by omega) (by rw [HLL.out]; exact hl9)
              have h4 := HLL.out
              rw [List.length_append]
              omega)
            have hp64 : I64 p0 := by unfold I64; omega
            have hq64 : I64 q0 := by unfold I64; omega
            clear hf HPN
            go_wp2_with (at_builtin; go_loud (refine wpList_push_pair rfl _ _ rfl W3.heap.size _ _ p0 q0 w5.heap.size 1 rfl (KO5.out.alloc _) rfl (pair_cell0 _ _ _ _) (pair_cell1 _ _ _ _) hp64 hq64 HLN.out (by rw [size_alloc]; omega) ?_))
            intro v6 w6 ho6 hb6 hg6
            have K6 := Lib.hid (show OwnPairs w6 W3.heap.size v6 (prK l' k ++ prRow (p0, pn) ((l'.drop (k + 1)).take (m + 1))) by
              rw [HM1.out, ← List.append_assoc]
              first
                | exact ho6
                | (rw [List.append_assoc]; exact ho6))
            have BX6 := Lib.hid ((BX5.out.alloc (.cells #[.int .i64 p0, .int .i64 q0] 88)).grown hg6 ((KO5.out.alloc (.cells #[.int .i64 p0, .int .i64 q0] 88)).notBox (BX5.out.alloc _) (by decide)))
            have B6 := Lib.hid ((B5.out.alloc hs5 (.cells #[.int .i64 p0, .int .i64 q0] 88)).trans hb6)
            clear ho6 hb6 hg6
            go_wp2_with fail
            exact ⟨⟨m + 1, by omega, by go_num, K6.out, BX6.out, B6.out⟩, by simp [intOf] <;> omega⟩
        · obtain rfl : m = M := by omega
          have HDT := Lib.hid (show (l'.drop (k + 1)).take m = l'.drop (k + 1) from List.take_of_length_le (by rw [List.length_drop, HLL.out]; omega))
          have HKN := Lib.hid (prK_next HPL.out)
          rw [HDT.out] at KO
          go_wp2_with fail
          exact ⟨⟨k + 1, by omega, by go_num, by rw [HKN.out]; exact KO.out, BQ.out⟩, by simp [intOf] <;> omega⟩
    · obtain rfl : k = N := by omega
      go_wp2_with fail
      exact HP.out _ _ ⟨l', _, HPM.out, HSO.out, rfl, by unfold prL; rw [HLL.out]; exact KO.out.less hs3, below_trans B3.out BEL.out hs3⟩
end Go.Proofs.Ytbgfgkegcchaoaa
