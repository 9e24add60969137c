/- Parts of the proof, put together by a program: ShamK MulW PushW. No condition. -/
import Derived.Test.YtploomncapiloaaGreatDoorDAL
import Derived.Deep.RegionHeld3
namespace Go.Proofs.YtploomncapiloaaGreatDoor
open Go.RowKit Croft
def atsN (k : Nat) : List Int := (List.range k).map fun (i : Nat) => (i : Int) + 1
theorem atsN_next (k : Nat) : atsN (k + 1) = atsN k ++ [(k : Int) + 1] := by simp [atsN, List.range_succ]
theorem atsN_length (k : Nat) : (atsN k).length = k := by simp [atsN]
theorem atsN_toFs (n : Nat) : toFs (atsN n) = ptsN n := by simp [toFs, atsN, ptsN, pt, Function.comp_def]
theorem atsN_party {n : Nat} (h : n ≤ 9) : partyB (atsN n) = true := by
  rcases (show n = 0 ∨ n = 1 ∨ n = 2 ∨ n = 3 ∨ n = 4 ∨ n = 5 ∨ n = 6 ∨ n = 7 ∨ n = 8 ∨ n = 9 by omega) with rfl | rfl | rfl | rfl | rfl | rfl | rfl | rfl | rfl | rfl <;> decide
def shL (zs : List Int) : List (Int × Int) := (List.range zs.length).map fun (i : Nat) => ((i : Int) + 1, zs.getD i 0)
theorem shL_length (zs : List Int) : (shL zs).length = zs.length := by simp [shL]
theorem shL_next {zs : List Int} {k : Nat} {z : Int} (h : zs[k]? = some z) : shL (zs.take (k + 1)) = shL (zs.take k) ++ [((k : Int) + 1, z)] := by
  have h1 := (List.getElem?_eq_some_iff.1 h).1
  have hl : (zs.take (k + 1)).length = k + 1 := by simp; omega
  have hl2 : (zs.take k).length = k := by simp; omega
  unfold shL
  rw [hl, hl2, List.range_succ, List.map_append]
  congr 1
  · apply List.map_congr_left
    intro i hi
    rw [List.mem_range] at hi
    simp only [List.getD, List.getElem?_take, if_pos hi, if_pos (show i < k + 1 by omega)]
  · simp only [List.map_cons, List.map_nil, List.getD, List.getElem?_take, if_pos (show k < k + 1 by omega), h, Option.getD_some]
theorem shL_ats (zs : List Int) : (shL zs).map (·.1) = atsN zs.length := by simp [shL, atsN, Function.comp_def]
theorem shL_pts (zs : List Int) : ptsF (shL zs) = dpts zs.length (toFs zs) := by
  unfold ptsF shL dpts
  rw [List.map_map]
  apply List.map_congr_left
  intro i hi
  rw [List.mem_range] at hi
  show (toF ((i : Int) + 1), toF (zs.getD i 0)) = (pt i, co (toFs zs) i)
  rw [co_toFs (List.getElem?_eq_getElem hi)]
  simp [pt, List.getD, List.getElem?_eq_getElem hi]
theorem shL_ok {t : Nat} {zs : List Int} (ht : t ≤ 4) (h : t + 1 ≤ zs.length) (h9 : zs.length ≤ 9) : checkE t (shL zs) = 0 := by
  unfold checkE
  rw [if_pos (by omega), if_pos (by rw [shL_ats]; exact atsN_party h9), if_neg (by rw [shL_length]; omega)]
theorem own_slice {w : World} {base : Nat} {e : TypeId} {size n : Nat} {v : Value} {xs : List Value} (h : w.ownsRow base e size v n xs) (hn : 0 < n) : ∃ g c, v = .slice (some ⟨g, 0, none⟩) n c ∧ base ≤ g ∧ g < w.heap.size := by
  rcases h.2 with ⟨_, h0⟩ | ⟨g, cap, cur, rfl, hb, hg, _⟩
  · omega
  · exact ⟨g, cap, rfl, hb, (Array.getElem?_eq_some_iff.1 hg).1⟩
theorem wpList_push_int_at {ops : Array Oper} {rest : List Oper} {o : Oper} {a : Act} {Q : Exit → Act → World → Prop} {w : World} (hgd : o.guard = none) (s x : Operand)
    (ho : o.op = .call { callee := .builtin .append, args := #[s, x], argTypes := #[53, 53] })
    (base : Nat) (v : Value) (zs : List Int) (z : Int) (g c : Nat) (hs : a.eval s = v) (hown : OwnInts w base v zs) (hx : a.eval x = .slice (some ⟨g, 0, none⟩) 1 c)
    (hc : w.cell? ⟨g, 0, none⟩ = some (.int .i64 z)) (hz : I64 z) (hl : zs.length + 1 ≤ 17592186043904) (hb : base ≤ w.heap.size)
    (h : ∀ v' w', OwnInts w' base v' (zs ++ [z]) → Below base w w' → w.grownBy w' v.ownBlock → wpList Tryz.prog ops Q rest (a.put o.dst v') w') : wpList Tryz.prog ops Q (o :: rest) a w := by
  obtain ⟨i0, hi, hz0, hz1, hz2⟩ := info_parts iinfo
  refine wpList_append_own w hgd s x 53 ho base 3 i0 (.int .i64 0) 1 8 Tryz.underlying53 hi hz0 hz1 hz2 rfl (by decide) v zs.length (i64s zs) hs hown.1 ⟨g, 0, none⟩ 1 c [.int .i64 z] hx rfl ?_ ?_ ?_ ?_ hb ?_
  · intro j u hu
    match j, hu with
    | 0, hu =>
      simp at hu
      subst hu
      rw [add_addr]; exact hc
  · intro u hu
    simp at hu
    subst hu; rfl
  · unfold maxLen; omega
  · omega
  · intro v' w' h1 h2 _
    refine h v' w' ⟨?_, ?_, ?_⟩ ((Below.refl _ _).grown h2 hb (fun k hk => (hown.1.lt k hk).1)) h2
    · have e : (zs ++ [z]).length = zs.length + 1 := by simp
      have e2 : i64s (zs ++ [z]) = i64s zs ++ [.int .i64 z] := by simp [i64s]
      rw [e, e2]; exact h1
    · simpa using hl
    · intro y hy
      rcases List.mem_append.1 hy with h3 | h3
      · exact hown.2.2 y h3
      · simp at h3; subst h3; exact hz
def MulRes (w : World) (e : Ending) (w' : World) (l : List Int) (g : List (List Int)) (err : Int) : Prop :=
  ∃ v vg vs, e = .returned (.tuple #[v, vg, .int .i64 err]) ∧ OwnNums w' w.heap.size v l ∧ Grid w' w.heap.size vg vs g ∧ (∀ (i : Nat) (x : Value) (b : Nat), vs[i]? = some x → x.ownBlock = some b → v.ownBlock ≠ some b) ∧ Below w.heap.size w w'
def rowK (f : Nat → Nat → Int) (m q : Nat) : List Int := (List.range m).map fun i => f i q
theorem rowK_length (f : Nat → Nat → Int) (m q : Nat) : (rowK f m q).length = m := by simp [rowK]
theorem rowK_next (f : Nat → Nat → Int) (m q : Nat) : rowK f (m + 1) q = rowK f m q ++ [f m q] := by simp [rowK, List.range_succ]
def gRows (n : Nat) (f : Nat → Nat → Int) (k j : Nat) : List (List Int) := (List.range n).map fun q => rowK f (if q < j then k + 1 else k) q
theorem gRows_length (n : Nat) (f : Nat → Nat → Int) (k j : Nat) : (gRows n f k j).length = n := by simp [gRows]
theorem gRows_get {n : Nat} (f : Nat → Nat → Int) {k j q : Nat} (h : q < n) : (gRows n f k j)[q]? = some (rowK f (if q < j then k + 1 else k) q) := by simp [gRows, h]
theorem gRows_at {n : Nat} (f : Nat → Nat → Int) {k j : Nat} (h : j < n) : (gRows n f k j)[j]? = some (rowK f k j) := by rw [gRows_get f h, if_neg (by omega)]
theorem gRows_set {n : Nat} (f : Nat → Nat → Int) {k j : Nat} (h : j < n) : (gRows n f k j).set j (rowK f k j ++ [f k j]) = gRows n f k (j + 1) := by
  apply List.ext_getElem?
  intro q
  by_cases hq : q < n
  · rw [gRows_get f hq]
    by_cases hqj : q = j
    · subst hqj
      rw [List.getElem?_set_self (by rw [gRows_length]; exact h), if_pos (by omega), rowK_next]
    · rw [List.getElem?_set_ne (Ne.symm hqj), gRows_get f hq]
      by_cases h1 : q < j
      · rw [if_pos h1, if_pos (by omega)]
      · rw [if_neg h1, if_neg (by omega)]
  · rw [List.getElem?_eq_none (by rw [List.length_set, gRows_length]; omega), List.getElem?_eq_none (by rw [gRows_length]; omega)]
theorem gRows_end (n : Nat) (f : Nat → Nat → Int) (k : Nat) : gRows n f k n = gRows n f (k + 1) 0 := by
  unfold gRows
  apply List.map_congr_left
  intro q hq
  rw [List.mem_range] at hq
  rw [if_pos hq, if_neg (by omega)]
theorem gRows_start (n : Nat) (f : Nat → Nat → Int) : gRows n f 0 0 = List.replicate n [] := by
  apply List.ext_getElem?
  intro q
  by_cases hq : q < n
  · rw [gRows_get f hq, if_neg (by omega), List.getElem?_replicate, if_pos hq]; rfl
  · rw [List.getElem?_eq_none (by rw [gRows_length]; omega), List.getElem?_replicate, if_neg hq]
def fMulAt (t : Nat) (A B D : List F) (i q : Nat) : Int := ofF (peval ((co A i * co B i) :: chunk t D i) (pt q))
theorem gRows_got (n t : Nat) (A B D : List F) : gRows n (fMulAt t A B D) n 0 = (gotM n t A B D).map ofFs := by
  unfold gRows gotM rowK ofFs
  rw [List.map_map]
  apply List.map_congr_left
  intro q _
  rw [if_neg (by omega)]
  simp [fMulAt, Function.comp_def]
theorem atsN_wt (n : Nat) : wtL (atsN n) n = ofFs (wts n) := by
  unfold wtL
  rw [List.take_of_length_le (by rw [atsN_length]; exact Nat.le_refl _), atsN_toFs]
  simp [atsN, wts, ofFs, pt, Function.comp_def]
theorem slice_run (A : Option Addr) (m c lo hi : Nat) (x y : Int) (hx : x = lo) (hy : y = hi) (h1 : lo ≤ hi) (h2 : hi ≤ c) (W : World) :
    (Instr.sliceAt 64 (.slice A m c) (some (.int .i64 x)) (some (.int .i64 y)) none).run Tryz.prog W = .ok (.slice (if c = lo then A else A.map (·.add (lo * 1))) (hi - lo) (c - lo)) W := by
  subst hx hy
  have hU : Program.underlying Tryz.prog 64 = some (.slice (Program.elem Tryz.prog 64)) := by kernel_rfl
  have hs : ∀ W, (sizeOf (Program.elem Tryz.prog 64)).run Tryz.prog W = .ok 1 W := fun W => by kernel_rfl
  rw [run_sliceAt_slice _ _ _ _ _ _ hU, run_slice_lh W _ A m c hU .i64 .i64 _ _ (by omega) (by omega) (by omega), hs]
  simp [Result.andThen, sliced]
theorem IsNums.cut {w : World} {A : Option Addr} {len c : Nat} {zs : List Int} (h : IsNums w (.slice A len c) zs) (lo hi : Nat) (h1 : lo ≤ hi) (h2 : hi ≤ zs.length) : IsNums w (.slice (if c = lo then A else A.map (·.add (lo * 1))) (hi - lo) (c - lo)) ((zs.drop lo).take (hi - lo)) := by
  obtain ⟨A1, c1, e1, e2, e3, e4, e5, e6⟩ := h
  injection e1 with e1a e1b e1c
  subst e1a e1b e1c
  have hl : ((zs.drop lo).take (hi - lo)).length = hi - lo := by simp; omega
  refine ⟨_, _, by rw [hl], by rw [hl]; omega, by omega, by rw [hl]; omega, fun z hz => e5 z (List.mem_of_mem_drop (List.mem_of_mem_take hz)), ?_⟩
  rcases Nat.lt_or_ge lo hi with hlt | hge
  · obtain ⟨b, o, rfl, hb, hc⟩ := e6.at_ (j := lo) (by rw [u64s_length]; omega)
    rw [if_neg (by omega)]
    refine .inr ⟨b, o + lo, by simp [add_addr], hb, fun j hj => ?_⟩
    rw [u64s_length, hl] at hj
    rw [Nat.add_assoc, hc _ (by rw [u64s_length]; omega), u64s_get, u64s_get, List.getElem?_take, if_pos hj, List.getElem?_drop]
  · have h0 : hi - lo = 0 := by omega
    rw [h0]; exact .inl (by simp [u64s])
theorem chunk_toFs (t : Nat) (ds : List Int) (i : Nat) : toFs ((ds.drop (i * t)).take t) = chunk t (toFs ds) i := by simp [chunk, toFs, List.map_take, List.map_drop]
set_option maxRecDepth 100000 in
set_option maxHeartbeats 4000000 in
theorem gMul_ok (n T : Nat) (va vb vd : Value) (xs ys ds : List Int) (w : World) (h1 : IsNums w va xs) (h2 : IsNums w vb ys) (h3 : IsNums w vd ds) (hx : xs.length = n) (hy : ys.length = n) (hd : ds.length = n * T) (hT : T ≤ 4) (hn1 : 2 * T + 1 ≤ n) (hn2 : n ≤ 9) :
    Calls Tryz.prog 124 #[.int .i64 T, va, vb, vd] w fun e w' => MulRes w e w' (ofFs (mulOut n T (toFs xs) (toFs ys) (toFs ds))) ((gotM n T (toFs xs) (toFs ys) (toFs ds)).map ofFs) 0 := by
  have KX := Lib.hid h1
  have KY := Lib.hid h2
  have KD := Lib.hid h3
  have HXL := Lib.hid hx
  have HYL := Lib.hid hy
  have HDL := Lib.hid hd
  obtain ⟨A1, c1, rfl, hc1, hm1, hl1, hu1, hr1⟩ := h1
  obtain ⟨A2, c2, rfl, hc2, hm2, hl2, hu2, hr2⟩ := h2
  obtain ⟨A3, c3, rfl, hc3, hm3, hl3, hu3, hr3⟩ := h3
  clear hu1 hr1 hm1 hu2 hr2 hm2 hu3 hr3
  unfold maxLen at hm3
  rw [hx] at KX hc1 hl1 ⊢
  rw [hy] at KY hc2 hl2 ⊢
  rw [hd] at KD hc3 hl3 ⊢
  clear hx hy hd
  have hnT : n * T ≤ 36 := Nat.mul_le_mul hn2 hT
  obtain ⟨f, hf⟩ : ∃ f, f = fMulAt T (toFs xs) (toFs ys) (toFs ds) := ⟨_, rfl⟩
  have HF := Lib.hid hf
  have HFU := Lib.hid (show ∀ i q, U64 (f i q) from fun i q => by rw [hf]; exact U64.of_ofF _)
  clear hf
  have HE := Lib.hid (show wireE [n, n] = 0 by unfold wireE wireB; simp; omega)
  suffices hgoal : ∀ Post : Ending → World → Prop, (∀ e w', MulRes w e w' (ofFs (mulOut n T (toFs xs) (toFs ys) (toFs ds))) ((gotM n T (toFs xs) (toFs ys) (toFs ds)).map ofFs) 0 → Post e w') → Calls Tryz.prog 124 #[.int .i64 T, .slice A1 n c1, .slice A2 n c2, .slice A3 (n * T) c3] w Post from hgoal _ fun e w' h => h
  intro Post hp
  have HP := Lib.hid hp
  clear hp
  have hmul : ((n : Nat) : Int) * (T : Int) = ((n * T : Nat) : Int) := by simp
  have hbn : (((n * T : Nat) : Int) != (n : Int) * (T : Int)) = false := by rw [hmul]; simp
  have hnT0 : 0 ≤ (n : Int) * (T : Int) ∧ (n : Int) * (T : Int) ≤ 36 := by rw [hmul]; omega
  have HMUL := Lib.hid hmul
  clear hmul
  have hd1 : decide ((T : Int) < 0) = false := by simp
  have hd2 : decide ((T : Int) > 4) = false := by simp; omega
  go_enter Tryz.func124, Tryz.ntmps124
  go_wp2_with fail
  refine (gForm_any _ 0 _ n [n] _ ?_ (by simp)).mono ?_
  · refine ⟨by simp, fun j m hj => ?_⟩
    match j, hj with
    | 0, hj => simp at hj; subst hj; exact ⟨A1, c1, by simp, hl1⟩
    | 1, hj => simp at hj; subst hj; exact ⟨A2, c2, by simp, hl2⟩
  rintro e w' ⟨rfl, rfl⟩
  rw [HE.out]
  try dsimp only
  go_wp2_with (refine wpList_make_grid rfl _ _ rfl (w.heap.size + 1) _ n rfl rfl rfl (by omega) (by rw [size_alloc]; exact Nat.le_refl _) ?_)
  intro W1 hgr hb
  try rw [size_alloc] at hgr
  try rw [size_alloc]
  have BA := Lib.hid ((Below.refl w.heap.size w).alloc (Nat.le_refl _) (.cells #[.slice A1 n c1, .slice A2 n c2] 64))
  have KG := Lib.hid (show Grid W1 (w.heap.size + 1) (.slice (some ⟨w.heap.size + 1, 0, none⟩) n n) (List.replicate n (.slice none 0 0)) (gRows n f 0 0) from by
    rw [gRows_start]; exact hgr)
  have BEL := Lib.hid (BA.out.trans (hb.mono (by omega)))
  clear hgr hb
  go_wp2_with fail
  go_loopw [13, 59] (fun v i wr => ∃ (k : Nat) (vs : List Value), k ≤ n ∧ i = .int .i64 k ∧ OwnInts wr (w.heap.size + 1) v (atsN k) ∧ Grid wr (w.heap.size + 1) (.slice (some ⟨w.heap.size + 1, 0, none⟩) n n) vs (gRows n f k 0) ∧ Below w.heap.size w wr) (fun _ i _ => n - (intOf i).toNat)
  case atStart => exact ⟨0, _, Nat.zero_le _, rfl, OwnInts.nil _ _, KG.out, BEL.out⟩
  case round =>
    obtain ⟨k, vs, hk, rfl, hown, hgr, hbel⟩ := hrel
    have KA := Lib.hid hown
    have hsz := hbel.size
    have hgsz := (hgr.outer.lt (w.heap.size + 1) rfl).2
    clear KG BEL
    have KG := Lib.hid hgr
    have BEL := Lib.hid hbel
    clear hown hgr hbel
    by_cases hlt : k < n
    · have hdk : decide ((k : Int) < (n : Int)) = true := by simp; omega
      go_wp2_with (at_builtin; go_loud (refine wpList_push_int_at rfl _ _ rfl (w.heap.size + 1) _ (atsN k) ((k : Int) + 1) wr.heap.size 1 rfl (KA.out.alloc _) rfl (new_cell _ _ _) (by unfold I64; omega) (by rw [atsN_length]; omega) (by rw [size_alloc]; omega) ?_))
      intro v13 w5 ho5 hb5 hg5
      rw [← atsN_next] at ho5
      have KG5 := Lib.hid ((KG.out.alloc (.cells #[.int .i64 ((k : Int) + 1)] 3)).apart_kept (KA.out.alloc (.cells #[.int .i64 ((k : Int) + 1)] 3)).1 (by decide) (by decide) hg5)
      have KA5 := Lib.hid ho5
      have B5 := Lib.hid ((BEL.out.alloc hsz (.cells #[.int .i64 ((k : Int) + 1)] 3)).trans (hb5.mono (by omega)))
      have hsz5 := B5.out.size
      have hgsz5 := (KG5.out.outer.lt (w.heap.size + 1) rfl).2
      clear ho5 hb5 hg5 KA KG BEL
      have KX5 := Lib.hid (KX.out.below B5.out)
      have KY5 := Lib.hid (KY.out.below B5.out)
      have KD5 := Lib.hid (KD.out.below B5.out)
      obtain ⟨A, c, hA, _, _, _, hux, hrx⟩ := KX5.out
      injection hA with hA1 hA2 hA3
      subst hA1 hA3
      clear hA2
      obtain ⟨bx, ox, x, rfl, hbx, hgx, hx64, hcx⟩ := nums_at hrx hux (k := k) (by rw [HXL.out]; exact hlt)
      obtain ⟨A, c, hA, _, _, _, huy, hry⟩ := KY5.out
      injection hA with hA1 hA2 hA3
      subst hA1 hA3
      clear hA2
      obtain ⟨by_, oy, y, rfl, hby, hgy, hy64, hcy⟩ := nums_at hry huy (k := k) (by rw [HYL.out]; exact hlt)
      have hx0 := hx64.1
      have hy0 := hy64.1
      have hbx' := hbx
      have hby' := hby
      have HGX := Lib.hid (co_toFs hgx)
      have HGY := Lib.hid (co_toFs hgy)
      clear hux hrx huy hry hgx hgy hbx hby
      have hk1 : (k + 1) * T ≤ n * T := Nat.mul_le_mul hlt (Nat.le_refl _)
      have hk2 : (k + 1) * T = k * T + T := Nat.succ_mul k T
      have e1 : (k : Int) * (T : Int) = ((k * T : Nat) : Int) := by simp
      have e2 : ((k : Int) + 1) * (T : Int) = (((k + 1) * T : Nat) : Int) := by rw [Int.natCast_mul]; rfl
      have hw1 : IntKind.i64.wrap ((k : Int) + 1) = (k : Int) + 1 := IntWalk.i64_in _ (by omega)
      have hw2 : IntKind.i64.wrap ((k : Int) * (T : Int)) = (k : Int) * (T : Int) := IntWalk.i64_in _ (by rw [e1]; omega)
      have hw3 : IntKind.i64.wrap (((k : Int) + 1) * (T : Int)) = ((k : Int) + 1) * (T : Int) := IntWalk.i64_in _ (by rw [e2]; omega)
      have hsl := slice_run A3 (n * T) c3 (k * T) ((k + 1) * T) _ _ e1 e2 (by omega) (by omega)
      have hcut := KD5.out.cut (k * T) ((k + 1) * T) (by omega) (by rw [HDL.out]; exact hk1)
      rw [show (k + 1) * T - k * T = T by omega] at hsl hcut
      obtain ⟨vc, hvc⟩ : ∃ vc, vc = Value.slice (if c3 = k * T then A3 else A3.map (·.add (k * T * 1))) T (c3 - k * T) := ⟨_, rfl⟩
      rw [← hvc] at hsl hcut
      have HCL := Lib.hid (show ((ds.drop (k * T)).take T).length = T by simp; rw [HDL.out]; omega)
      have HCUT := Lib.hid hcut
      have BD1 := Lib.hid (below_drewN (Below.refl w5.heap.size w5) 1)
      have HCUT1 := Lib.hid (HCUT.out.below BD1.out)
      clear hcut hvc e1 e2 hk1 hk2
      go_wp2_with fail
      go_region_held3 (fun w' => w'.cell? ⟨bx, ox + k, none⟩ = some (.int .u64 x) ∧ w'.cell? ⟨by_, oy + k, none⟩ = some (.int .u64 y)) (go_keep) (first | (go_at_call 153; refine (fMul_any _ _ _ hx0 hy0).mono ?_; rintro e w' ⟨rfl, rfl⟩) | (go_at_call 56; refine (sDeal_ok _ _ _ n _ (U64.of_ofF _) HCUT1.out (by rw [HCL.out]; exact hT) (by rw [HCL.out]; omega) hn2).mono ?_; rintro e w6 ⟨vl, rfl, ho6, hb6⟩; have q0 := (hb6.cell (p := ⟨bx, ox + k, none⟩) hbx').trans hcx; have q1 := (hb6.cell (p := ⟨by_, oy + k, none⟩) hby').trans hcy))
      have hb6' := below_trans BD1.out hb6 BD1.out.size
      obtain ⟨dl, hdl⟩ : ∃ dl, dl = ofFs (deal n (toFs (ofF (toF x * toF y) :: (ds.drop (k * T)).take T))) := ⟨_, rfl⟩
      rw [← hdl] at ho6
      have HDLn := Lib.hid (show dl.length = n by rw [hdl, ofFs_length, deal_length])
      have HDG := Lib.hid (show ∀ q, q < n → dl[q]? = some (f k q) from fun q hq => by
        rw [hdl]
        unfold ofFs
        rw [List.getElem?_map, get_co (by rw [deal_length]; exact hq), deal_co _ hq, HF.out]
        show some (ofF _) = some (fMulAt T (toFs xs) (toFs ys) (toFs ds) k q)
        unfold fMulAt
        rw [HGX.out, HGY.out, ← chunk_toFs]
        simp [toFs, toF_ofF])
      have KG6 := Lib.hid (KG5.out.below hb6')
      have KA6 := Lib.hid (KA5.out.below hb6')
      have B6 := Lib.hid (below_trans B5.out hb6' hsz5)
      have KDL := Lib.hid ho6
      obtain ⟨gd, cd, hv, hgd1, hgd2⟩ := own_slice ho6.1 (by rw [HDLn.out]; omega)
      rw [HDLn.out] at hv
      subst hv
      have H0 := Lib.hid (show ∀ (q : Nat) (u : Value) (b : Nat), vs[q]? = some u → u.ownBlock = some b → b < gd from fun q u b hu hub => by
        have hq := (List.getElem?_eq_some_iff.1 hu).1
        rw [KG5.out.vlen] at hq
        have := ((KG5.out.row q u _ hu (List.getElem?_eq_getElem hq)).1.lt b hub).2
        exact Nat.lt_of_lt_of_le this hgd1)
      have hgg : w.heap.size + 1 < gd := Nat.lt_of_lt_of_le hgsz5 hgd1
      clear ho6 hb6 hb6' hdl q0 q1 hsl hw1 hw2 hw3 hcx hcy KG5 KA5 B5 KX5 KY5 KD5 HCUT HCUT1 BD1 hgd1 hgd2 hbx' hby'
      go_wp2_with fail
      obtain ⟨BD, hBD⟩ : ∃ BD, BD = (w5.drewN 1).heap.size := ⟨_, rfl⟩
      obtain ⟨w6', hw6'⟩ : ∃ w6', w6' = w6 := ⟨_, rfl⟩
      subst hw6'
      clear hBD
      go_loopw [92] (fun i wr => ∃ (j : Nat) (us : List Value), j ≤ n ∧ i = .int .i64 j ∧ Grid wr (w.heap.size + 1) (.slice (some ⟨w.heap.size + 1, 0, none⟩) n n) us (gRows n f k j) ∧ (∀ q, j ≤ q → us[q]? = vs[q]?) ∧ OwnNums wr 0 (.slice (some ⟨gd, 0, none⟩) n cd) dl ∧ OwnInts wr (w.heap.size + 1) v13 (atsN (k + 1)) ∧ Below w.heap.size w wr) (fun i _ => n - (intOf i).toNat)
      case atStart => exact ⟨0, vs, Nat.zero_le _, rfl, KG6.out, fun _ _ => rfl, KDL.out.less (Nat.zero_le _), KA6.out, B6.out⟩
      case round =>
        obtain ⟨j, us, hj, rfl, hgr, hus, hdl, hats, hbel⟩ := hrel
        clear KG6 KDL KA6 B6
        have KG := Lib.hid hgr
        have HUS := Lib.hid hus
        have KDL := Lib.hid hdl
        have KA := Lib.hid hats
        have BEL := Lib.hid hbel
        have hsz := hbel.size
        have hgsz := (hgr.outer.lt (w.heap.size + 1) rfl).2
        clear hgr hus hdl hats hbel
        by_cases hlt2 : j < n
        · have hdj : decide ((j : Int) < (n : Int)) = true := by simp; omega
          have hcd := KDL.out.cell (HDG.out j hlt2)
          obtain ⟨vj, hvj⟩ : ∃ vj, us[j]? = some vj := ⟨_, List.getElem?_eq_getElem (by rw [KG.out.vlen, gRows_length]; exact hlt2)⟩
          have hcg := KG.out.cell hvj
          have HVJ := Lib.hid hvj
          have HFR := Lib.hid (gRows_at (k := k) f hlt2)
          clear hvj
          go_wp2_with (at_builtin; go_loud (refine wpList_push_grid rfl _ _ rfl (w.heap.size + 1) (w.heap.size + 1) n n j vj us (gRows n f k j) (rowK f k j) (f k j) wr.heap.size 1 rfl (KG.out.alloc _) HVJ.out HFR.out rfl (new_cell _ _ _) (HFU.out k j) (by rw [rowK_length]; omega) (by rw [size_alloc]; omega) ?_))
          intro A cap w7 hc7 hf7 hg7 hb7 hgr7 hloc7
          rw [gRows_set f hlt2, rowK_length] at hg7
          rw [rowK_length]
          clear hloc7
          have hne1 : (Value.slice (some ⟨gd, 0, none⟩) n cd).ownBlock ≠ vj.ownBlock := fun e => by
            have := H0.out j vj gd ((HUS.out j (Nat.le_refl _)).symm.trans HVJ.out) e.symm
            omega
          have K7 := Lib.hid (((KDL.out.alloc (.cells #[.int .u64 (f k j)] 67)).kept hgr7 (.inr hne1)).kept (set_grown w7 (w.heap.size + 1) j (.slice A (k + 1) cap)) (.inr (by intro e; simp [Value.ownBlock] at e; omega)))
          have KAa := KA.out.alloc (.cells #[.int .u64 (f k j)] 67)
          have KGa := KG.out.alloc (.cells #[.int .u64 (f k j)] 67)
          have hrow := (KGa.row j vj _ HVJ.out HFR.out).1
          have hA7 : OwnInts w7 (w.heap.size + 1) v13 (atsN (k + 1)) := ⟨own_apart KAa.1 hrow (by decide) hgr7, KAa.2⟩
          have hout7 := KGa.outer.kept hgr7 (.inr (fun e => kinds_apart hrow KGa.outer (by decide) e.symm rfl))
          have A7 := Lib.hid (show OwnInts (w7.setCell ⟨w.heap.size + 1, j, none⟩ (.slice A (k + 1) cap)) (w.heap.size + 1) v13 (atsN (k + 1)) from ⟨own_apart hA7.1 hout7 (by decide) (set_grown w7 (w.heap.size + 1) j (.slice A (k + 1) cap)), hA7.2⟩)
          have B7 := Lib.hid (((BEL.out.alloc hsz (.cells #[.int .u64 (f k j)] 67)).trans (hb7.mono (by omega))).setCell (p := ⟨w.heap.size + 1, j, none⟩) (by show w.heap.size ≤ w.heap.size + 1; omega) (.slice A (k + 1) cap))
          have G7 := Lib.hid hg7
          clear hg7 hb7 hgr7 hne1 KAa KGa hrow hA7 hout7 hcd hcg
          go_wp2_with fail
          refine ⟨⟨j + 1, us.set j (.slice A (k + 1) cap), by omega, by go_num, G7.out, fun q hq => ?_, K7.out, A7.out, B7.out⟩, by simp [intOf] <;> omega⟩
          rw [List.getElem?_set_ne (by omega)]
          exact HUS.out q (by omega)
        · obtain rfl : n = j := by omega
          have KG2 := Lib.hid (show Grid wr (w.heap.size + 1) (.slice (some ⟨w.heap.size + 1, 0, none⟩) n n) us (gRows n f (k + 1) 0) by rw [← gRows_end]; exact KG.out)
          clear KG
          go_wp2_with fail
          exact ⟨⟨k + 1, us, by omega, by go_num, KA.out, KG2.out, BEL.out⟩, by simp [intOf] <;> omega⟩
    · obtain rfl : n = k := by omega
      go_wp2_with fail
      refine (sWeights_ok _ _ _ KA.out.is (by intro e; have := congrArg List.length e; rw [atsN_length] at this; simp at this; omega) (atsN_party hn2) (by rw [atsN_length]; omega)).mono ?_
      rintro e W8 ⟨vw, rfl, hw, hb8⟩
      rw [atsN_length, atsN_wt] at hw
      have BEL8 := below_trans BEL.out hb8 hsz
      have KG8 := KG.out.below hb8
      rw [HF.out, gRows_got] at KG8
      obtain ⟨G, hG⟩ : ∃ G, G = gotM n T (toFs xs) (toFs ys) (toFs ds) := ⟨_, rfl⟩
      have HMO := Lib.hid (show mulOut n T (toFs xs) (toFs ys) (toFs ds) = G.map (weigh n) by rw [hG]; rfl)
      have HGL := Lib.hid (show G.length = n by rw [hG]; simp [gotM])
      have HGR := Lib.hid (show ∀ r ∈ G, r.length = n from fun r hr => by
        rw [hG] at hr
        unfold gotM at hr
        obtain ⟨j, _, rfl⟩ := List.mem_map.1 hr
        simp)
      rw [← hG] at KG8
      replace HP := Lib.hid (show ∀ e w', MulRes w e w' (ofFs (G.map (weigh n))) (G.map ofFs) 0 → Post e w' from fun e w' h => HP.out e w' (by rw [HMO.out, ← hG]; exact h))
      replace KG := Lib.hid KG8
      replace BEL := Lib.hid BEL8
      have KW := Lib.hid hw
      obtain ⟨gw, cw, hv, hgw1, hgw2⟩ := own_slice hw.1 (by rw [ofFs_length]; simp [wts]; omega)
      rw [ofFs_length, show (wts n).length = n by simp [wts]] at hv
      subst hv
      clear hw hb8 BEL8 KG8 hG KA HMO HF hgw1 hgw2 hsz hgsz
      try dsimp only
      go_wp2_with fail
      obtain ⟨w8', hw8'⟩ : ∃ w8', w8' = W8 := ⟨_, rfl⟩
      subst hw8'
      go_loopw [22, 116] (fun v i wr => ∃ q : Nat, q ≤ n ∧ i = .int .i64 q ∧ OwnNums wr w8'.heap.size v (ofFs ((G.map (weigh n)).take q)) ∧ Below w8'.heap.size w8' wr) (fun _ i _ => n - (intOf i).toNat)
      case atStart => exact ⟨0, Nat.zero_le _, rfl, OwnNums.nil _ _, Below.refl _ _⟩
      case round =>
        obtain ⟨q, hq, rfl, hown, hbel⟩ := hrel
        have KO := Lib.hid hown
        have B9 := Lib.hid hbel
        have hsz9 := hbel.size
        clear hown hbel
        by_cases hlt3 : q < n
        · have KGr := KG.out.below B9.out
          have KWr := Lib.hid (KW.out.below B9.out)
          obtain ⟨row, hrow⟩ : ∃ row, G[q]? = some row := ⟨_, List.getElem?_eq_getElem (by rw [HGL.out]; exact hlt3)⟩
          have hrl := HGR.out row (List.mem_of_getElem? hrow)
          obtain ⟨br, cr, hvr, hor, _, _, _, _⟩ := KGr.at_ (i := q) (r := ofFs row) (by rw [List.getElem?_map, hrow]; rfl) (by rw [ofFs_length, hrl]; omega)
          rw [ofFs_length, hrl] at hvr hor
          have hcg := KGr.cell hvr
          have KR := Lib.hid hor
          have HT := Lib.hid (show ofFs ((G.map (weigh n)).take (q + 1)) = ofFs ((G.map (weigh n)).take q) ++ [ofF (weigh n row)] by rw [List.take_add_one, List.getElem?_map, hrow]; simp [ofFs])
          have HTL := Lib.hid (show (ofFs ((G.map (weigh n)).take q)).length ≤ 9 by rw [ofFs_length, List.length_take]; omega)
          have HRL := Lib.hid hrl
          have hdq : decide ((q : Int) < (n : Int)) = true := by simp; omega
          clear KGr hvr hor hrow hrl
          go_wp2_with fail
          clear hcg
          obtain ⟨wo, hwo⟩ : ∃ wo, wo = wr := ⟨_, rfl⟩
          subst hwo
          go_loop [25, 122] (fun s i => ∃ p : Nat, p ≤ n ∧ i = .int .i64 p ∧ s = .int .u64 (ofF (fsum p fun i => co (wts n) i * co row i))) (fun _ i => n - (intOf i).toNat)
          case atStart => exact ⟨0, Nat.zero_le _, rfl, rfl⟩
          case round =>
            obtain ⟨p, hp, rfl, rfl⟩ := hrel
            by_cases hlt4 : p < n
            · have hc1 := KWr.out.cell (j := p) (z := ofF (co (wts n) p)) (ofFs_get (get_co (by simp [wts]; exact hlt4)))
              have hc2 := KR.out.cell (j := p) (z := ofF (co row p)) (ofFs_get (get_co (by rw [HRL.out]; exact hlt4)))
              have hdp : decide ((p : Int) < (n : Int)) = true := by simp; omega
              go_wp2_with fail
              refine (fMul_any _ _ _ (ofF_nonneg _) (ofF_nonneg _)).mono ?_
              rintro e w' ⟨rfl, rfl⟩
              rw [toF_ofF, toF_ofF]
              try dsimp only
              go_wp2_with fail
              refine (fAdd_any _ _ _ (ofF_nonneg _) (ofF_nonneg _)).mono ?_
              rintro e w' ⟨rfl, rfl⟩
              rw [toF_ofF, toF_ofF]
              try dsimp only
              go_wp2_with fail
              exact ⟨⟨p + 1, by omega, by go_num, rfl⟩, by simp [intOf] <;> omega⟩
            · obtain rfl : n = p := by omega
              go_wp2_with (at_builtin; go_loud (refine wpList_push rfl _ _ rfl w8'.heap.size _ _ (ofF (fsum n fun i => co (wts n) i * co row i)) wo.heap.size 1 rfl (KO.out.alloc _) rfl (new_cell _ _ _) (U64.of_ofF _) (by have := HTL.out; omega) (by rw [size_alloc]; omega) ?_))
              intro v' w10 hown' hbel'
              have K10 := Lib.hid (show OwnNums w10 w8'.heap.size v' (ofFs ((G.map (weigh n)).take (q + 1))) by rw [HT.out]; exact hown')
              have B10 := Lib.hid ((B9.out.alloc hsz9 (.cells #[.int .u64 (ofF (fsum n fun i => co (wts n) i * co row i))] 67)).trans hbel')
              clear hown' hbel'
              go_wp2_with fail
              exact ⟨⟨q + 1, by omega, by go_num, K10.out, B10.out⟩, by simp [intOf] <;> omega⟩
        · obtain rfl : n = q := by omega
          have HTE := Lib.hid (show (G.map (weigh n)).take n = G.map (weigh n) from List.take_of_length_le (by rw [List.length_map, HGL.out]; exact Nat.le_refl _))
          rw [HTE.out] at KO
          go_wp2_with fail
          go_ret3
          refine HP.out _ _ ⟨_, _, vs, rfl, KO.out.less BEL.out.size, KG.out.less_below BEL.out B9.out, fun i x b hx hb hb2 => ?_, below_trans BEL.out B9.out BEL.out.size⟩
          have h1 := (KO.out.1.lt b hb2).1
          have hi := (List.getElem?_eq_some_iff.1 hx).1
          rw [KG.out.vlen] at hi
          have h2 := ((KG.out.row i x _ hx (List.getElem?_eq_getElem hi)).1.lt b hb).2
          omega
def Far (u v : Value) : Prop := ∀ b, u.ownBlock = some b → v.ownBlock ≠ some b
theorem Far.symm {u v : Value} (h : Far u v) : Far v u := fun b h1 h2 => h b h2 h1
theorem Far.nil (u : Value) : Far u (.slice none 0 0) := fun b _ h => by simp [Value.ownBlock] at h
theorem Far.nil_ (u : Value) : Far (.slice none 0 0) u := (Far.nil u).symm
theorem Far.grow {u v v' : Value} {N : Nat} (h : Far u v) (hu : ∀ b, u.ownBlock = some b → b < N) (h4 : v'.ownBlock = v.ownBlock ∨ v'.ownBlock = some N) : Far u v' := fun b h1 h2 => by
  rcases h4 with h4 | h4
  · rw [h4] at h2; exact h b h1 h2
  · rw [h4] at h2
    have := hu b h1
    injection h2 with h2
    omega
theorem Far.kept {u v : Value} (h : Far u v) : u.ownBlock = none ∨ u.ownBlock ≠ v.ownBlock := by
  cases hu : u.ownBlock with
  | none => exact .inl rfl
  | some b => exact .inr fun e => h b hu e.symm
theorem OwnInts.kept {w w' : World} {base : Nat} {v : Value} {zs : List Int} {row : Option Nat} (h : OwnInts w base v zs) (hg : w.grownBy w' row) (hne : v.ownBlock = none ∨ v.ownBlock ≠ row) : OwnInts w' base v zs := ⟨h.1.kept hg hne, h.2⟩
theorem OwnNums.under {w : World} {base : Nat} {v : Value} {zs : List Int} (h : OwnNums w base v zs) (b : Nat) (hb : v.ownBlock = some b) : b < w.heap.size := (h.1.lt b hb).2
theorem wpList_push_row4 {ops : Array Oper} {rest : List Oper} {o : Oper} {a : Act} {Q : Exit → Act → World → Prop} {w : World} (hgd : o.guard = none) (s x : Operand)
    (ho : o.op = .call { callee := .builtin .append, args := #[s, x], argTypes := #[86, 86] })
    (base : Nat) (v : Value) (vs : List Value) (rows : List (List Int)) (y : Value) (r : List Int) (g c : Nat) (hs : a.eval s = v) (hown : Grid w base v vs rows) (hx : a.eval x = .slice (some ⟨g, 0, none⟩) 1 c)
    (hc : w.cell? ⟨g, 0, none⟩ = some y) (hy : OwnNums w base y r) (hfar : ∀ (k : Nat) (z : Value) (b : Nat), vs[k]? = some z → z.ownBlock = some b → y.ownBlock ≠ some b) (hl : rows.length + 1 ≤ 5864062014805) (hb : base ≤ w.heap.size)
    (h : ∀ v' w', Grid w' base v' (vs ++ [y]) (rows ++ [r]) → Below base w w' → w.grownBy w' v.ownBlock → (v'.ownBlock = v.ownBlock ∨ v'.ownBlock = some w.heap.size) → wpList Tryz.prog ops Q rest (a.put o.dst v') w') : wpList Tryz.prog ops Q (o :: rest) a w := by
  obtain ⟨i0, hi, hz0, hz1, hz2⟩ := info_parts linfo
  refine wpList_append_own_at w hgd s x 86 ho base 64 i0 (.slice none 0 0) 1 24 Tryz.underlying86 hi hz0 hz1 hz2 rfl (by decide) v rows.length vs hs hown.outer ⟨g, 0, none⟩ 1 c [y] hx rfl ?_ ?_ ?_ ?_ hb ?_
  · intro j u hu
    match j, hu with
    | 0, hu =>
      simp at hu
      subst hu
      rw [add_addr]; exact hc
  · intro u hu
    simp at hu
    subst hu
    obtain ⟨A, cap, rfl, _, _⟩ := own_form hy.1
    rfl
  · unfold maxLen; omega
  · omega
  · intro v' w' h1 h2 _ h4
    have kept : ∀ (z : Value) (q : List Int), OwnNums w base z q → OwnNums w' base z q := fun z q hz => hz.kept h2 (by
      cases hzb : z.ownBlock with
      | none => exact .inl rfl
      | some b => exact .inr fun hvb => kinds_apart hz.1 hown.outer (by decide) hzb hvb.symm)
    refine h v' w' ⟨?_, by simpa using hl, fun k z q hz hq => ?_, fun k l z z' b hz hz' hzb hzb' => ?_⟩ ((Below.refl _ _).grown h2 hb (fun k hk => (hown.outer.lt k hk).1)) h2 h4
    · have e : (rows ++ [r]).length = rows.length + 1 := by simp
      rw [e]; exact h1
    · have hvl := hown.vlen
      rcases Nat.lt_or_ge k vs.length with hk | hk
      · rw [List.getElem?_append_left hk] at hz
        rw [List.getElem?_append_left (by omega)] at hq
        exact kept z q (hown.row k z q hz hq)
      · rw [List.getElem?_append_right hk] at hz
        rw [List.getElem?_append_right (by omega), ← hvl] at hq
        have h0 : k - vs.length = 0 := by
          have := (List.getElem?_eq_some_iff.1 hz).1
          simpa using this
        rw [h0] at hz hq
        simp at hz hq
        subst hz hq
        exact kept _ _ hy
    · have at_ : ∀ {k : Nat} {z : Value}, (vs ++ [y])[k]? = some z → vs[k]? = some z ∨ k = vs.length ∧ z = y := fun {k z} hz => by
        rcases Nat.lt_or_ge k vs.length with hk | hk
        · rw [List.getElem?_append_left hk] at hz; exact .inl hz
        · rw [List.getElem?_append_right hk] at hz
          have h0 : k - vs.length = 0 := by
            have := (List.getElem?_eq_some_iff.1 hz).1
            simpa using this
          rw [h0] at hz
          simp at hz
          exact .inr ⟨by omega, hz.symm⟩
      rcases at_ hz with h3 | ⟨h3, rfl⟩
      · rcases at_ hz' with h4 | ⟨h4, rfl⟩
        · exact hown.apart k l z z' b h3 h4 hzb hzb'
        · exact absurd hzb' (hfar k z b h3 hzb)
      · rcases at_ hz' with h4 | ⟨h4, rfl⟩
        · exact absurd hzb (hfar l z' b h4 hzb')
        · omega
end Go.Proofs.YtploomncapiloaaGreatDoor
