/- Parts of the proof, put together by a program: ReadX. No condition. -/
import Derived.Test.YtploomncapiloaaGreatDoorDAM
import Derived.Test.YtploomncapiloaaGreatDoorDAN
namespace Go.Proofs.YtploomncapiloaaGreatDoor
open Go.RowKit Go.Sort Go.PlainAid Croft
structure CircAt (w : World) (b : Nat) (gs : List Gt) (os : List Int) (vg vo : Value) : Prop where
  box : Box w b 85 [vg, vo]
  gates : OwnGates w (b + 1) vg gs
  outs : OwnInts w (b + 1) vo os
def CircIn (w : World) (b : Nat) (gs : List Gt) (os : List Int) : Prop := ∃ vg vo, CircAt w b gs os vg vo
theorem CircAt.below {w w' : World} {b : Nat} {gs : List Gt} {os : List Int} {vg vo : Value} (h : CircAt w b gs os vg vo) (hb : Below w.heap.size w w') : CircAt w' b gs os vg vo := ⟨h.box.below hb, h.gates.below hb, h.outs.below hb⟩
theorem CircAt.drewN {w : World} {b : Nat} {gs : List Gt} {os : List Int} {vg vo : Value} (h : CircAt w b gs os vg vo) (n : Nat) : CircAt (w.drewN n) b gs os vg vo := ⟨h.box, h.gates, h.outs⟩
theorem CircAt.alloc {w : World} {b : Nat} {gs : List Gt} {os : List Int} {vg vo : Value} (h : CircAt w b gs os vg vo) (o : Obj) : CircAt (w.alloc o) b gs os vg vo := h.below ((Below.refl _ _).alloc (Nat.le_refl _) o)
theorem CircAt.is {w : World} {b : Nat} {gs : List Gt} {os : List Int} {vg vo : Value} (h : CircAt w b gs os vg vo) : IsCirc w (.agg #[vg, vo]) gs os := ⟨vg, vo, rfl, h.gates.is, h.outs.is⟩
theorem CircAt.new (w : World) : CircAt (w.alloc (.cells #[.slice none 0 0, .slice none 0 0] 85)) w.heap.size [] [] (.slice none 0 0) (.slice none 0 0) := ⟨Box.new _ _ _, OwnGates.nil _ _, OwnInts.nil _ _⟩
theorem own_ne {w : World} {b : Nat} {e : TypeId} {size n : Nat} {v : Value} {xs : List Value} (h : w.ownsRow (b + 1) e size v n xs) : v.ownBlock ≠ some b := fun e => by have := (h.lt b e).1; omega
theorem CircAt.push_out {w w' : World} {b : Nat} {gs : List Gt} {os os' : List Int} {vg vo vo' : Value} (h : CircAt w b gs os vg vo) (ho : OwnInts w' (b + 1) vo' os') (hg : w.grownBy w' vo.ownBlock) :
    w'.cell? ⟨b, 1, none⟩ = some vo ∧ w'.frozen? ⟨b, 1, none⟩ = false ∧ CircAt (w'.setCell ⟨b, 1, none⟩ vo') b gs os' vg vo' ∧ Below b w (w'.setCell ⟨b, 1, none⟩ vo') := by
  have hb' := h.box.grown hg (own_ne h.outs.1)
  have hgt : OwnGates w' (b + 1) vg gs := ⟨own_apart h.gates.1 h.outs.1 (by decide) hg, h.gates.2⟩
  refine ⟨hb'.cell (i := 1) rfl, hb'.frozen 1, ⟨hb'.set 1 vo', ⟨hgt.1.kept (set_grown w' b 1 vo') (.inr (own_ne hgt.1)), hgt.2⟩, ⟨ho.1.kept (set_grown w' b 1 vo') (.inr (own_ne ho.1)), ho.2⟩⟩, ?_⟩
  exact ((Below.refl b w).grown hg (Nat.le_of_lt h.box.lt) (fun k hk => by have := (h.outs.1.lt k hk).1; omega)).setCell (p := ⟨b, 1, none⟩) (Nat.le_refl _) _
theorem CircAt.push_gate {w w' : World} {b : Nat} {gs gs' : List Gt} {os : List Int} {vg vo vg' : Value} (h : CircAt w b gs os vg vo) (ho : OwnGates w' (b + 1) vg' gs') (hg : w.grownBy w' vg.ownBlock) :
    w'.cell? ⟨b, 0, none⟩ = some vg ∧ w'.frozen? ⟨b, 0, none⟩ = false ∧ CircAt (w'.setCell ⟨b, 0, none⟩ vg') b gs' os vg' vo ∧ Below b w (w'.setCell ⟨b, 0, none⟩ vg') := by
  have hb' := h.box.grown hg (own_ne h.gates.1)
  have hgt : OwnInts w' (b + 1) vo os := ⟨own_apart h.outs.1 h.gates.1 (by decide) hg, h.outs.2⟩
  refine ⟨hb'.cell (i := 0) rfl, hb'.frozen 0, ⟨hb'.set 0 vg', ⟨ho.1.kept (set_grown w' b 0 vg') (.inr (own_ne ho.1)), ho.2⟩, ⟨hgt.1.kept (set_grown w' b 0 vg') (.inr (own_ne hgt.1)), hgt.2⟩⟩, ?_⟩
  exact ((Below.refl b w).grown hg (Nat.le_of_lt h.box.lt) (fun k hk => by have := (h.gates.1.lt k hk).1; omega)).setCell (p := ⟨b, 0, none⟩) (Nat.le_refl _) _
theorem CircAt.set_far {w : World} {b rb : Nat} {gs : List Gt} {os : List Int} {vg vo : Value} (h : CircAt w b gs os vg vo) (hb : rb < b) {u v : Value} : CircAt ((w.setCell ⟨rb, 0, none⟩ u).setCell ⟨rb, 1, none⟩ v) b gs os vg vo := by
  have hg1 := set_grown w rb 0 u
  have hg2 := set_grown (w.setCell ⟨rb, 0, none⟩ u) rb 1 v
  have far : ∀ {e : TypeId} {size n : Nat} {x : Value} {xs : List Value}, w.ownsRow (b + 1) e size x n xs → ((w.setCell ⟨rb, 0, none⟩ u).setCell ⟨rb, 1, none⟩ v).ownsRow (b + 1) e size x n xs := fun {e size n x xs} ho => by
    have hne : x.ownBlock ≠ some rb := fun e => by have := (ho.lt rb e).1; omega
    exact (ho.kept hg1 (.inr hne)).kept hg2 (.inr hne)
  exact ⟨(h.box.grown hg1 (fun e => by have := Option.some.inj e; omega)).grown hg2 (fun e => by have := Option.some.inj e; omega), ⟨far h.gates.1, h.gates.2⟩, ⟨far h.outs.1, h.outs.2⟩⟩
theorem step_push_int {ops : Array Oper} {o : Oper} {a : Act} {K : Act → World → Prop} {Q : Exit → Act → World → Prop} {E : Prop} {w : World} (hgd : o.guard = none) (s x : Operand)
    (ho : o.op = .call { callee := .builtin .append, args := #[s, x], argTypes := #[53, 53] })
    (base : Nat) (v : Value) (zs : List Int) (z : Int) (g c : Nat) (hs : a.eval s = v) (hown : OwnInts w base v zs) (hx : a.eval x = .slice (some ⟨g, 0, none⟩) 1 c)
    (hc : w.cell? ⟨g, 0, none⟩ = some (.int .i64 z)) (hz : I64 z) (hl : zs.length + 1 ≤ 17592186043904) (hb : base ≤ w.heap.size)
    (h : ∀ b cap w', OwnInts w' base (.slice (some ⟨b, 0, none⟩) (zs.length + 1) cap) (zs ++ [z]) → w.grownBy w' v.ownBlock → K (a.put o.dst (.slice (some ⟨b, 0, none⟩) (zs.length + 1) cap)) w') : if Region.wanted o (yielded ops a.tmps) = true then Oper.wp Tryz.prog o a w K Q else E := by
  obtain ⟨i0, hi, hz0, hz1, hz2⟩ := info_parts iinfo
  refine step_append_lies w hgd s x 53 ho base 3 i0 (.int .i64 0) 1 8 Tryz.underlying53 hi hz0 hz1 hz2 rfl (by decide) v zs.length (i64s zs) hs hown.1 ⟨g, 0, none⟩ 1 c [.int .i64 z] hx rfl ?_ ?_ (by omega) ?_ ?_ hb _ rfl ?_
  · intro j u hu
    match j, hu with
    | 0, hu =>
      simp at hu
      subst hu
      rw [add_addr]; exact hc
  · intro u hu
    simp at hu
    subst hu; rfl
  · unfold maxLen; omega
  · omega
  · intro b cap w' h1 h2 _ _
    refine h b cap w' ⟨?_, by simpa using hl, fun y hy => ?_⟩ h2
    · have e : (zs ++ [z]).length = zs.length + 1 := by simp
      have e2 : i64s (zs ++ [z]) = i64s zs ++ [.int .i64 z] := by simp [i64s]
      rw [e, e2]; exact h1
    · rcases List.mem_append.1 hy with h5 | h5
      · exact hown.2.2 y h5
      · simp at h5; subst h5; exact hz
theorem step_push_gate {ops : Array Oper} {o : Oper} {a : Act} {K : Act → World → Prop} {Q : Exit → Act → World → Prop} {E : Prop} {w : World} (hgd : o.guard = none) (s x : Operand)
    (ho : o.op = .call { callee := .builtin .append, args := #[s, x], argTypes := #[83, 83] })
    (base : Nat) (v : Value) (gs : List Gt) (y : Gt) (g c : Nat) (hs : a.eval s = v) (hown : OwnGates w base v gs) (hx : a.eval x = .slice (some ⟨g, 0, none⟩) 1 c)
    (hc : Box w g 133 (genc y)) (hy : GateOk y) (hl : gs.length + 1 ≤ 4398046511104) (hb : base ≤ w.heap.size)
    (h : ∀ b cap w', OwnGates w' base (.slice (some ⟨b, 0, none⟩) (gs.length + 1) cap) (gs ++ [y]) → w.grownBy w' v.ownBlock → K (a.put o.dst (.slice (some ⟨b, 0, none⟩) (gs.length + 1) cap)) w') : if Region.wanted o (yielded ops a.tmps) = true then Oper.wp Tryz.prog o a w K Q else E := by
  obtain ⟨i0, hi, hz0, hz1, hz2⟩ := info_parts ginfo
  refine step_append_lies w hgd s x 83 ho base 133 i0 (.agg #[.int .i64 0, .int .i64 0, .int .i64 0, .int .u64 0]) 4 32 Tryz.underlying83 hi hz0 hz1 hz2 rfl (by decide) v gs.length (gcs gs) hs hown.1 ⟨g, 0, none⟩ 1 c (genc y) hx rfl ?_ ?_ (by omega) ?_ ?_ hb _ rfl ?_
  · intro j u hu
    rw [add_addr, Nat.zero_add]
    exact hc.cell hu
  · intro u hu
    simp [genc] at hu
    rcases hu with rfl | rfl | rfl | rfl <;> rfl
  · unfold maxLen; omega
  · omega
  · intro b cap w' h1 h2 _ _
    refine h b cap w' ⟨?_, by simpa using hl, fun z hz => ?_⟩ h2
    · have e : (gs ++ [y]).length = gs.length + 1 := by simp
      rw [e, gcs_snoc]; exact h1
    · rcases List.mem_append.1 hz with h3 | h3
      · exact hown.2.2 z h3
      · simp at h3; subst h3; exact hy
theorem wordK_range (w : List UInt8) : 1 ≤ wordK w ∧ wordK w ≤ 7 := by
  unfold wordK
  repeat' split
  all_goals omega
theorem wordK_is {w : List UInt8} {k : Int} (h : wordK w = k) (hk : k ≤ 6) : w = wordL k := by
  subst h
  unfold wordK at hk ⊢
  split
  · next h => exact h
  · split
    · next h => exact h
    · split
      · next h => exact h
      · split
        · next h => exact h
        · split
          · next h => exact h
          · split
            · next h => exact h
            · rename_i q1 q2 q3 q4 q5 q6
              rw [if_neg q1, if_neg q2, if_neg q3, if_neg q4, if_neg q5, if_neg q6] at hk
              omega
theorem below_drew {B : Nat} {a w : World} (h : Below B a w) : Below B a w.drew := ⟨h.os, h.tape, h.output, h.size, h.block⟩
theorem Box.drew {w : World} {b : Nat} {t : TypeId} {cs : List Value} (h : Box w b t cs) : Box w.drew b t cs := h
theorem bs_toList (l : List UInt8) : (bs l).toList = l := by
  rw [ByteArray.toList_eq]; simp [bs]
theorem bs_inj {a b : List UInt8} (h : bs a = bs b) : a = b := by
  have := congrArg (fun x => x.data.toList) h
  simpa [bs] using this
theorem readR_bad {gs : List Gt} {os : List Int} {w0 : List UInt8} {ws : List (List UInt8)} (h : numsOk ws = false) : readR gs os w0 ws = none := by
  unfold readR; rw [h]; simp
theorem readR_out {gs : List Gt} {os : List Int} {w0 : List UInt8} {ws : List (List UInt8)} (h : numsOk ws = true) (h0 : w0 = outW) : readR gs os w0 ws = if ws.length = 1 then some (gs, os ++ [(ws.map numR).getD 0 0]) else none := by
  unfold readR; rw [if_pos h, if_pos h0]
theorem readR_gate {gs : List Gt} {os : List Int} {w0 : List UInt8} {ws : List (List UInt8)} (h : numsOk ws = true) (h0 : w0 ≠ outW) : readR gs os w0 ws = if wordK w0 ≤ 6 ∧ os.length = 0 ∧ (ws.length : Int) = (if wordK w0 ≤ 2 then 1 else 2) then some (gs ++ [gateR (wordK w0) (ws.map numR)], os) else none := by
  unfold readR; rw [if_pos h, if_neg h0]
theorem gateR_ok {y : Gt} {j k : Nat} {ns : List Int} (hy : y = gateR j ns) (hnum : ∀ i, i < k → ∃ z, ns[i]? = some z ∧ 0 ≤ z ∧ z < 10000000000 ∧ ns.getD i 0 = z) (h1 : 1 ≤ j) (h6 : j ≤ 6) (hk : (k : Int) = (if (j : Int) ≤ 2 then 1 else 2)) : GateOk y := by
  have hk0 : 0 < k := by split at hk <;> omega
  obtain ⟨n0, _, a1, a2, a3⟩ := hnum 0 hk0
  have i0 : I64 n0 := ⟨by omega, by omega⟩
  have u0 : U64 n0 := ⟨by omega, by omega⟩
  have iz : I64 0 := ⟨by omega, by omega⟩
  have uz : U64 0 := ⟨by omega, by omega⟩
  have ij : I64 (j : Int) := ⟨by omega, by omega⟩
  subst hy
  unfold gateR
  rw [a3]
  by_cases q1 : (j : Int) = 1
  · rw [if_pos q1]; exact ⟨q1 ▸ ij, i0, iz, uz⟩
  · rw [if_neg q1]
    by_cases q2 : (j : Int) = 2
    · rw [if_pos q2]; exact ⟨q2 ▸ ij, iz, iz, u0⟩
    · rw [if_neg q2]
      rw [if_neg (by omega)] at hk
      obtain ⟨n1, _, b1, b2, b3⟩ := hnum 1 (by omega)
      have i1 : I64 n1 := ⟨by omega, by omega⟩
      have u1 : U64 n1 := ⟨by omega, by omega⟩
      rw [b3]
      by_cases q6 : (j : Int) = 6
      · rw [if_pos q6]; exact ⟨q6 ▸ ij, i0, iz, u1⟩
      · rw [if_neg q6]; exact ⟨ij, i0, i1, uz⟩
def ReadRes (w : World) (b : Nat) (r : Option (List Gt × List Int)) (e : Ending) (w' : World) : Prop :=
  e = .returned (.bool r.isSome) ∧ (∀ p, r = some p → CircIn w' b p.1 p.2) ∧ Below b w w'
set_option maxRecDepth 100000 in
set_option maxHeartbeats 4000000 in
theorem cRead_any (b : Nat) (gs : List Gt) (os : List Int) (vw : Value) (w0 : List UInt8) (ws : List (List UInt8)) (w : World) (hC : CircIn w b gs os) (h1 : IsStrs w vw (w0 :: ws)) (hsz : ∀ x ∈ w0 :: ws, x.length ≤ 1000000000) (hgl : gs.length ≤ 100000) (hol : os.length ≤ 100000) :
    Calls Tryz.prog 143 #[.pointer (some ⟨b, 0, none⟩), vw] w fun e w' => ReadRes w b (readR gs os w0 ws) e w' := by
  obtain ⟨vg, vo, hC⟩ := hC
  obtain ⟨Ag, cg, rfl, _, _⟩ := own_form hC.gates.1
  obtain ⟨Ao, co, rfl, _, _⟩ := own_form hC.outs.1
  have KC := Lib.hid hC
  have KS := Lib.hid h1
  have HX := Lib.hid (fun x (hx : x ∈ ws) => hsz x (List.mem_cons_of_mem _ hx))
  have HX0 := Lib.hid (hsz w0 (by simp))
  have hlt0 : b < w.heap.size := hC.box.lt
  obtain ⟨A1, c1, rfl, hc1, hm1, hl1, hr1⟩ := h1
  obtain ⟨b1, o1, x0, rfl, hb1, hx0, _⟩ := strs_at hr1 (k := 0) (by simp)
  obtain rfl : w0 = x0 := by simpa using hx0
  obtain ⟨n, hn⟩ : ∃ n, n = ws.length := ⟨_, rfl⟩
  have HN := Lib.hid hn
  rw [show (w0 :: ws).length = n + 1 by rw [hn]; rfl] at *
  have hsl := sslice_from (some ⟨b1, o1, none⟩) (n + 1) c1 1 1 rfl (by omega)
  have KT := Lib.hid (show IsStrs w (.slice (if c1 = 1 then some ⟨b1, o1, none⟩ else (some ⟨b1, o1, none⟩ : Option Addr).map (·.add (1 * 1))) n (c1 - 1)) ws by
    have h := KS.out
    rw [show n + 1 = (w0 :: ws).length by rw [hn]; rfl] at h
    have h2 := h.from_ 1 (by simp)
    rw [show (w0 :: ws).length - 1 = n by rw [hn]; rfl] at h2
    exact h2)
  obtain ⟨At, hAt⟩ : ∃ At, At = (if c1 = 1 then some (⟨b1, o1, none⟩ : Addr) else (some ⟨b1, o1, none⟩ : Option Addr).map (·.add (1 * 1))) := ⟨_, rfl⟩
  rw [← hAt] at hsl KT
  rw [show n + 1 - 1 = n by omega] at hsl
  suffices hgoal : ∀ Post : Ending → World → Prop, (∀ e w', ReadRes w b (readR gs os w0 ws) e w' → Post e w') → Calls Tryz.prog 143 #[.pointer (some ⟨b, 0, none⟩), .slice (some ⟨b1, o1, none⟩) (n + 1) c1] w Post from hgoal _ fun e w' h => h
  intro Post hpo
  have HP := Lib.hid hpo
  clear hm1 hpo hr1 hsz hAt hx0 hn hC hb1
  go_enter Tryz.func143, Tryz.ntmps143
  go_wp2_with fail
  go_loopw [5, 14] (fun v i wr => ∃ k : Nat, k ≤ n ∧ i = .int .i64 k ∧ numsOk (ws.take k) = true ∧ OwnInts wr w.heap.size v ((ws.take k).map numR) ∧ Below w.heap.size w wr) (fun _ i _ => n - (intOf i).toNat)
  case atStart => exact ⟨0, Nat.zero_le _, rfl, rfl, OwnInts.nil _ _, Below.refl _ _⟩
  case round =>
    obtain ⟨k, hk, rfl, hok, hown, hbel⟩ := hrel
    have KW := Lib.hid hown
    have BEL := Lib.hid hbel
    have HOK := Lib.hid hok
    have hs1 := hbel.size
    clear hown hbel hok
    by_cases hlt : k < n
    · obtain ⟨A, c, hA, _, _, _, hr⟩ := KT.out.below BEL.out
      injection hA with hA1 hA2 hA3
      subst hA1 hA3
      obtain ⟨b2, o2, x, rfl, hb2, hx, hcx⟩ := strs_at hr (show k < ws.length by have := HN.out; omega)
      have CD := Lib.hid (fun W => cNumber_any x W (HX.out x (List.mem_of_getElem? hx)))
      have HNX := Lib.hid (nums_take hx)
      have HOK1 := Lib.hid (fun h => numsOk_take hx h HOK.out)
      have HBAD := Lib.hid (fun h => numsOk_bad hx h)
      have hi64 := numR_i64 x
      have HI := Lib.hid hi64
      obtain ⟨z, hz⟩ : ∃ z, z = numR x := ⟨_, rfl⟩
      rw [← hz] at CD HNX HOK1 HBAD HI hi64
      clear hr hb2 hx hA2 hz
      by_cases hneg : z < 0
      · have HB := Lib.hid (readR_bad (gs := gs) (os := os) (w0 := w0) (HBAD.out hneg))
        go_wp2_with fail
        refine (CD.out _).mono ?_
        rintro e w' ⟨rfl, rfl⟩
        try dsimp only
        go_wp2_with fail
        refine HP.out _ _ ⟨by rw [HB.out]; rfl, fun p hp => ?_, BEL.out.mono (Nat.le_of_lt hlt0)⟩
        rw [HB.out] at hp; cases hp
      · have h0 : 0 ≤ z := by omega
        have HOK2 := Lib.hid (HOK1.out h0)
        have hkl : ((ws.take k).map numR).length = k := by rw [List.length_map, List.length_take]; have := HN.out; omega
        have HKL := Lib.hid hkl
        clear hneg hkl
        go_wp2_with fail
        refine (CD.out _).mono ?_
        rintro e w' ⟨rfl, rfl⟩
        try dsimp only
        go_wp2_with (at_builtin; go_loud (refine wpList_push_int rfl _ _ rfl w.heap.size _ _ z wr.heap.size 1 rfl (KW.out.alloc _) rfl (new_cell _ _ _) HI.out (by rw [HKL.out]; omega) (by rw [size_alloc]; omega) ?_))
        intro v' w5 hown' hbel'
        have K5 := Lib.hid hown'
        have B5 := Lib.hid ((BEL.out.alloc hs1 (.cells #[.int .i64 z] 3)).trans hbel')
        clear hown' hbel'
        go_wp2_with fail
        exact ⟨⟨k + 1, by omega, by go_num, HOK2.out, by rw [HNX.out, List.map_take]; exact K5.out, B5.out⟩, by simp [intOf] <;> omega⟩
    · have hkn : k = n := by omega
      subst hkn
      rw [show ws.take k = ws by rw [HN.out]; exact List.take_length] at KW HOK
      obtain ⟨ns, hns⟩ : ∃ ns, ns = ws.map numR := ⟨_, rfl⟩
      rw [← hns] at KW
      have hnl : ns.length = k := by rw [hns, List.length_map]; exact HN.out.symm
      have HNS := Lib.hid hns
      have KC2 := Lib.hid (KC.out.below BEL.out)
      have KN := Lib.hid KW.out.is
      obtain ⟨An, cn, hv, _, _, _, hin, hnr⟩ := KW.out.is
      subst hv
      have hcb := KC2.out.box
      have hc0 := hcb.cell (i := 0) rfl
      have hc1' := hcb.cell (i := 1) rfl
      have KS2 := Lib.hid (KS.out.below BEL.out)
      have hw0 : wr.cell? ⟨b1, o1 + 0, none⟩ = some (.string (bs w0)) := by
        obtain ⟨A, c, hA, _, _, _, hr⟩ := KS2.out
        injection hA with hA1 hA2 hA3
        subst hA1
        obtain ⟨b', o', x', hA, _, hx', hcx⟩ := strs_at hr (k := 0) (by simp)
        injection hA with hA
        injection hA with hA4 hA5
        subst hA4 hA5
        obtain rfl : w0 = x' := by simpa using hx'
        exact hcx
      rw [Nat.add_zero] at hw0
      have HW0 := Lib.hid hw0
      rw [hnl]
      obtain ⟨s0, hs0⟩ : ∃ s0, s0 = bs w0 := ⟨_, rfl⟩
      rw [← hs0] at hw0
      have HS0 := Lib.hid hs0
      clear hs0 hns hcb
      by_cases hout : w0 = outW
      · have hbo : (s0.toList == [111, 117, 116]) = true := by rw [HS0.out, bs_toList, hout]; rfl
        by_cases hk1 : k = 1
        · subst hk1
          obtain ⟨bn, on, z, rfl, hbn, hnz, hz64, hcz⟩ := ints_at hnr hin (k := 0) (by omega)
          have HR := Lib.hid (show readR gs os w0 ws = some (gs, os ++ [z]) by
            rw [readR_out HOK.out hout, if_pos HN.out.symm, ← HNS.out]
            congr 3
            rw [List.getD_eq_getElem?_getD, hnz]; rfl)
          rw [Nat.add_zero] at hcz
          have KD := Lib.hid ((KC2.out.drewN 1).alloc (.cells #[.int .i64 z] 3))
          have hB : b + 1 ≤ ((wr.drewN 1).alloc (.cells #[.int .i64 z] 3)).heap.size := by rw [size_alloc]; have := KC2.out.box.lt; show b + 1 ≤ wr.heap.size + 1; omega
          have hca := (KC2.out.alloc (.cells #[.int .i64 z] 3)).box.cell (i := 1) rfl
          have HPUSH := Lib.hid (fun (bb cap : Nat) (w7 : World) (ho7 : OwnInts w7 (b + 1) (.slice (some ⟨bb, 0, none⟩) (os.length + 1) cap) (os ++ [z])) hg7 => KD.out.push_out ho7 hg7)
          have HBD := Lib.hid (((below_drewN (BEL.out.mono (Nat.le_of_lt hlt0)) 1).alloc (by show b ≤ wr.heap.size; omega) (.cells #[.int .i64 z] 3)))
          clear hnz hnl hbn hnr hin
          go_wp2_with fail
          go_region_law ((refine step_push_int rfl _ _ (by rfl) (b + 1) _ os z _ 1 (by rfl) KD.out.outs (by rfl) (new_cell _ _ _) hz64 (by omega) hB ?_; intro bb cap w7 ho7 hg7; obtain ⟨hk7, hf7, KC7, KB7⟩ := HPUSH.out bb cap w7 ho7 hg7))
          all_goals
            go_wp2_with fail
            refine HP.out _ _ ⟨by rw [HR.out]; rfl, fun p hp => ?_, HBD.out.trans KB7⟩
            rw [HR.out] at hp
            obtain rfl := Option.some.inj hp
            exact ⟨_, _, KC7⟩
        · have HR := Lib.hid (show readR gs os w0 ws = none by rw [readR_out HOK.out hout, if_neg (by rw [← HN.out]; exact hk1)])
          have hbk : ((k : Int) != 1) = true := by rw [bne_iff_ne]; omega
          clear hk1
          go_wp2_with fail
          refine HP.out _ _ ⟨by rw [HR.out]; rfl, fun p hp => ?_, BEL.out.mono (Nat.le_of_lt hlt0)⟩
          rw [HR.out] at hp; cases hp
      · have hbo : (s0.toList == [111, 117, 116]) = false := by rw [HS0.out, bs_toList, beq_eq_false_iff_ne]; exact hout
        have HG := Lib.hid (readR_gate (gs := gs) (os := os) (ws := ws) HOK.out hout)
        rename World => wn
        obtain ⟨gb, hgb⟩ : ∃ gb, gb = wn.heap.size := ⟨_, rfl⟩
        obtain ⟨w6, hw6⟩ : ∃ w6, w6 = wn.alloc (.cells #[.int .i64 1, .int .i64 0, .int .i64 0, .int .u64 0] 133) := ⟨_, rfl⟩
        have BX6 := Lib.hid (show Box w6 gb 133 [.int .i64 1, .int .i64 0, .int .i64 0, .int .u64 0] by rw [hw6, hgb]; exact Box.new _ _ _)
        have B6 := Lib.hid (show Below gb wn w6 by rw [hw6, hgb]; exact (Below.refl _ _).alloc (Nat.le_refl _) _)
        have HGB := Lib.hid hgb
        go_wp2_with fail
        rw [← hw6, ← hgb]
        clear hw6 hgb hc0 hc1' hw0
        go_loopw [] (fun wx => ∃ j : Nat, 1 ≤ j ∧ (j : Int) ≤ wordK w0 ∧ Box wx gb 133 [.int .i64 j, .int .i64 0, .int .i64 0, .int .u64 0] ∧ Below gb wn wx) (fun wx => 7 - (intOf ((wx.cell? ⟨gb, 0, none⟩).getD (.int .i64 0))).toNat)
        case atStart => exact ⟨1, by omega, (wordK_range w0).1, BX6.out, B6.out⟩
        case round =>
          obtain ⟨j, hj1, hjk, hbx, hbl⟩ := hrel
          have BX := Lib.hid hbx
          have BL := Lib.hid (show Below wn.heap.size wn wr from HGB.out ▸ hbl)
          have hk0 := hbx.cell (i := 0) rfl
          have hkf := hbx.frozen 0
          have hw0 : wr.cell? ⟨b1, o1, none⟩ = some (.string s0) := (BL.out.cell (p := ⟨b1, o1, none⟩) (World.block_lt_of_cell? _ _ HW0.out)).trans (by rw [HS0.out]; exact HW0.out)
          have hj7 : j ≤ 7 := by have := (wordK_range w0).2; omega
          have HJK := Lib.hid hjk
          clear hbx hbl hjk
          by_cases hj6 : j ≤ 6
          · have hdj : decide ((j : Int) ≤ 6) = true := by simp; omega
            obtain ⟨sj, hsj⟩ : ∃ sj, sj = bs (wordL j) := ⟨_, rfl⟩
            have CW := Lib.hid (show ∀ W, Calls Tryz.prog 156 #[.int .i64 j] W fun e w' => e = .returned (.string sj) ∧ W = w' from fun W => by rw [hsj]; exact cWord_any j W (by omega) (by omega))
            have HSJ := Lib.hid hsj
            clear hsj
            by_cases hm : w0 = wordL j
            · have hbq : (sj.toList == s0.toList) = true := by rw [HSJ.out, HS0.out, bs_toList, bs_toList, hm]; simp
              have HK := Lib.hid (show wordK w0 = j by rw [hm]; exact wordK_wordL (by omega) (by omega))
              clear hm
              go_wp2_with fail
              go_quiet ((exact quietL (CW.out _)))
              go_upto_region 18 with fail
              have BXq := Lib.hid (BX.out.drewN nq)
              have BLq := Lib.hid (below_drewN BL.out nq)
              have hk0 := BXq.out.cell (i := 0) rfl
              have hkf0 := BXq.out.frozen 0
              have KCq := Lib.hid (KC2.out.below BLq.out)
              have hq1 := KCq.out.box.cell (i := 1) rfl
              generalize wr.drewN nq = wq at *
              have HEND := Lib.hid (fun (hR : readR gs os w0 ws = none) => HP.out (.returned (.bool false)) wq ⟨by rw [hR]; rfl, fun p hp => (by rw [hR] at hp; cases hp), (BEL.out.trans (BLq.out.mono hs1)).mono (Nat.le_of_lt hlt0)⟩)
              by_cases ho : os.length = 0
              · have hbo1 : decide ((0 : Int) < (os.length : Int)) = false := by rw [decide_eq_false_iff_not]; omega
                by_cases hl : (k : Int) = (if (j : Int) ≤ 2 then 1 else 2)
                · obtain ⟨y, hy⟩ : ∃ y, y = gateR j ns := ⟨_, rfl⟩
                  have HR := Lib.hid (show readR gs os w0 ws = some (gs ++ [y], os) by
                    rw [HG.out, HK.out, if_pos ⟨by omega, ho, by rw [← HN.out]; exact hl⟩, hy, HNS.out])
                  have hnum : ∀ i, i < k → ∃ z, ns[i]? = some z ∧ 0 ≤ z ∧ z < 10000000000 ∧ ns.getD i 0 = z := fun i hi => by
                    obtain ⟨x, hx⟩ : ∃ x, ws[i]? = some x := ⟨_, List.getElem?_eq_getElem (by have := HN.out; omega)⟩
                    have h1 := numR_range x
                    have h2 := List.all_eq_true.1 HOK.out x (List.mem_of_getElem? hx)
                    have h3 : ns[i]? = some (numR x) := by rw [HNS.out, List.getElem?_map, hx]; rfl
                    exact ⟨numR x, h3, by simpa using h2, h1.2, by rw [List.getD_eq_getElem?_getD, h3]; rfl⟩
                  have HNM := Lib.hid hnum
                  have HGBL := Lib.hid (show wn.heap.size ≤ gb by have := HGB.out; omega)
                  have hgbb : b ≠ gb := by have := KC2.out.box.lt; have := HGB.out; omega
                  have HYD := Lib.hid hy
                  have HHL := Lib.hid hl
                  have HIN := Lib.hid hin
                  have HNR := Lib.hid hnr
                  clear hnum hy hin hnr
                  have hkm : (k : Int) = (if (j : Int) ≤ 2 then 1 else 2) := hl
                  by_cases hj2 : (j : Int) ≤ 2
                  · rw [if_pos hj2] at hkm
                    have hk1 : k = 1 := by omega
                    subst hk1
                    clear hkm hl
                    go_upto_block 4 with fail
                    go_cut [] from 81 to 114 (fun wx => Box wx gb 133 (genc y) ∧ Below wn.heap.size wn wx)
                    case first =>
                      by_cases hj1 : j = 1
                      · subst hj1
                        obtain ⟨n0, hn0, hn00, hn01, hg0⟩ := HNM.out 0 (by omega)
                        obtain ⟨bn, on, n0', hAn, hbn, hn0', hi0, hcz0⟩ := ints_at HNR.out HIN.out (k := 0) (by omega)
                        subst hAn
                        obtain rfl : n0 = n0' := Option.some.inj (hn0.symm.trans hn0')
                        have hz0 : wq.cell? ⟨bn, on, none⟩ = some (.int .i64 n0) := (BLq.out.cell (p := ⟨bn, on, none⟩) hbn).trans (by rw [Nat.add_zero] at hcz0; exact hcz0)
                        have hf1 := BXq.out.frozen 1
                        have hc1 := BXq.out.cell (i := 1) rfl
                        have HY := Lib.hid (show genc y = [.int .i64 1, .int .i64 n0, .int .i64 0, .int .u64 0] by rw [HYD.out]; simp only [gateR, hg0, genc]; simp)
                        have hbng : bn ≠ gb := by have := HGB.out; omega
                        have hbng' : gb ≠ bn := fun e => hbng e.symm
                        clear hn0 hg0 hn0' hcz0
                        go_wp2_with fail
                        all_goals
                          go_meet
                          case rel => first | exact ⟨by rw [HY.out]; exact (BXq.out.set 1 _), (BLq.out.setCell (p := ⟨gb, 1, none⟩) HGBL.out _)⟩ | exact ⟨by rw [HY.out]; exact (BXq.out.set 1 _), (BLq.out.setCell (p := ⟨gb, 1, none⟩) HGBL.out _)⟩
                      by_cases hj2 : j = 2
                      · subst hj2
                        obtain ⟨n0, hn0, hn00, hn01, hg0⟩ := HNM.out 0 (by omega)
                        obtain ⟨bn, on, n0', hAn, hbn, hn0', hi0, hcz0⟩ := ints_at HNR.out HIN.out (k := 0) (by omega)
                        subst hAn
                        obtain rfl : n0 = n0' := Option.some.inj (hn0.symm.trans hn0')
                        have hz0 : wq.cell? ⟨bn, on, none⟩ = some (.int .i64 n0) := (BLq.out.cell (p := ⟨bn, on, none⟩) hbn).trans (by rw [Nat.add_zero] at hcz0; exact hcz0)
                        have hf3 := BXq.out.frozen 3
                        have hc3 := BXq.out.cell (i := 3) rfl
                        have HY := Lib.hid (show genc y = [.int .i64 2, .int .i64 0, .int .i64 0, .int .u64 n0] by rw [HYD.out]; simp only [gateR, hg0, genc]; simp)
                        have hbng : bn ≠ gb := by have := HGB.out; omega
                        have hbng' : gb ≠ bn := fun e => hbng e.symm
                        clear hn0 hg0 hn0' hcz0
                        go_wp2_with fail
                        all_goals
                          go_meet
                          case rel => first | exact ⟨by rw [HY.out]; exact (BXq.out.set 3 _), (BLq.out.setCell (p := ⟨gb, 3, none⟩) HGBL.out _)⟩ | exact ⟨by rw [HY.out]; exact (BXq.out.set 3 _), (BLq.out.setCell (p := ⟨gb, 3, none⟩) HGBL.out _)⟩
                      omega
                    case rest =>
                      obtain ⟨hbx, hbl⟩ := hcut
                      have HYO := Lib.hid (show GateOk y from gateR_ok HYD.out HNM.out hj1 hj6 (HHL.out))
                      obtain ⟨yk, ya, yb, yn⟩ := y
                      rename World => wy
                      have BXy := Lib.hid hbx
                      have BLy := Lib.hid hbl
                      have KCy := Lib.hid (KC2.out.below BLy.out)
                      have hy0 := KCy.out.box.cell (i := 0) rfl
                      have hg0 := BXy.out.cell (i := 0) rfl
                      have hg1 := BXy.out.cell (i := 1) rfl
                      have hg2 := BXy.out.cell (i := 2) rfl
                      have hg3 := BXy.out.cell (i := 3) rfl
                      clear hbx hbl
                      have KD := Lib.hid ((KCy.out.drewN 1).alloc (.cells #[.int .i64 yk, .int .i64 ya, .int .i64 yb, .int .u64 yn] 133))
                      have hB : b + 1 ≤ ((wy.drewN 1).alloc (.cells #[.int .i64 yk, .int .i64 ya, .int .i64 yb, .int .u64 yn] 133)).heap.size := by rw [size_alloc]; have := KCy.out.box.lt; show b + 1 ≤ wy.heap.size + 1; omega
                      have hca := (KCy.out.alloc (.cells #[.int .i64 yk, .int .i64 ya, .int .i64 yb, .int .u64 yn] 133)).box.cell (i := 0) rfl
                      have HPUSH := Lib.hid (fun (bb cap : Nat) (w7 : World) (ho7 : OwnGates w7 (b + 1) (.slice (some ⟨bb, 0, none⟩) (gs.length + 1) cap) (gs ++ [⟨yk, ya, yb, yn⟩])) hg7 => KD.out.push_gate ho7 hg7)
                      have HBD := Lib.hid ((below_drewN ((BEL.out.trans (BLy.out.mono hs1)).mono (Nat.le_of_lt hlt0)) 1).alloc (show b ≤ wy.heap.size from Nat.le_of_lt KCy.out.box.lt) (.cells #[.int .i64 yk, .int .i64 ya, .int .i64 yb, .int .u64 yn] 133))
                      go_wp2_with fail
                      go_region_law ((refine step_push_gate rfl _ _ (by rfl) (b + 1) _ gs ⟨yk, ya, yb, yn⟩ _ 1 (by rfl) KD.out.gates (by rfl) (Box.new _ _ _) HYO.out (by omega) hB ?_; intro bb cap w7 ho7 hg7; obtain ⟨hk7, hf7, KC7, KB7⟩ := HPUSH.out bb cap w7 ho7 hg7))
                      all_goals
                        go_wp2_with fail
                        refine HP.out _ _ ⟨by rw [HR.out]; rfl, fun p hp => ?_, HBD.out.trans KB7⟩
                        rw [HR.out] at hp
                        obtain rfl := Option.some.inj hp
                        exact ⟨_, _, KC7⟩
                  · rw [if_neg hj2] at hkm
                    have hk1 : k = 2 := by omega
                    subst hk1
                    clear hkm hl
                    go_upto_block 4 with fail
                    go_cut [] from 81 to 114 (fun wx => Box wx gb 133 (genc y) ∧ Below wn.heap.size wn wx)
                    case first =>
                      by_cases hj3 : j = 3
                      · subst hj3
                        obtain ⟨n0, hn0, hn00, hn01, hg0⟩ := HNM.out 0 (by omega)
                        obtain ⟨bn, on, n0', hAn, hbn, hn0', hi0, hcz0⟩ := ints_at HNR.out HIN.out (k := 0) (by omega)
                        subst hAn
                        obtain rfl : n0 = n0' := Option.some.inj (hn0.symm.trans hn0')
                        have hz0 : wq.cell? ⟨bn, on, none⟩ = some (.int .i64 n0) := (BLq.out.cell (p := ⟨bn, on, none⟩) hbn).trans (by rw [Nat.add_zero] at hcz0; exact hcz0)
                        obtain ⟨n1, hn1, hn10, hn11, hg1⟩ := HNM.out 1 (by omega)
                        obtain ⟨bn', on', n1', hAn, _, hn1', hi1, hcz1⟩ := ints_at HNR.out HIN.out (k := 1) (by omega)
                        injection hAn with hAn
                        injection hAn with hA4 hA5
                        subst hA4 hA5
                        obtain rfl : n1 = n1' := Option.some.inj (hn1.symm.trans hn1')
                        have hz1 : wq.cell? ⟨bn, on + 1, none⟩ = some (.int .i64 n1) := (BLq.out.cell (p := ⟨bn, on + 1, none⟩) hbn).trans hcz1
                        have hf1 := BXq.out.frozen 1
                        have hc1 := BXq.out.cell (i := 1) rfl
                        have hf2 := BXq.out.frozen 2
                        have hc2 := BXq.out.cell (i := 2) rfl
                        have HY := Lib.hid (show genc y = [.int .i64 3, .int .i64 n0, .int .i64 n1, .int .u64 0] by rw [HYD.out]; simp only [gateR, hg0, hg1, genc]; simp)
                        have hbng : bn ≠ gb := by have := HGB.out; omega
                        have hbng' : gb ≠ bn := fun e => hbng e.symm
                        clear hn0 hg0 hn0' hcz0 hn1 hg1 hn1' hcz1
                        go_wp2_with fail
                        go_region
                        all_goals go_wp2_with fail
                        all_goals
                          go_meet
                          case rel => first | exact ⟨by rw [HY.out]; exact Box.drew ((BXq.out.set 1 _).set 2 _), below_drew ((BLq.out.setCell (p := ⟨gb, 1, none⟩) HGBL.out _).setCell (p := ⟨gb, 2, none⟩) HGBL.out _)⟩ | exact ⟨by rw [HY.out]; exact Box.drew ((BXq.out.set 2 _).set 1 _), below_drew ((BLq.out.setCell (p := ⟨gb, 2, none⟩) HGBL.out _).setCell (p := ⟨gb, 1, none⟩) HGBL.out _)⟩
                      by_cases hj4 : j = 4
                      · subst hj4
                        obtain ⟨n0, hn0, hn00, hn01, hg0⟩ := HNM.out 0 (by omega)
                        obtain ⟨bn, on, n0', hAn, hbn, hn0', hi0, hcz0⟩ := ints_at HNR.out HIN.out (k := 0) (by omega)
                        subst hAn
                        obtain rfl : n0 = n0' := Option.some.inj (hn0.symm.trans hn0')
                        have hz0 : wq.cell? ⟨bn, on, none⟩ = some (.int .i64 n0) := (BLq.out.cell (p := ⟨bn, on, none⟩) hbn).trans (by rw [Nat.add_zero] at hcz0; exact hcz0)
                        obtain ⟨n1, hn1, hn10, hn11, hg1⟩ := HNM.out 1 (by omega)
                        obtain ⟨bn', on', n1', hAn, _, hn1', hi1, hcz1⟩ := ints_at HNR.out HIN.out (k := 1) (by omega)
                        injection hAn with hAn
                        injection hAn with hA4 hA5
                        subst hA4 hA5
                        obtain rfl : n1 = n1' := Option.some.inj (hn1.symm.trans hn1')
                        have hz1 : wq.cell? ⟨bn, on + 1, none⟩ = some (.int .i64 n1) := (BLq.out.cell (p := ⟨bn, on + 1, none⟩) hbn).trans hcz1
                        have hf1 := BXq.out.frozen 1
                        have hc1 := BXq.out.cell (i := 1) rfl
                        have hf2 := BXq.out.frozen 2
                        have hc2 := BXq.out.cell (i := 2) rfl
                        have HY := Lib.hid (show genc y = [.int .i64 4, .int .i64 n0, .int .i64 n1, .int .u64 0] by rw [HYD.out]; simp only [gateR, hg0, hg1, genc]; simp)
                        have hbng : bn ≠ gb := by have := HGB.out; omega
                        have hbng' : gb ≠ bn := fun e => hbng e.symm
                        clear hn0 hg0 hn0' hcz0 hn1 hg1 hn1' hcz1
                        go_wp2_with fail
                        go_region
                        all_goals go_wp2_with fail
                        all_goals
                          go_meet
                          case rel => first | exact ⟨by rw [HY.out]; exact Box.drew ((BXq.out.set 1 _).set 2 _), below_drew ((BLq.out.setCell (p := ⟨gb, 1, none⟩) HGBL.out _).setCell (p := ⟨gb, 2, none⟩) HGBL.out _)⟩ | exact ⟨by rw [HY.out]; exact Box.drew ((BXq.out.set 2 _).set 1 _), below_drew ((BLq.out.setCell (p := ⟨gb, 2, none⟩) HGBL.out _).setCell (p := ⟨gb, 1, none⟩) HGBL.out _)⟩
                      by_cases hj5 : j = 5
                      · subst hj5
                        obtain ⟨n0, hn0, hn00, hn01, hg0⟩ := HNM.out 0 (by omega)
                        obtain ⟨bn, on, n0', hAn, hbn, hn0', hi0, hcz0⟩ := ints_at HNR.out HIN.out (k := 0) (by omega)
                        subst hAn
                        obtain rfl : n0 = n0' := Option.some.inj (hn0.symm.trans hn0')
                        have hz0 : wq.cell? ⟨bn, on, none⟩ = some (.int .i64 n0) := (BLq.out.cell (p := ⟨bn, on, none⟩) hbn).trans (by rw [Nat.add_zero] at hcz0; exact hcz0)
                        obtain ⟨n1, hn1, hn10, hn11, hg1⟩ := HNM.out 1 (by omega)
                        obtain ⟨bn', on', n1', hAn, _, hn1', hi1, hcz1⟩ := ints_at HNR.out HIN.out (k := 1) (by omega)
                        injection hAn with hAn
                        injection hAn with hA4 hA5
                        subst hA4 hA5
                        obtain rfl : n1 = n1' := Option.some.inj (hn1.symm.trans hn1')
                        have hz1 : wq.cell? ⟨bn, on + 1, none⟩ = some (.int .i64 n1) := (BLq.out.cell (p := ⟨bn, on + 1, none⟩) hbn).trans hcz1
                        have hf1 := BXq.out.frozen 1
                        have hc1 := BXq.out.cell (i := 1) rfl
                        have hf2 := BXq.out.frozen 2
                        have hc2 := BXq.out.cell (i := 2) rfl
                        have HY := Lib.hid (show genc y = [.int .i64 5, .int .i64 n0, .int .i64 n1, .int .u64 0] by rw [HYD.out]; simp only [gateR, hg0, hg1, genc]; simp)
                        have hbng : bn ≠ gb := by have := HGB.out; omega
                        have hbng' : gb ≠ bn := fun e => hbng e.symm
                        clear hn0 hg0 hn0' hcz0 hn1 hg1 hn1' hcz1
                        go_wp2_with fail
                        go_region
                        all_goals go_wp2_with fail
                        all_goals
                          go_meet
                          case rel => first | exact ⟨by rw [HY.out]; exact Box.drew ((BXq.out.set 1 _).set 2 _), below_drew ((BLq.out.setCell (p := ⟨gb, 1, none⟩) HGBL.out _).setCell (p := ⟨gb, 2, none⟩) HGBL.out _)⟩ | exact ⟨by rw [HY.out]; exact Box.drew ((BXq.out.set 2 _).set 1 _), below_drew ((BLq.out.setCell (p := ⟨gb, 2, none⟩) HGBL.out _).setCell (p := ⟨gb, 1, none⟩) HGBL.out _)⟩
                      by_cases hj6 : j = 6
                      · subst hj6
                        obtain ⟨n0, hn0, hn00, hn01, hg0⟩ := HNM.out 0 (by omega)
                        obtain ⟨bn, on, n0', hAn, hbn, hn0', hi0, hcz0⟩ := ints_at HNR.out HIN.out (k := 0) (by omega)
                        subst hAn
                        obtain rfl : n0 = n0' := Option.some.inj (hn0.symm.trans hn0')
                        have hz0 : wq.cell? ⟨bn, on, none⟩ = some (.int .i64 n0) := (BLq.out.cell (p := ⟨bn, on, none⟩) hbn).trans (by rw [Nat.add_zero] at hcz0; exact hcz0)
                        obtain ⟨n1, hn1, hn10, hn11, hg1⟩ := HNM.out 1 (by omega)
                        obtain ⟨bn', on', n1', hAn, _, hn1', hi1, hcz1⟩ := ints_at HNR.out HIN.out (k := 1) (by omega)
                        injection hAn with hAn
                        injection hAn with hA4 hA5
                        subst hA4 hA5
                        obtain rfl : n1 = n1' := Option.some.inj (hn1.symm.trans hn1')
                        have hz1 : wq.cell? ⟨bn, on + 1, none⟩ = some (.int .i64 n1) := (BLq.out.cell (p := ⟨bn, on + 1, none⟩) hbn).trans hcz1
                        have hf1 := BXq.out.frozen 1
                        have hc1 := BXq.out.cell (i := 1) rfl
                        have hf3 := BXq.out.frozen 3
                        have hc3 := BXq.out.cell (i := 3) rfl
                        have HY := Lib.hid (show genc y = [.int .i64 6, .int .i64 n0, .int .i64 0, .int .u64 n1] by rw [HYD.out]; simp only [gateR, hg0, hg1, genc]; simp)
                        have hbng : bn ≠ gb := by have := HGB.out; omega
                        have hbng' : gb ≠ bn := fun e => hbng e.symm
                        clear hn0 hg0 hn0' hcz0 hn1 hg1 hn1' hcz1
                        go_wp2_with fail
                        go_region
                        all_goals go_wp2_with fail
                        all_goals
                          go_meet
                          case rel => first | exact ⟨by rw [HY.out]; exact Box.drew ((BXq.out.set 1 _).set 3 _), below_drew ((BLq.out.setCell (p := ⟨gb, 1, none⟩) HGBL.out _).setCell (p := ⟨gb, 3, none⟩) HGBL.out _)⟩ | exact ⟨by rw [HY.out]; exact Box.drew ((BXq.out.set 3 _).set 1 _), below_drew ((BLq.out.setCell (p := ⟨gb, 3, none⟩) HGBL.out _).setCell (p := ⟨gb, 1, none⟩) HGBL.out _)⟩
                      omega
                    case rest =>
                      obtain ⟨hbx, hbl⟩ := hcut
                      have HYO := Lib.hid (show GateOk y from gateR_ok HYD.out HNM.out hj1 hj6 (HHL.out))
                      obtain ⟨yk, ya, yb, yn⟩ := y
                      rename World => wy
                      have BXy := Lib.hid hbx
                      have BLy := Lib.hid hbl
                      have KCy := Lib.hid (KC2.out.below BLy.out)
                      have hy0 := KCy.out.box.cell (i := 0) rfl
                      have hg0 := BXy.out.cell (i := 0) rfl
                      have hg1 := BXy.out.cell (i := 1) rfl
                      have hg2 := BXy.out.cell (i := 2) rfl
                      have hg3 := BXy.out.cell (i := 3) rfl
                      clear hbx hbl
                      have KD := Lib.hid ((KCy.out.drewN 1).alloc (.cells #[.int .i64 yk, .int .i64 ya, .int .i64 yb, .int .u64 yn] 133))
                      have hB : b + 1 ≤ ((wy.drewN 1).alloc (.cells #[.int .i64 yk, .int .i64 ya, .int .i64 yb, .int .u64 yn] 133)).heap.size := by rw [size_alloc]; have := KCy.out.box.lt; show b + 1 ≤ wy.heap.size + 1; omega
                      have hca := (KCy.out.alloc (.cells #[.int .i64 yk, .int .i64 ya, .int .i64 yb, .int .u64 yn] 133)).box.cell (i := 0) rfl
                      have HPUSH := Lib.hid (fun (bb cap : Nat) (w7 : World) (ho7 : OwnGates w7 (b + 1) (.slice (some ⟨bb, 0, none⟩) (gs.length + 1) cap) (gs ++ [⟨yk, ya, yb, yn⟩])) hg7 => KD.out.push_gate ho7 hg7)
                      have HBD := Lib.hid ((below_drewN ((BEL.out.trans (BLy.out.mono hs1)).mono (Nat.le_of_lt hlt0)) 1).alloc (show b ≤ wy.heap.size from Nat.le_of_lt KCy.out.box.lt) (.cells #[.int .i64 yk, .int .i64 ya, .int .i64 yb, .int .u64 yn] 133))
                      go_wp2_with fail
                      go_region_law ((refine step_push_gate rfl _ _ (by rfl) (b + 1) _ gs ⟨yk, ya, yb, yn⟩ _ 1 (by rfl) KD.out.gates (by rfl) (Box.new _ _ _) HYO.out (by omega) hB ?_; intro bb cap w7 ho7 hg7; obtain ⟨hk7, hf7, KC7, KB7⟩ := HPUSH.out bb cap w7 ho7 hg7))
                      all_goals
                        go_wp2_with fail
                        refine HP.out _ _ ⟨by rw [HR.out]; rfl, fun p hp => ?_, HBD.out.trans KB7⟩
                        rw [HR.out] at hp
                        obtain rfl := Option.some.inj hp
                        exact ⟨_, _, KC7⟩
                · have HR := Lib.hid (show readR gs os w0 ws = none by rw [HG.out, HK.out, if_neg (fun q => hl (by rw [HN.out]; exact q.2.2))])
                  have HE := Lib.hid (HEND.out HR.out)
                  by_cases hj2 : (j : Int) ≤ 2
                  · rw [if_pos hj2] at hl
                    have hbk : ((k : Int) != 1) = true := by rw [bne_iff_ne]; exact hl
                    go_wp2_with fail
                    exact HE.out
                  · rw [if_neg hj2] at hl
                    have hbk : ((k : Int) != 2) = true := by rw [bne_iff_ne]; exact hl
                    go_wp2_with fail
                    exact HE.out
              · have HR := Lib.hid (show readR gs os w0 ws = none by rw [HG.out, HK.out, if_neg (fun q => ho q.2.1)])
                have HE := Lib.hid (HEND.out HR.out)
                have hbo1 : decide ((0 : Int) < (os.length : Int)) = true := by rw [decide_eq_true_iff]; omega
                go_wp2_with fail
                exact HE.out
            · have hbq : (sj.toList == s0.toList) = false := by rw [HSJ.out, HS0.out, bs_toList, bs_toList, beq_eq_false_iff_ne]; exact fun e => hm e.symm
              have HK := Lib.hid (show ((j + 1 : Nat) : Int) ≤ wordK w0 by
                by_cases q : wordK w0 = j
                · exact absurd (wordK_is q (by omega)) hm
                · have := HJK.out; omega)
              clear hm
              go_wp2_with fail
              go_quiet ((exact quietL (CW.out _)))
              have BXq := Lib.hid (BX.out.drewN nq)
              have BLq := Lib.hid (below_drewN BL.out nq)
              have HGBL := Lib.hid (show wn.heap.size ≤ gb by have := HGB.out; omega)
              have HM := Lib.hid (show (intOf ((wr.cell? ⟨gb, 0, none⟩).getD (.int .i64 0))).toNat = j by rw [hk0]; simp [intOf])
              have HGBX := Lib.hid (show gb = wn.heap.size from HGB.out)
              have HMI := Lib.hid hj6
              go_wp2_with fail
              have hbx2 : Box ((wr.drewN nq).setCell ⟨gb, 0, none⟩ (.int .i64 ((j : Int) + 1))) gb 133 [.int .i64 ((j + 1 : Nat) : Int), .int .i64 0, .int .i64 0, .int .u64 0] := BXq.out.set 0 _
              refine ⟨⟨j + 1, by omega, HK.out, hbx2, ?_⟩, ?_⟩
              · rw [HGBX.out]; exact BLq.out.setCell (p := ⟨wn.heap.size, 0, none⟩) (Nat.le_refl _) _
              · rw [HM.out, hbx2.cell (i := 0) rfl]
                have := HMI.out
                simp [intOf]; omega
          · have hj : j = 7 := by omega
            subst hj
            have HR := Lib.hid (show readR gs os w0 ws = none by rw [HG.out, if_neg (fun q => by have := HJK.out; omega)])
            go_wp2_with fail
            go_quiet (fail)
            have HE := Lib.hid (HP.out (.returned (.bool false)) (wr.drewN nq) ⟨by rw [HR.out]; rfl, fun p hp => (by rw [HR.out] at hp; cases hp), below_drewN ((BEL.out.trans (BL.out.mono hs1)).mono (Nat.le_of_lt hlt0)) nq⟩)
            go_wp2_with fail
            exact HE.out
end Go.Proofs.YtploomncapiloaaGreatDoor
