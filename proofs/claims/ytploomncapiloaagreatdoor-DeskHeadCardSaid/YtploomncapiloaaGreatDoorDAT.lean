/- Parts of the proof, put together by a program: SolT. No condition. -/
import Derived.Test.YtploomncapiloaaGreatDoorDAS
namespace Go.Proofs.YtploomncapiloaaGreatDoor
open Go.RowKit Croft
def lenP (vars : Int) (r : List Int) : Bool := ((r.length : Int) != vars + 1)
def solE (rows : List (List Int)) (vars : Int) : Int := if 1 ≤ vars ∧ vars ≤ 20 then if (rows.length : Int) > 20 then 2 else if rows.any (lenP vars) = true then 5 else 0 else 1
theorem lenP_any (x : Value) (r : List Int) (vars : Int) (b : Nat) (w : World) (h1 : IsNums w x r) (hb : w.cell? ⟨b, 0, none⟩ = some (.int .i64 vars)) (hv : 1 ≤ vars ∧ vars ≤ 20) :
    Calls Tryz.prog 222 #[x, .pointer (some ⟨b, 0, none⟩)] w fun e w' => e = .returned (.bool (lenP vars r)) ∧ w = w' := by
  obtain ⟨A1, c1, rfl, hc1, hm1, hl1, hu1, hr1⟩ := h1
  obtain ⟨hv1, hv2⟩ := hv
  have HL := Lib.hid (show lenP vars r = ((r.length : Int) != vars + 1) from rfl)
  clear hu1 hr1 hm1
  go_enter Tryz.func222, Tryz.ntmps222
  go_wp2_with fail
  go_ret
  exact ⟨by rw [HL.out]; rfl, rfl⟩
theorem idxRows_any (vars : Int) (b : Nat) (va : Value) (rows : List (List Int)) (w : World) (h1 : IsNumss w va rows) (hb : w.cell? ⟨b, 0, none⟩ = some (.int .i64 vars)) (hv : 1 ≤ vars ∧ vars ≤ 20) :
    Calls Tryz.prog 225 #[va, .func (.func 222) #[] #[.pointer (some ⟨b, 0, none⟩)]] w fun e w' => ∃ r : Int, e = .returned (.int .i64 r) ∧ ((0 ≤ r) ↔ rows.any (lenP vars) = true) ∧ w = w' := by
  have hcf : ∀ (x y : Value) (W : World), (callFunc 222 #[x, y]).run Tryz.prog W = .ok (.enter 222 #[x, y]) W := fun x y W => by kernel_rfl
  obtain ⟨A1, c1, vs, rfl, hc1, hm1, hl1, hr1, ha1⟩ := h1
  have HR := Lib.hid hr1
  have HA := Lib.hid ha1
  have HB := Lib.hid hb
  have HV := Lib.hid hv
  clear hr1 ha1 hm1 hb hv
  go_enter Tryz.func225, Tryz.ntmps225
  go_wp2_with fail
  go_loop [8] (fun i => ∃ k : Nat, k ≤ rows.length ∧ i = .int .i64 k ∧ (rows.take k).any (lenP vars) = false) (fun i => rows.length - (intOf i).toNat)
  case atStart => exact ⟨0, Nat.zero_le _, rfl, by simp⟩
  case round =>
    obtain ⟨k, hk, rfl, hno⟩ := hrel
    have HN := Lib.hid hno
    clear hno
    by_cases hlt : k < rows.length
    · obtain ⟨b1, o1, x, r, rfl, hb1, hx, hgr, hn, hc⟩ := numss_at HR.out HA.out hlt
      have HZ := Lib.hid hgr
      have HX := Lib.hid hn
      clear hgr hx hb1 hn
      cases hp : lenP vars r with
      | true =>
        have HP := Lib.hid hp
        clear hp
        go_wp2_with fail
        refine (lenP_any _ r vars b _ HX.out HB.out HV.out).mono ?_
        rintro e w' ⟨rfl, rfl⟩
        rw [HP.out]
        try dsimp only
        go_wp2_with fail
        go_ret
        refine ⟨_, rfl, ⟨fun _ => ?_, fun _ => by omega⟩, rfl⟩
        rw [List.any_eq_true]
        exact ⟨r, List.mem_of_getElem? HZ.out, HP.out⟩
      | false =>
        have HP := Lib.hid hp
        clear hp
        go_wp2_with fail
        refine (lenP_any _ r vars b _ HX.out HB.out HV.out).mono ?_
        rintro e w' ⟨rfl, rfl⟩
        rw [HP.out]
        try dsimp only
        go_wp2_with fail
        refine ⟨⟨k + 1, by omega, by go_num, ?_⟩, by simp [intOf] <;> omega⟩
        rw [List.take_add_one, HZ.out, List.any_append, HN.out]
        simp [HP.out]
    · obtain rfl : k = rows.length := by omega
      go_wp2_with fail
      go_ret
      refine ⟨_, rfl, ⟨fun h => by omega, fun h => ?_⟩, rfl⟩
      have := HN.out
      rw [List.take_length] at this
      have h' : rows.any (lenP vars) = true := by first | exact h | exact List.any_eq_true.2 h
      rw [h'] at this
      cases this
theorem hasRows_any (vars : Int) (b : Nat) (va : Value) (rows : List (List Int)) (w : World) (h1 : IsNumss w va rows) (hb : w.cell? ⟨b, 0, none⟩ = some (.int .i64 vars)) (hv : 1 ≤ vars ∧ vars ≤ 20) :
    Calls Tryz.prog 221 #[va, .func (.func 222) #[] #[.pointer (some ⟨b, 0, none⟩)]] w fun e w' => e = .returned (.bool (rows.any (lenP vars))) ∧ w = w' := by
  have C := Lib.hid (idxRows_any vars b va rows w h1 hb hv)
  clear h1 hb hv
  go_enter Tryz.func221, Tryz.ntmps221
  go_wp2_with fail
  refine C.out.mono ?_
  rintro e w' ⟨r, rfl, hr, rfl⟩
  cases ha : rows.any (lenP vars) with
  | true =>
    have h0 : r ≥ 0 := hr.2 ha
    have HA := Lib.hid ha
    clear hr ha
    try dsimp only
    go_wp2_with fail
    go_ret
    exact ⟨by rw [HA.out]; rfl, rfl⟩
  | false =>
    have h0 : ¬ r ≥ 0 := fun h => by have := hr.1 h; rw [ha] at this; cases this
    have HA := Lib.hid ha
    clear hr ha
    try dsimp only
    go_wp2_with fail
    go_ret
    exact ⟨by rw [HA.out]; rfl, rfl⟩
theorem sSolCheck_any (va : Value) (rows : List (List Int)) (vars : Int) (w : World) (h1 : IsNumss w va rows) :
    Calls Tryz.prog 213 #[va, .int .i64 vars] w fun e w' => e = .returned (.int .i64 (solE rows vars)) ∧ Below w.heap.size w w' := by
  have KA := Lib.hid h1
  obtain ⟨A1, c1, vs, rfl, hc1, hm1, hl1, hr1, ha1⟩ := h1
  have hb := (Below.refl w.heap.size w).alloc (Nat.le_refl _) (.cells #[.int .i64 vars] 3)
  have BEL := Lib.hid hb
  have KA1 := Lib.hid (KA.out.below hb)
  have HB := Lib.hid (new_cell w (.int .i64 vars) 3)
  clear hr1 ha1 hm1 hb
  by_cases hv : 1 ≤ vars ∧ vars ≤ 20
  · have HV := Lib.hid hv
    obtain ⟨hv1, hv2⟩ := hv
    have hd1 : decide (vars < 1) = false := by simp; omega
    have hd2 : decide (vars > 20) = false := by simp; omega
    by_cases hl : (rows.length : Int) > 20
    · have HE := Lib.hid (show solE rows vars = 2 by unfold solE; rw [if_pos HV.out, if_pos hl])
      go_enter Tryz.func213, Tryz.ntmps213
      go_wp2_with fail
      go_ret
      exact ⟨by rw [HE.out]; rfl, BEL.out⟩
    · have hd3 : decide ((rows.length : Int) > 20) = false := by simpa using hl
      cases ha : rows.any (lenP vars) with
      | true =>
        have HE := Lib.hid (show solE rows vars = 5 by unfold solE; rw [if_pos HV.out, if_neg hl, if_pos ha])
        have HA := Lib.hid ha
        clear hl ha
        go_enter Tryz.func213, Tryz.ntmps213
        go_wp2_with fail
        refine (hasRows_any vars w.heap.size _ rows _ KA1.out HB.out HV.out).mono ?_
        rintro e w' ⟨rfl, rfl⟩
        rw [HA.out]
        try dsimp only
        go_wp2_with fail
        go_ret
        exact ⟨by rw [HE.out]; rfl, BEL.out⟩
      | false =>
        have HE := Lib.hid (show solE rows vars = 0 by unfold solE; rw [if_pos HV.out, if_neg hl, if_neg (by rw [ha]; simp)])
        have HA := Lib.hid ha
        clear hl ha
        go_enter Tryz.func213, Tryz.ntmps213
        go_wp2_with fail
        refine (hasRows_any vars w.heap.size _ rows _ KA1.out HB.out HV.out).mono ?_
        rintro e w' ⟨rfl, rfl⟩
        rw [HA.out]
        try dsimp only
        go_wp2_with fail
        go_ret
        exact ⟨by rw [HE.out]; rfl, BEL.out⟩
  · have HE := Lib.hid (show solE rows vars = 1 by unfold solE; rw [if_neg hv])
    by_cases h1 : vars < 1
    · clear hv
      go_enter Tryz.func213, Tryz.ntmps213
      go_wp2_with fail
      go_ret
      exact ⟨by rw [HE.out]; rfl, BEL.out⟩
    · have h2 : vars > 20 := by omega
      have hd1 : decide (vars < 1) = false := by simpa using h1
      clear hv
      go_enter Tryz.func213, Tryz.ntmps213
      go_wp2_with fail
      go_ret
      exact ⟨by rw [HE.out]; rfl, BEL.out⟩
def sw (a k i : Nat) : Nat := if i = k then a else if i = a then k else i
theorem sw_inj {a k i j : Nat} (h : sw a k i = sw a k j) : i = j := by unfold sw at h; split at h <;> split at h <;> (try split at h) <;> (try split at h) <;> omega
theorem swap_get {α : Type} {l : List α} {a k : Nat} {x y : α} (hx : l[a]? = some x) (hy : l[k]? = some y) (i : Nat) : ((l.set a y).set k x)[i]? = l[sw a k i]? := by
  have hk := (List.getElem?_eq_some_iff.1 hy).1
  have ha := (List.getElem?_eq_some_iff.1 hx).1
  unfold sw
  by_cases h1 : i = k
  · subst h1
    rw [if_pos rfl, List.getElem?_set_self (by rw [List.length_set]; exact hk), hx]
  · rw [if_neg h1, List.getElem?_set_ne (Ne.symm h1)]
    by_cases h2 : i = a
    · subst h2
      rw [if_pos rfl, List.getElem?_set_self ha, hy]
    · rw [if_neg h2, List.getElem?_set_ne (Ne.symm h2)]
theorem Grid.swap {w : World} {base g n c a k : Nat} {vs : List Value} {rows : List (List Int)} {x y : Value} {ra rk : List Int} (h : Grid w base (.slice (some ⟨g, 0, none⟩) n c) vs rows)
    (hx : vs[a]? = some x) (hy : vs[k]? = some y) (hra : rows[a]? = some ra) (hrk : rows[k]? = some rk) :
    Grid ((w.setCell ⟨g, a, none⟩ y).setCell ⟨g, k, none⟩ x) base (.slice (some ⟨g, 0, none⟩) n c) ((vs.set a y).set k x) ((rows.set a rk).set k ra) := by
  have hn : n = rows.length := by
    rcases h.outer.2 with ⟨hv, _⟩ | ⟨g', cap, cur, hv, _⟩
    · simp at hv
    · injection hv
  subst hn
  have hg1 := set_grown w g a y
  have hg2 := set_grown (w.setCell ⟨g, a, none⟩ y) g k x
  refine ⟨?_, by simpa using h.len, fun i u r hu hr => ?_, fun i j u v b hu hv hub hvb => ?_⟩
  · rw [List.length_set, List.length_set]
    exact ((h.outer.stored a y).1.stored k x).1
  · rw [swap_get hx hy] at hu
    rw [swap_get hra hrk] at hr
    have ho := h.row _ u r hu hr
    have hne : u.ownBlock ≠ some g := fun hb => kinds_apart ho.1 h.outer (by decide) hb rfl
    exact (ho.kept hg1 (.inr hne)).kept hg2 (.inr hne)
  · rw [swap_get hx hy] at hu hv
    exact sw_inj (h.apart _ _ u v b hu hv hub hvb)
def mx (rows : List (List Int)) : Mx := fun r c => co (toFs (rows.getD r [])) c
theorem mx_get {rows : List (List Int)} {i : Nat} {r : List Int} (h : rows[i]? = some r) (c : Nat) : mx rows i c = co (toFs r) c := by unfold mx; simp [List.getD, h]
theorem mx_swap {rows : List (List Int)} {a k : Nat} {ra rk : List Int} (hra : rows[a]? = some ra) (hrk : rows[k]? = some rk) : mx ((rows.set a rk).set k ra) = swapM (mx rows) a k := by
  funext r c
  have h : ((rows.set a rk).set k ra).getD r [] = rows.getD (sw a k r) [] := by
    simp only [List.getD, swap_get hra hrk]
  unfold mx swapM
  rw [h]
  unfold sw
  by_cases h1 : r = k
  · subst h1
    rw [if_pos rfl]
    by_cases h2 : r = a
    · subst h2; rw [if_pos rfl]
    · rw [if_neg h2, if_pos rfl]
  · rw [if_neg h1]
    by_cases h2 : r = a
    · rw [if_pos h2, if_pos h2]
    · rw [if_neg h2, if_neg h2, if_neg h1]
def sclL (r : List Int) (s : F) : List Int := r.map fun u => ofF (toF u * s)
theorem sclL_length (r : List Int) (s : F) : (sclL r s).length = r.length := by simp [sclL]
theorem sclL_get {r : List Int} {j : Nat} {u : Int} (s : F) (h : r[j]? = some u) : (sclL r s)[j]? = some (ofF (toF u * s)) := by simp [sclL, h]
theorem co_sclL (r : List Int) (s : F) (c : Nat) : co (toFs (sclL r s)) c = co (toFs r) c * s := by
  rcases Nat.lt_or_ge c r.length with h | h
  · have hu : r[c]? = some r[c] := List.getElem?_eq_getElem h
    rw [co_toFs (sclL_get s hu), co_toFs hu, toF_ofF]
  · rw [co_of_le (by rw [toFs_length, sclL_length]; exact h), co_of_le (by rw [toFs_length]; exact h), F_zm]
theorem mx_set {rows : List (List Int)} {a : Nat} {q : List Int} (ha : a < rows.length) (r c : Nat) : mx (rows.set a q) r c = if r = a then co (toFs q) c else mx rows r c := by
  unfold mx
  by_cases h : r = a
  · subst h
    rw [if_pos rfl]
    simp [List.getD, ha]
  · rw [if_neg h]
    simp only [List.getD, List.getElem?_set_ne (Ne.symm h)]
theorem mx_scale {rows : List (List Int)} {a : Nat} {ra : List Int} (h : rows[a]? = some ra) (s : F) : mx (rows.set a (sclL ra s)) = scaleM (mx rows) a s := by
  funext r c
  rw [mx_set (List.getElem?_eq_some_iff.1 h).1]
  unfold scaleM
  by_cases h1 : r = a
  · subst h1
    rw [if_pos rfl, if_pos rfl, co_sclL, mx_get h]
  · rw [if_neg h1, if_neg h1]
theorem co_clrL {r b : List Int} (h : r.length = b.length) (t : Int) (c : Nat) : co (toFs (clrL r b t)) c = co (toFs r) c - toF t * co (toFs b) c := by
  rcases Nat.lt_or_ge c r.length with hc | hc
  · have hu : r[c]? = some r[c] := List.getElem?_eq_getElem hc
    have hv : b[c]? = some (b[c]'(by omega)) := List.getElem?_eq_getElem (by omega)
    rw [co_toFs (clrL_get t hu hv), co_toFs hu, co_toFs hv, toF_ofF]
  · rw [co_of_le (by rw [toFs_length, clrL_length t h]; exact hc), co_of_le (by rw [toFs_length]; exact hc), co_of_le (by rw [toFs_length]; omega), F_mz, F_sz]
theorem mx_clear {rows : List (List Int)} {S : Mx} {a col n : Nat} {r b : List Int} {t : Int} (hS : mx rows = clearM S a col n) (hn : rows[n]? = some r) (ha : rows[a]? = some b) (hna : n ≠ a) (hl : r.length = b.length) (ht : r[col]? = some t) : mx (rows.set n (clrL r b t)) = clearM S a col (n + 1) := by
  have hr : ∀ c, co (toFs r) c = S n c := fun c => by
    rw [← mx_get hn, hS]; unfold clearM; rw [if_neg (by omega)]
  have hb : ∀ c, co (toFs b) c = S a c := fun c => by
    rw [← mx_get ha, hS]; unfold clearM; rw [if_neg (by omega)]
  have htc : toF t = S n col := by rw [← hr, co_toFs ht]
  funext i c
  rw [mx_set (List.getElem?_eq_some_iff.1 hn).1]
  by_cases h : i = n
  · subst h
    rw [if_pos rfl, co_clrL hl, hr, hb, htc]
    unfold clearM
    rw [if_pos ⟨by omega, hna⟩]
  · rw [if_neg h, hS]
    unfold clearM
    by_cases h2 : i < n ∧ i ≠ a
    · rw [if_pos h2, if_pos ⟨by omega, h2.2⟩]
    · rw [if_neg h2, if_neg (by omega)]
theorem clearM_skip (S : Mx) (a col : Nat) : clearM S a col (a + 1) = clearM S a col a := by
  funext r c
  unfold clearM
  by_cases h : r < a ∧ r ≠ a
  · rw [if_pos h, if_pos (by omega)]
  · rw [if_neg h, if_neg (by omega)]
theorem clearM_start (S : Mx) (a col : Nat) : clearM S a col 0 = S := by
  funext r c
  unfold clearM
  rw [if_neg (by omega)]
def nats (ls : List Nat) : List Int := ls.map fun (n : Nat) => (n : Int)
theorem nats_length (ls : List Nat) : (nats ls).length = ls.length := by simp [nats]
def NormRows (rows : List (List Int)) (n : Nat) : Prop := ∀ q, q < n → ∃ l, rows[q]? = some (ofFs l)
theorem clrL_ofFs (r b : List Int) (t : Int) : clrL r b t = ofFs (List.zipWith (fun u v => toF u - toF t * toF v) r b) := by
  unfold clrL ofFs
  rw [List.map_zipWith]
theorem sclL_ofFs (r : List Int) (x : F) : sclL r x = ofFs (r.map fun u => toF u * x) := by simp [sclL, ofFs]
theorem NormRows.set {rows : List (List Int)} {n i : Nat} {l : List F} (h : NormRows rows n) : NormRows (rows.set i (ofFs l)) n := fun q hq => by
  obtain ⟨l2, h2⟩ := h q hq
  by_cases hqi : q = i
  · subst hqi; exact ⟨l, List.getElem?_set_self (List.getElem?_eq_some_iff.1 h2).1⟩
  · exact ⟨l2, by rw [List.getElem?_set_ne (Ne.symm hqi)]; exact h2⟩
theorem NormRows.far {rows : List (List Int)} {n i : Nat} {r : List Int} (h : NormRows rows n) (hi : n ≤ i) : NormRows (rows.set i r) n := fun q hq => by
  obtain ⟨l2, h2⟩ := h q hq
  exact ⟨l2, by rw [List.getElem?_set_ne (by omega)]; exact h2⟩
def RedRes (w : World) (e : Ending) (w' : World) (rows0 : List (List Int)) (v m : Nat) : Prop :=
  ∃ vm vl vs rows ls, e = .returned (.tuple #[vm, vl]) ∧ Grid w' w.heap.size vm vs rows ∧ OwnInts w' w.heap.size vl (nats ls) ∧ rows.length = m ∧ (∀ r ∈ rows, r.length = v + 1) ∧ Red (mx rows0) (mx rows) m (v + 1) v ls ∧ NormRows rows ls.length ∧ Below w.heap.size w w'
set_option maxRecDepth 100000 in
set_option maxHeartbeats 4000000 in
theorem reduced_ok (va : Value) (rows0 : List (List Int)) (v m : Nat) (w : World) (h1 : IsNumss w va rows0) (hm : rows0.length = m) (hm20 : m ≤ 20) (hv1 : 1 ≤ v) (hv20 : v ≤ 20) (hlen : ∀ r ∈ rows0, r.length = v + 1) :
    Calls Tryz.prog 214 #[va, .int .i64 v] w fun e w' => RedRes w e w' rows0 v m := by
  have KA := Lib.hid h1
  have HM := Lib.hid hm
  have HLEN := Lib.hid hlen
  suffices hgoal : ∀ Post : Ending → World → Prop, (∀ e w', RedRes w e w' rows0 v m → Post e w') → Calls Tryz.prog 214 #[va, .int .i64 v] w Post from hgoal _ fun e w' h => h
  intro Post hpo
  have HPO := Lib.hid hpo
  obtain ⟨A1, c1, vs0, rfl, hc1, hm1, hl1, hr1, ha1⟩ := h1
  rw [hm] at KA hc1 hl1 ⊢
  clear hr1 ha1 hm1 hpo hlen hm
  go_enter Tryz.func214, Tryz.ntmps214
  go_wp2_with fail
  go_loopw [6, 19] (fun u i wr => ∃ (k : Nat) (vs : List Value), k ≤ m ∧ i = .int .i64 k ∧ Grid wr w.heap.size u vs (rows0.take k) ∧ Below w.heap.size w wr) (fun _ i _ => m - (intOf i).toNat)
  case atStart => exact ⟨0, [], Nat.zero_le _, rfl, Grid.nil _ _, Below.refl _ _⟩
  case round =>
    obtain ⟨k, vs, hk, rfl, hgr, hbel⟩ := hrel
    have KG := Lib.hid hgr
    have BEL := Lib.hid hbel
    have hsz := hbel.size
    clear hgr hbel
    by_cases hlt : k < m
    · obtain ⟨A, c, vs1, hA, _, _, _, hr, ha⟩ := KA.out.below BEL.out
      rw [HM.out] at hA
      injection hA with hA1 hA2 hA3
      subst hA1 hA3
      clear hA2
      obtain ⟨b1, o1, x, r, rfl, hb1, hx, hgk, hn, hc⟩ := numss_at hr ha (k := k) (by rw [HM.out]; exact hlt)
      have HR := Lib.hid hn
      have HRL := Lib.hid (HLEN.out r (List.mem_of_getElem? hgk))
      have HT := Lib.hid (show rows0.take (k + 1) = rows0.take k ++ [r] by rw [List.take_add_one, hgk]; rfl)
      have HTL := Lib.hid (show (rows0.take k).length ≤ 20 by rw [List.length_take]; omega)
      clear hr ha hb1 hx hgk hn
      go_wp2_with fail
      refine (nClone_any _ r _ HR.out (by rw [HRL.out]; omega)).mono ?_
      rintro e W5 ⟨y, rfl, ho, hb⟩
      obtain ⟨gy, cy, hvy, _, _⟩ := ho.1.form (by rw [HRL.out]; omega)
      subst hvy
      have KY := Lib.hid (ho.less hsz)
      have HFAR := Lib.hid (show ∀ (q : Nat) (z : Value) (b : Nat), vs[q]? = some z → z.ownBlock = some b → (Value.slice (some ⟨gy, 0, none⟩) r.length cy).ownBlock ≠ some b from fun q z b hz hzb hyb => by
        have h1 := (ho.1.lt b hyb).1
        have hq := (List.getElem?_eq_some_iff.1 hz).1
        rw [KG.out.vlen] at hq
        have h2 := ((KG.out.row q z _ hz (List.getElem?_eq_getElem hq)).1.lt b hzb).2
        omega)
      have KG5 := Lib.hid (KG.out.below hb)
      have B5 := Lib.hid (below_trans BEL.out hb hsz)
      have hsz5 := B5.out.size
      clear ho hb hc
      try dsimp only
      go_wp2_with (at_builtin; go_loud (refine wpList_push_row rfl _ _ rfl w.heap.size _ vs (rows0.take k) (.slice (some ⟨gy, 0, none⟩) r.length cy) r W5.heap.size 1 rfl (KG5.out.alloc _) rfl (new_cell _ _ _) (KY.out.alloc _) HFAR.out (by have := HTL.out; omega) (by rw [size_alloc]; omega) ?_))
      intro v' w6 hown' hbel'
      rw [← HT.out] at hown'
      have K6 := Lib.hid hown'
      have B6 := Lib.hid ((B5.out.alloc hsz5 (.cells #[.slice (some ⟨gy, 0, none⟩) r.length cy] 64)).trans hbel')
      clear hown' hbel'
      go_wp2_with fail
      exact ⟨⟨k + 1, _, by omega, by go_num, K6.out, B6.out⟩, by simp [intOf] <;> omega⟩
    · obtain rfl : m = k := by omega
      have HTE := Lib.hid (show rows0.take m = rows0 from List.take_of_length_le (by rw [HM.out]; exact Nat.le_refl _))
      rw [HTE.out] at KG
      obtain ⟨Am, cm, hvm, hcm, _⟩ := own_form KG.out.outer
      rw [HM.out] at hvm hcm
      subst hvm
      go_wp2_with fail
      go_loopw [9, 10] (fun u i wq => ∃ (col : Nat) (vs : List Value) (rows : List (List Int)) (ls : List Nat), col ≤ v ∧ i = .int .i64 col ∧ Grid wq w.heap.size (.slice Am m cm) vs rows ∧ rows.length = m ∧ (∀ r ∈ rows, r.length = v + 1) ∧ OwnInts wq w.heap.size u (nats ls) ∧ Red (mx rows0) (mx rows) m (v + 1) col ls ∧ NormRows rows ls.length ∧ Below w.heap.size w wq) (fun _ i _ => v - (intOf i).toNat)
      case atStart => exact ⟨0, vs, rows0, [], Nat.zero_le _, rfl, KG.out, HM.out, HLEN.out, OwnInts.nil _ _, Red.start _ _ _, (fun q hq => by simp at hq), BEL.out⟩
      case round =>
        obtain ⟨col, vs, rows, ls, hcol, rfl, hgr, hrm, hrl, hls, hred, hnr, hbel⟩ := hrel
        have HNR := Lib.hid hnr
        clear hnr
        clear KG BEL hsz
        have KG := Lib.hid hgr
        have HRM := Lib.hid hrm
        have HRL := Lib.hid hrl
        have KL := Lib.hid hls
        have RED := Lib.hid hred
        have BEL := Lib.hid hbel
        have hsz := hbel.size
        obtain ⟨Al, cl, hvl, _, _⟩ := own_form hls.1
        rw [nats_length] at hvl
        subst hvl
        have hlm := hred.len
        clear hgr hrm hrl hls hred hbel
        by_cases hlt : col < v
        · have hdc : decide ((col : Int) < (v : Int)) = true := by simp; omega
          have hdc2 : decide (col < v) = true := by simp; omega
          by_cases hfull : ls.length = m
          · have hdf : decide ((ls.length : Int) < (m : Int)) = false := by simp; omega
            have hdf2 : decide (ls.length < m) = false := by simp; omega
            have HF := Lib.hid hfull
            clear hfull
            go_wp2_with fail
            exact HPO.out _ _ ⟨_, _, vs, rows, ls, rfl, KG.out, KL.out, HRM.out, HRL.out, RED.out.full HF.out v hcol, HNR.out, BEL.out⟩
          · have hdf : decide ((ls.length : Int) < (m : Int)) = true := by simp; omega
            have hdf2 : decide (ls.length < m) = true := by simp; omega
            obtain ⟨g, cg, hvg, hg1, hg2⟩ := KG.out.outer.form (by rw [HRM.out]; omega)
            injection hvg with hvg1 hvg2 hvg3
            subst hvg1
            clear hvg2 hvg3
            clear hfull
            go_wp2_with fail
            obtain ⟨wo, hwo⟩ : ∃ wo, wo = wr := ⟨_, rfl⟩
            subst hwo
            go_loop [12] (fun x => ∃ k : Nat, ls.length ≤ k ∧ k ≤ m ∧ x = .int .i64 k ∧ (∀ r, ls.length ≤ r → r < k → mx rows r col = 0)) (fun x => m - (intOf x).toNat)
            case atStart => exact ⟨ls.length, Nat.le_refl _, hlm, rfl, fun r h1 h2 => by omega⟩
            case round =>
              obtain ⟨k, hk1, hk2, rfl, hz⟩ := hrel
              have HZ := Lib.hid hz
              clear hz hdf hdf2
              by_cases hkm : k < m
              · have hdk : decide ((k : Int) < (m : Int)) = true := by simp; omega
                have hdk2 : decide (k < m) = true := by simp; omega
                obtain ⟨rk, hrk⟩ : ∃ rk, rows[k]? = some rk := ⟨_, List.getElem?_eq_getElem (by rw [HRM.out]; exact hkm)⟩
                have hrkl := HRL.out rk (List.mem_of_getElem? hrk)
                obtain ⟨bk, ck, hvk, hok, _, _, hbk1, hbk2⟩ := KG.out.at_ hrk (by omega)
                rw [hrkl] at hvk hok
                have hcg := KG.out.cell hvk
                obtain ⟨z, hzz⟩ : ∃ z, rk[col]? = some z := ⟨_, List.getElem?_eq_getElem (by omega)⟩
                have hcz := hok.cell hzz
                have hz0 := (hok.2.2 z (List.mem_of_getElem? hzz)).1
                have HMX := Lib.hid (show mx rows k col = toF z by rw [mx_get hrk, co_toFs hzz])
                have HRK := Lib.hid hrk
                have HVK := Lib.hid hvk
                have HZZ := Lib.hid hzz
                have HRKL := Lib.hid hrkl
                have hne : ((k : Int) == (m : Int)) = false := by rw [beq_eq_false_iff_ne]; omega
                clear hrk hvk hok hzz hrkl
                by_cases hzero : toF z = 0
                · have HZR := Lib.hid hzero
                  go_wp2_with fail
                  refine (fNorm_any _ _ hz0).mono ?_
                  rintro e w' ⟨rfl, rfl⟩
                  have hbz : (ofF (toF z) == 0) = true := by rw [HZR.out]; rfl
                  clear hzero
                  try dsimp only
                  go_wp2_with fail
                  refine ⟨⟨k + 1, by omega, by omega, by go_num, fun r h1 h2 => ?_⟩, by simp [intOf] <;> omega⟩
                  rcases Nat.lt_or_ge r k with h | h
                  · exact HZ.out r h1 h
                  · obtain rfl : r = k := by omega
                    rw [HMX.out, HZR.out]
                · have HNZ := Lib.hid (show mx rows k col ≠ 0 by rw [HMX.out]; exact hzero)
                  go_wp2_with fail
                  refine (fNorm_any _ _ hz0).mono ?_
                  rintro e w' ⟨rfl, rfl⟩
                  have hbz : (ofF (toF z) == 0) = false := by rw [beq_eq_false_iff_ne]; intro e; exact hzero (ofF_eq_zero.1 e)
                  clear hzero
                  try dsimp only
                  go_wp2_with fail
                  have ham : ls.length < m := by omega
                  obtain ⟨ra, hra⟩ : ∃ ra, rows[ls.length]? = some ra := ⟨_, List.getElem?_eq_getElem (by rw [HRM.out]; exact ham)⟩
                  obtain ⟨xa, hxa⟩ : ∃ xa, vs[ls.length]? = some xa := ⟨_, List.getElem?_eq_getElem (by rw [KG.out.vlen, HRM.out]; exact ham)⟩
                  have hca := KG.out.cell hxa
                  have hfa := KG.out.frozen ls.length
                  have hoa := (KG.out.row _ _ _ hxa hra).1
                  obtain ⟨Aa, ca_, hxf, _, _⟩ := own_form hoa
                  rw [HRL.out ra (List.mem_of_getElem? hra)] at hxf
                  subst hxf
                  have HXA := Lib.hid hxa
                  have HRA := Lib.hid hra
                  have hal1 : ls.length < 9223372036854775807 := by omega
                  clear hxa hra hoa hcz hbz hdk hdk2 hne
                  refine wp_region_quiet_mask [true, true, true, true, false, false, false, false, false, false, false, false] (by kernel_rfl) (by kernel_rfl) (fun _ _ _ _ _ h => h) ?_
                  simp only [List.length_cons, List.length_nil, Nat.zero_add, Nat.reduceAdd, List.take_succ_cons, List.take_zero, List.drop_succ_cons, List.drop_zero, pickT, pickF, putAll, moved]
                  simp [Act.put, Act.eval]
                  repeat (go_big_quiet_step ((fail)))
                  refine wpQuiet_nil ?_
                  intro nq
                  have G1 := KG.out.drewN nq
                  have hmk : m = rows.length := HRM.out.symm
                  have hout2 := (show (wo.drewN nq).ownsRow w.heap.size 64 1 (.slice (some ⟨g, 0, none⟩) rows.length cm) rows.length vs from hmk ▸ G1.outer).stored ls.length (.slice (some ⟨bk, 0, none⟩) (v + 1) ck)
                  have hc2 : ((wo.drewN nq).setCell ⟨g, ls.length, none⟩ (.slice (some ⟨bk, 0, none⟩) (v + 1) ck)).cell? ⟨g, k, none⟩ = some (.slice (some ⟨bk, 0, none⟩) (v + 1) ck) := by
                    rw [hout2.1.cellAt k (by rw [← hmk]; omega)]
                    by_cases hka : k = ls.length
                    · subst hka
                      exact List.getElem?_set_self (List.getElem?_eq_some_iff.1 HVK.out).1
                    · rw [List.getElem?_set_ne (Ne.symm hka)]; exact HVK.out
                  have hf2 : ((wo.drewN nq).setCell ⟨g, ls.length, none⟩ (.slice (some ⟨bk, 0, none⟩) (v + 1) ck)).frozen? ⟨g, k, none⟩ = false := hout2.1.frozenAt k
                  have G2 := Lib.hid (G1.swap HXA.out HVK.out HRA.out HRK.out)
                  have B2 := Lib.hid (((below_drewN BEL.out nq).setCell (p := ⟨g, ls.length, none⟩) hg1 (.slice (some ⟨bk, 0, none⟩) (v + 1) ck)).setCell (p := ⟨g, k, none⟩) hg1 (.slice Aa (v + 1) ca_))
                  have hL1 := own_apart (KL.out.drewN nq).1 G1.outer (by decide) (set_grown (wo.drewN nq) g ls.length (.slice (some ⟨bk, 0, none⟩) (v + 1) ck))
                  have KL2 := Lib.hid (show OwnInts (((wo.drewN nq).setCell ⟨g, ls.length, none⟩ (.slice (some ⟨bk, 0, none⟩) (v + 1) ck)).setCell ⟨g, k, none⟩ (.slice Aa (v + 1) ca_)) w.heap.size (.slice Al ls.length cl) (nats ls) from ⟨own_apart hL1 hout2.1 (by decide) (set_grown _ g k (.slice Aa (v + 1) ca_)), KL.out.2⟩)
                  have hv2 : ((vs.set ls.length (.slice (some ⟨bk, 0, none⟩) (v + 1) ck)).set k (.slice Aa (v + 1) ca_))[ls.length]? = some (.slice (some ⟨bk, 0, none⟩) (v + 1) ck) := by
                    rw [swap_get HXA.out HVK.out, show sw ls.length k ls.length = k by unfold sw; split <;> simp_all]; exact HVK.out
                  have hr2 : ((rows.set ls.length rk).set k ra)[ls.length]? = some rk := by
                    rw [swap_get HRA.out HRK.out, show sw ls.length k ls.length = k by unfold sw; split <;> simp_all]; exact HRK.out
                  have hc3 := G2.out.cell hv2
                  have hc4 := (G2.out.row _ _ _ hv2 hr2).cell HZZ.out
                  have HV2 := Lib.hid hv2
                  have HR2 := Lib.hid hr2
                  have MX2 := Lib.hid (mx_swap HRA.out HRK.out)
                  have HRM2 := Lib.hid (show ((rows.set ls.length rk).set k ra).length = m by rw [List.length_set, List.length_set]; exact HRM.out)
                  have HRL2 := Lib.hid (show ∀ r ∈ (rows.set ls.length rk).set k ra, r.length = v + 1 from fun r hr => by
                    rcases List.mem_or_eq_of_mem_set hr with h | h
                    · rcases List.mem_or_eq_of_mem_set h with h | h
                      · exact HRL.out r h
                      · rw [h]; exact HRKL.out
                    · rw [h]; exact HRL.out ra (List.mem_of_getElem? HRA.out))
                  have HNR2 := Lib.hid (show NormRows ((rows.set ls.length rk).set k ra) ls.length from (HNR.out.far (Nat.le_refl _)).far hk1)
                  clear G1 hout2 hL1 hmk hv2 hr2
                  go_wp2_with fail
                  obtain ⟨W2, hW2⟩ : ∃ W2, W2 = ((wo.drewN nq).setCell ⟨g, ls.length, none⟩ (.slice (some ⟨bk, 0, none⟩) (v + 1) ck)).setCell ⟨g, k, none⟩ (.slice Aa (v + 1) ca_) := ⟨_, rfl⟩
                  obtain ⟨vs2, hvs2⟩ : ∃ vs2, vs2 = (vs.set ls.length (.slice (some ⟨bk, 0, none⟩) (v + 1) ck)).set k (.slice Aa (v + 1) ca_) := ⟨_, rfl⟩
                  obtain ⟨rows2, hrows2⟩ : ∃ rows2, rows2 = (rows.set ls.length rk).set k ra := ⟨_, rfl⟩
                  rw [← hW2, ← hvs2, ← hrows2] at G2
                  rw [← hW2] at B2 KL2 ⊢
                  rw [← hvs2] at HV2
                  rw [← hrows2] at HR2 MX2 HRM2 HRL2 HNR2
                  clear hW2 hvs2 hrows2 hc2 hf2 hc3 hc4 hca hfa hcg
                  refine (fInv_any _ _ hz0).mono ?_
                  rintro e w' ⟨rfl, rfl⟩
                  try dsimp only
                  obtain ⟨T, hT⟩ : ∃ T, T = sclL rk (inv (toF z)) := ⟨_, rfl⟩
                  have HT := Lib.hid hT
                  have HTL := Lib.hid (show T.length = rk.length by rw [hT, sclL_length])
                  clear hT
                  have hc3 := G2.out.cell HV2.out
                  go_wp2_with fail
                  clear hc3
                  go_loopw [95] (fun x wr => ∃ j : Nat, j ≤ v + 1 ∧ x = .int .i64 j ∧ Grid wr w.heap.size (.slice (some ⟨g, 0, none⟩) m cm) vs2 (rows2.set ls.length (partL T rk j)) ∧ OwnInts wr w.heap.size (.slice Al ls.length cl) (nats ls) ∧ Below w.heap.size w wr) (fun x _ => v + 1 - (intOf x).toNat)
                  case atStart => exact ⟨0, Nat.zero_le _, rfl, by rw [partL_start, set_self HR2.out]; exact G2.out, KL2.out, B2.out⟩
                  case round =>
                    obtain ⟨j, hj, rfl, hgr, hls, hbel⟩ := hrel
                    have G3 := Lib.hid hgr
                    have KL3 := Lib.hid hls
                    have B3 := Lib.hid hbel
                    clear hgr hls hbel
                    by_cases hlt4 : j < v + 1
                    · have hdj : decide ((j : Int) < (v : Int) + 1) = true := by simp; omega
                      obtain ⟨u, hu⟩ : ∃ u, rk[j]? = some u := ⟨_, List.getElem?_eq_getElem (by rw [HRKL.out]; exact hlt4)⟩
                      have hri := set_get_same (b := partL T rk j) HR2.out
                      have hrow := G3.out.row _ _ _ HV2.out hri
                      have hpu : (partL T rk j)[j]? = some u := by rw [partL_get HTL.out (by rw [HRKL.out]; exact hlt4)]; exact hu
                      have hcu := hrow.cell hpu
                      have hfu := hrow.frozen j
                      have hcg3 := G3.out.cell HV2.out
                      have hu0 := (hrow.2.2 u (List.mem_of_getElem? hpu)).1
                      have HSET := Lib.hid (partL_set HTL.out (show T[j]? = some (ofF (toF u * inv (toF z))) by rw [HT.out]; exact sclL_get _ hu))
                      have HRI := Lib.hid hri
                      have HROW := Lib.hid hrow
                      clear hu hri hrow hpu
                      go_wp2_with fail
                      refine wp_region_quiet_mask [false, false, false, false, true, false, false, false, false, false, false, false, false, false] (by kernel_rfl) (by kernel_rfl) (fun _ _ _ _ _ h => h) ?_
                      simp only [List.length_cons, List.length_nil, Nat.zero_add, Nat.reduceAdd, List.take_succ_cons, List.take_zero, List.drop_succ_cons, List.drop_zero, pickT, pickF, putAll, moved]
                      simp [Act.put, Act.eval]
                      repeat (go_big_quiet_step ((exact quietL (fMul_any _ _ _ hu0 (ofF_nonneg _)))))
                      refine wpQuiet_nil ?_
                      intro nq
                      have G4 := Lib.hid ((G3.out.drewN nq).setNum HV2.out HRI.out j (U64.of_ofF (toF u * inv (toF z))))
                      have B4 := Lib.hid ((below_drewN B3.out nq).setCell (p := ⟨bk, j, none⟩) hbk1 (.int .u64 (ofF (toF u * inv (toF z)))))
                      have KL4 := Lib.hid (show OwnInts ((wr.drewN nq).setCell ⟨bk, j, none⟩ (.int .u64 (ofF (toF u * inv (toF z))))) w.heap.size (.slice Al ls.length cl) (nats ls) from ⟨own_apart (KL3.out.drewN nq).1 (HROW.out.drewN nq).1 (by decide) (set_grown (wr.drewN nq) bk j _), KL3.out.2⟩)
                      go_wp2_with fail
                      simp only [toF_ofF]
                      refine ⟨⟨j + 1, by omega, by go_num, ?_, KL4.out, B4.out⟩, by simp [intOf] <;> omega⟩
                      have h := G4.out
                      rw [List.set_set, HSET.out] at h
                      exact h
                    · obtain rfl : j = v + 1 := by omega
                      have HPE := Lib.hid (show partL T rk (v + 1) = T by rw [← HRKL.out]; exact partL_end HTL.out)
                      rw [HPE.out] at G3
                      have hdj : decide (((v + 1 : Nat) : Int) < (v : Int) + 1) = false := by simp
                      go_wp2_with fail
                      obtain ⟨S, hS⟩ : ∃ S, S = mx (rows2.set ls.length T) := ⟨_, rfl⟩
                      have HSE := Lib.hid (show S = scaleM (swapM (mx rows) ls.length k) ls.length (inv (mx rows k col)) by
                        rw [hS, HT.out, mx_scale HR2.out, MX2.out, HMX.out])
                      have HRMS := Lib.hid (show (rows2.set ls.length T).length = m by rw [List.length_set]; exact HRM2.out)
                      have HRLS := Lib.hid (show ∀ r ∈ rows2.set ls.length T, r.length = v + 1 from fun r hr => by
                        rcases List.mem_or_eq_of_mem_set hr with h | h
                        · exact HRL2.out r h
                        · rw [h, HTL.out]; exact HRKL.out)
                      have HRAS := Lib.hid (set_get_same (b := T) HR2.out)
                      have HTV := Lib.hid (show T.length = v + 1 by rw [HTL.out]; exact HRKL.out)
                      have HS := Lib.hid hS
                      clear hS
                      go_loopw [116] (fun x wq => ∃ (i : Nat) (rows3 : List (List Int)), i ≤ m ∧ x = .int .i64 i ∧ Grid wq w.heap.size (.slice (some ⟨g, 0, none⟩) m cm) vs2 rows3 ∧ rows3.length = m ∧ (∀ r ∈ rows3, r.length = v + 1) ∧ rows3[ls.length]? = some T ∧ mx rows3 = clearM S ls.length col i ∧ NormRows rows3 ls.length ∧ OwnInts wq w.heap.size (.slice Al ls.length cl) (nats ls) ∧ Below w.heap.size w wq) (fun x _ => m - (intOf x).toNat)
                      case atStart => exact ⟨0, _, Nat.zero_le _, rfl, G3.out, HRMS.out, HRLS.out, HRAS.out, by rw [clearM_start]; exact HS.out.symm, HNR2.out.far (Nat.le_refl _), KL3.out, B3.out⟩
                      case round =>
                        obtain ⟨i, rows3, hi, rfl, hgr, hrm3, hrl3, hra3, hmx3, hnr3, hls, hbel⟩ := hrel
                        have HNR3 := Lib.hid hnr3
                        clear hnr3
                        clear G3 KL3 B3
                        have G3 := Lib.hid hgr
                        have KL3 := Lib.hid hls
                        have B3 := Lib.hid hbel
                        have HRM3 := Lib.hid hrm3
                        have HRL3 := Lib.hid hrl3
                        have HRA3 := Lib.hid hra3
                        have HMX3 := Lib.hid hmx3
                        have hsz3 := hbel.size
                        clear hgr hls hbel hrm3 hrl3 hra3 hmx3
                        by_cases hlt5 : i < m
                        · have hdi : decide ((i : Int) < (m : Int)) = true := by simp; omega
                          by_cases hia : i = ls.length
                          · have hne5 : ((i : Int) != (ls.length : Int)) = false := by rw [bne_eq_false_iff_eq]; omega
                            have HIA := Lib.hid hia
                            clear hia
                            go_wp2_with fail
                            exact ⟨⟨i + 1, rows3, by omega, by go_num, G3.out, HRM3.out, HRL3.out, HRA3.out, by have h := HMX3.out; rw [HIA.out] at h ⊢; rw [clearM_skip]; exact h, HNR3.out, KL3.out, B3.out⟩, by simp [intOf] <;> omega⟩
                          · have hne5 : ((i : Int) != (ls.length : Int)) = true := by rw [bne_iff_ne]; omega
                            have HIA := Lib.hid hia
                            obtain ⟨ri, hri⟩ : ∃ ri, rows3[i]? = some ri := ⟨_, List.getElem?_eq_getElem (by rw [HRM3.out]; exact hlt5)⟩
                            have hril := HRL3.out ri (List.mem_of_getElem? hri)
                            obtain ⟨bi, ci, hvi, hoi, _, _, hbi1, hbi2⟩ := G3.out.at_ hri (by omega)
                            rw [hril] at hvi hoi
                            obtain ⟨y, hyy⟩ : ∃ y, ri[col]? = some y := ⟨_, List.getElem?_eq_getElem (by omega)⟩
                            have hci := G3.out.cell hvi
                            have hca3 := G3.out.cell HV2.out
                            have hcy := hoi.cell hyy
                            have hy0 := (hoi.2.2 y (List.mem_of_getElem? hyy)).1
                            have HRI := Lib.hid hri
                            have HVI := Lib.hid hvi
                            have HOI := Lib.hid hoi
                            have HRIL := Lib.hid hril
                            have HYY := Lib.hid hyy
                            clear hia hri hvi hoi hril hyy
                            go_wp2_with fail
                            refine wp_region_quiet_tail 15 (by kernel_rfl) (by kernel_rfl) ?_
                            simp only [List.take_succ_cons, List.take_zero, List.drop_succ_cons, List.drop_zero]
                            repeat (go_big_quiet_step ((fail)))
                            refine wpQuiet_nil ?_
                            intro nq
                            go_wp2_with fail
                            refine (sClear_any _ w.heap.size _ _ _ vs2 rows3 i ls.length ri T y (G3.out.drewN nq) HVI.out HV2.out HRI.out HRA3.out HIA.out (by rw [HRIL.out, HTV.out]) (by rw [HRIL.out]; omega) (by rw [HRIL.out]; omega) hy0).mono ?_
                            rintro e w7 ⟨rfl, hg7, hb7, hgw7⟩
                            have G7 := Lib.hid hg7
                            have B7 := Lib.hid ((below_drewN B3.out nq).trans hb7)
                            have KL7 := Lib.hid (show OwnInts w7 w.heap.size (.slice Al ls.length cl) (nats ls) from ⟨own_apart (KL3.out.drewN nq).1 (HOI.out.drewN nq).1 (by decide) hgw7, KL3.out.2⟩)
                            have HMX7 := Lib.hid (mx_clear HMX3.out HRI.out HRA3.out HIA.out (by rw [HRIL.out, HTV.out]) HYY.out)
                            have HRM7 := Lib.hid (show (rows3.set i (clrL ri T y)).length = m by rw [List.length_set]; exact HRM3.out)
                            have HRL7 := Lib.hid (show ∀ r ∈ rows3.set i (clrL ri T y), r.length = v + 1 from fun r hr => by
                              rcases List.mem_or_eq_of_mem_set hr with h | h
                              · exact HRL3.out r h
                              · rw [h, clrL_length y (by rw [HRIL.out, HTV.out])]; exact HRIL.out)
                            have HRA7 := Lib.hid (show (rows3.set i (clrL ri T y))[ls.length]? = some T by rw [List.getElem?_set_ne HIA.out]; exact HRA3.out)
                            clear hg7 hb7 hgw7 hci hca3 hcy
                            try dsimp only
                            go_wp2_with fail
                            exact ⟨⟨i + 1, _, by omega, by go_num, G7.out, HRM7.out, HRL7.out, HRA7.out, HMX7.out, (by rw [clrL_ofFs]; exact HNR3.out.set), KL7.out, B7.out⟩, by simp [intOf] <;> omega⟩
                        · obtain rfl : m = i := by omega
                          have hdi : decide ((m : Int) < (m : Int)) = false := by simp
                          have HRED := Lib.hid (show Red (mx rows0) (mx rows3) m (v + 1) (col + 1) (ls ++ [col]) by
                            have h := RED.out.pivot hk1 hkm HNZ.out
                            rw [HMX3.out, HSE.out]
                            exact h)
                          go_wp2_with (at_builtin; go_loud (refine wpList_push_int_at rfl _ _ rfl w.heap.size _ (nats ls) (col : Int) wr.heap.size 1 rfl (KL3.out.alloc _) rfl (new_cell _ _ _) (by unfold I64; omega) (by rw [nats_length]; omega) (by rw [size_alloc]; omega) ?_))
                          intro v9 w9 ho9 hb9 hgw9
                          have KL9 := Lib.hid (show OwnInts w9 w.heap.size v9 (nats (ls ++ [col])) by
                            rw [show nats (ls ++ [col]) = nats ls ++ [(col : Int)] by simp [nats]]; exact ho9)
                          have G9 := Lib.hid ((G3.out.alloc (.cells #[.int .i64 (col : Int)] 3)).apart_kept (KL3.out.alloc (.cells #[.int .i64 (col : Int)] 3)).1 (by decide) (by decide) hgw9)
                          have B9 := Lib.hid ((B3.out.alloc hsz3 (.cells #[.int .i64 (col : Int)] 3)).trans hb9)
                          have HNR9 := Lib.hid (show NormRows rows3 (ls ++ [col]).length from fun q hq => by
                            rw [List.length_append, List.length_singleton] at hq
                            rcases Nat.lt_or_ge q ls.length with h | h
                            · exact HNR3.out q h
                            · obtain rfl : q = ls.length := by omega
                              exact ⟨_, by rw [HRA3.out, HT.out, sclL_ofFs]⟩)
                          clear ho9 hb9 hgw9
                          go_wp2_with fail
                          exact ⟨⟨col + 1, vs2, rows3, ls ++ [col], by omega, by go_num, G9.out, HRM3.out, HRL3.out, KL9.out, HRED.out, HNR9.out, B9.out⟩, by simp [intOf] <;> omega⟩
              · obtain rfl : k = m := by omega
                have hdk : decide ((k : Int) < (k : Int)) = false := by simp
                have hne : ((k : Int) == (k : Int)) = true := by simp
                go_wp2_with fail
                exact ⟨⟨col + 1, vs, rows, ls, by omega, by go_num, KG.out, HRM.out, HRL.out, KL.out, RED.out.skip HZ.out, HNR.out, BEL.out⟩, by simp [intOf] <;> omega⟩
        · obtain rfl : v = col := by omega
          have hdc : decide ((v : Int) < (v : Int)) = false := by simp
          go_wp2_with fail
          exact HPO.out _ _ ⟨_, _, vs, rows, ls, rfl, KG.out, KL.out, HRM.out, HRL.out, RED.out, HNR.out, BEL.out⟩
theorem slice_rest_run (A : Option Addr) (m c lo : Nat) (h1 : lo ≤ m) (W : World) :
    (Instr.sliceAt 86 (.slice A m c) (some (.int .i64 (lo : Int))) none none).run Tryz.prog W = .ok (.slice (if c = lo then A else A.map (·.add (lo * 1))) (m - lo) (c - lo)) W := by
  have hU : Program.underlying Tryz.prog 86 = some (.slice (Program.elem Tryz.prog 86)) := by kernel_rfl
  have hs : ∀ W, (sizeOf (Program.elem Tryz.prog 86)).run Tryz.prog W = .ok 1 W := fun W => by kernel_rfl
  rw [run_sliceAt_slice _ _ _ _ _ _ hU, run_slice_l W _ A m c hU .i64 _ (by omega) (by omega), hs]
  simp [Result.andThen, sliced]
theorem IsNumss.rest {w : World} {A : Option Addr} {n c : Nat} {rows : List (List Int)} (h : IsNumss w (.slice A n c) rows) (lo : Nat) (h1 : lo ≤ rows.length) : IsNumss w (.slice (if c = lo then A else A.map (·.add (lo * 1))) (n - lo) (c - lo)) (rows.drop lo) := by
  obtain ⟨A1, c1, vs, e1, e2, e3, e4, e5, e6⟩ := h
  injection e1 with e1a e1b e1c
  subst e1a e1b e1c
  have hl : (rows.drop lo).length = rows.length - lo := by simp
  refine ⟨_, _, vs.drop lo, by rw [hl], by rw [hl]; omega, by omega, by rw [hl]; omega, ?_, ?_⟩
  · rcases Nat.lt_or_ge lo rows.length with hlt | hge
    · obtain ⟨b, o, rfl, hb, hc⟩ := e5.at_ (j := lo) (by rw [e6.1]; exact hlt)
      rw [if_neg (by omega)]
      refine .inr ⟨b, o + lo, by simp [add_addr], hb, fun j hj => ?_⟩
      rw [List.length_drop] at hj
      rw [Nat.add_assoc, hc _ (by omega), List.getElem?_drop]
    · exact .inl (List.drop_eq_nil_of_le (by rw [e6.1]; exact hge))
  · refine ⟨by rw [List.length_drop, List.length_drop, e6.1], fun i x r hx hr => ?_⟩
    rw [List.getElem?_drop] at hx hr
    exact e6.2 _ x r hx hr
def ySolN (M : Mx) (ls : List Nat) (c n j : Nat) : F := fsum n fun i => if ld ls i = j then M i c else 0
def solN (M : Mx) (ls : List Nat) (v n : Nat) : List F := (List.range v).map fun j => ySolN M ls v n j
def solF (M : Mx) (ls : List Nat) (v : Nat) : List F := (List.range v).map fun j => ySol M ls v j
theorem solN_length (M : Mx) (ls : List Nat) (v n : Nat) : (solN M ls v n).length = v := by simp [solN]
theorem solN_end (M : Mx) (ls : List Nat) (v : Nat) : solN M ls v ls.length = solF M ls v := rfl
theorem solN_start (M : Mx) (ls : List Nat) (v : Nat) : ofFs (solN M ls v 0) = List.replicate v 0 := by
  unfold solN ofFs
  rw [List.map_map]
  apply List.ext_getElem
  · simp
  · intro j h1 h2
    simp [ySolN, fsum, ofF_zero]
theorem solN_next {M0 M : Mx} {m v : Nat} {ls : List Nat} (h : Red M0 M m (v + 1) v ls) {i : Nat} (hi : i < ls.length) : (ofFs (solN M ls v i)).set (ld ls i) (ofF (M i v)) = ofFs (solN M ls v (i + 1)) := by
  have hlt := h.lt i hi
  apply List.ext_getElem?
  intro j
  rcases Nat.lt_or_ge j v with hj | hj
  · have hr : (ofFs (solN M ls v (i + 1)))[j]? = some (ofF (ySolN M ls v (i + 1) j)) := ofFs_get (by simp [solN, hj])
    have hl : (ofFs (solN M ls v i))[j]? = some (ofF (ySolN M ls v i j)) := ofFs_get (by simp [solN, hj])
    rw [hr]
    by_cases hc : j = ld ls i
    · subst hc
      rw [List.getElem?_set_self (by rw [ofFs_length, solN_length]; exact hj)]
      have hz : ySolN M ls v i (ld ls i) = 0 := by
        unfold ySolN
        apply fsum_zero
        intro q hq
        rw [if_neg]
        intro he
        have := h.inj (show q < ls.length by omega) hi he
        omega
      have : ySolN M ls v (i + 1) (ld ls i) = M i v := by
        show fsum (i + 1) _ = _
        rw [fsum, if_pos rfl]
        have h0 : (fsum i fun q => if ld ls q = ld ls i then M q v else 0) = 0 := hz
        rw [h0, F_za]
      rw [this]
    · rw [List.getElem?_set_ne (Ne.symm hc), hl]
      have : ySolN M ls v (i + 1) j = ySolN M ls v i j := by
        show fsum (i + 1) _ = fsum i _
        rw [fsum, if_neg (fun e => hc e.symm), F_az]
      rw [this]
  · rw [List.getElem?_eq_none (by rw [List.length_set, ofFs_length, solN_length]; exact hj), List.getElem?_eq_none (by rw [ofFs_length, solN_length]; exact hj)]
def SolRes (w : World) (e : Ending) (w' : World) (rows0 : List (List Int)) (v : Nat) : Prop :=
  ∃ rows ls, Red (mx rows0) (mx rows) rows0.length (v + 1) v ls ∧ (((∃ r, ls.length ≤ r ∧ r < rows0.length ∧ mx rows r v ≠ 0) ∧ ListRes w e w' [] 4) ∨ ((∀ r, ls.length ≤ r → r < rows0.length → mx rows r v = 0) ∧ ListRes w e w' (ofFs (solF (mx rows) ls v)) 0))
set_option maxRecDepth 100000 in
set_option maxHeartbeats 2000000 in
theorem sSolve_ok (va : Value) (rows0 : List (List Int)) (v : Nat) (w : World) (h1 : IsNumss w va rows0) (h0 : solE rows0 v = 0) (hv1 : 1 ≤ v) (hv20 : v ≤ 20) (hm20 : rows0.length ≤ 20) (hlen : ∀ r ∈ rows0, r.length = v + 1) :
    Calls Tryz.prog 195 #[va, .int .i64 v] w fun e w' => SolRes w e w' rows0 v := by
  have KA := Lib.hid h1
  have H0 := Lib.hid h0
  have HLEN := Lib.hid hlen
  suffices hgoal : ∀ Post : Ending → World → Prop, (∀ e w', SolRes w e w' rows0 v → Post e w') → Calls Tryz.prog 195 #[va, .int .i64 v] w Post from hgoal _ fun e w' h => h
  intro Post hpo
  have HPO := Lib.hid hpo
  clear h1 h0 hlen hpo
  go_enter Tryz.func195, Tryz.ntmps195
  go_wp2_with fail
  refine (sSolCheck_any _ _ _ _ KA.out).mono ?_
  rintro e W1 ⟨rfl, hb⟩
  rw [H0.out]
  have BEL := Lib.hid hb
  have KA1 := Lib.hid (KA.out.below hb)
  clear hb
  try dsimp only
  go_wp2_with fail
  refine (reduced_ok _ rows0 v rows0.length _ KA1.out rfl hm20 hv1 hv20 HLEN.out).mono ?_
  rintro e W2 ⟨vm, vl, vs, rows, ls, rfl, hg, hl, hrm, hrl, hred, hnr, hb⟩
  have RED := Lib.hid hred
  have B2 := Lib.hid (below_trans BEL.out hb BEL.out.size)
  have hlm := hred.len
  obtain ⟨m, hm⟩ : ∃ m, m = rows0.length := ⟨_, rfl⟩
  rw [← hm] at hrm hlm hm20 RED
  have HM := Lib.hid hm
  obtain ⟨Al, cl, hvl, _, _⟩ := own_form hl.1
  rw [nats_length] at hvl
  subst hvl
  obtain ⟨Am, cm, hvm, hcm, _⟩ := own_form hg.outer
  rw [hrm] at hvm hcm
  subst hvm
  have KG := Lib.hid hg
  have KL := Lib.hid hl
  have HRM := Lib.hid hrm
  have HRL := Lib.hid hrl
  have HNR := Lib.hid hnr
  have hsl := slice_rest_run Am m cm ls.length hlm
  have hrest := hg.is.rest ls.length (by rw [hrm]; exact hlm)
  obtain ⟨vr, hvr⟩ : ∃ vr, vr = (if cm = ls.length then Am else Am.map (·.add (ls.length * 1))) := ⟨_, rfl⟩
  rw [← hvr] at hsl hrest
  have KR := Lib.hid hrest
  have hrdl : (rows.drop ls.length).length = m - ls.length := by rw [List.length_drop, hrm]
  have HRDL := Lib.hid hrdl
  clear hg hl hrm hrl hred hnr hb hrest hvr hm hrdl KA KA1 BEL
  try dsimp only
  go_wp2_with fail
  clear hsl
  obtain ⟨wo, hwo⟩ : ∃ wo, wo = W2 := ⟨_, rfl⟩
  subst hwo
  obtain ⟨d, hd⟩ : ∃ d, d = m - ls.length := ⟨_, rfl⟩
  rw [← hd] at HRDL KR ⊢
  have HDD := Lib.hid hd
  have hd20 : d ≤ 20 := by omega
  clear hd
  go_loop [31] (fun x => ∃ q : Nat, q ≤ d ∧ x = .int .i64 q ∧ (∀ r, ls.length ≤ r → r < ls.length + q → mx rows r v = 0)) (fun x => d - (intOf x).toNat)
  case atStart => exact ⟨0, Nat.zero_le _, rfl, fun r h1 h2 => by omega⟩
  case round =>
    obtain ⟨q, hq, rfl, hz⟩ := hrel
    have HZ := Lib.hid hz
    clear hz
    by_cases hlt : q < d
    · obtain ⟨A, c, vs1, hA, _, _, _, hr, ha⟩ := KR.out
      rw [HRDL.out] at hA
      injection hA with hA1 hA2 hA3
      subst hA1 hA3
      clear hA2
      obtain ⟨b1, o1, x, r, rfl, hb1, hx, hgk, hn, hc⟩ := numss_at hr ha (k := q) (by rw [HRDL.out]; exact hlt)
      rw [List.getElem?_drop] at hgk
      have hrl := HRL.out r (List.mem_of_getElem? hgk)
      obtain ⟨Ar, cr, hxr, _, _, _, hur, hrr⟩ := hn
      rw [hrl] at hxr
      subst hxr
      obtain ⟨b2, o2, z, rfl, hb2, hgz, hz64, hcz⟩ := nums_at hrr hur (k := v) (by omega)
      have hz0 := hz64.1
      have HMX := Lib.hid (show mx rows (ls.length + q) v = toF z by rw [mx_get hgk, co_toFs hgz])
      have hdq : decide ((q : Int) < (d : Int)) = true := by simp; omega
      clear hr ha hb1 hx hgk hur hrr hb2 hgz hrl
      by_cases hzero : toF z = 0
      · have HZR := Lib.hid hzero
        go_wp2_with fail
        refine (fNorm_any _ _ hz0).mono ?_
        rintro e w' ⟨rfl, rfl⟩
        have hbz : (ofF (toF z) != 0) = false := by rw [HZR.out]; rfl
        clear hzero
        try dsimp only
        go_wp2_with fail
        refine ⟨⟨q + 1, by omega, by go_num, fun r h1 h2 => ?_⟩, by simp [intOf] <;> omega⟩
        rcases Nat.lt_or_ge r (ls.length + q) with h | h
        · exact HZ.out r h1 h
        · obtain rfl : r = ls.length + q := by omega
          rw [HMX.out, HZR.out]
      · have HNZ := Lib.hid hzero
        go_wp2_with fail
        refine (fNorm_any _ _ hz0).mono ?_
        rintro e w' ⟨rfl, rfl⟩
        have hbz : (ofF (toF z) != 0) = true := by rw [bne_iff_ne]; intro e; exact hzero (ofF_eq_zero.1 e)
        clear hzero
        try dsimp only
        go_wp2_with fail
        exact HPO.out _ _ ⟨rows, ls, HM.out ▸ RED.out, .inl ⟨⟨ls.length + q, by omega, by have := HM.out; have := HDD.out; omega, by rw [HMX.out]; exact HNZ.out⟩, _, rfl, OwnNums.nil _ _, B2.out⟩⟩
    · obtain rfl : q = d := by omega
      have HZA := Lib.hid (show ∀ r, ls.length ≤ r → r < m → mx rows r v = 0 from fun r h1 h2 => HZ.out r h1 (by have := HDD.out; omega))
      clear KR
      go_wp2_with (refine wpList_make_nums rfl _ _ rfl wo.heap.size _ v rfl rfl rfl (by omega) (Nat.le_refl _) ?_)
      intro W3 ho hb
      have KO := Lib.hid (show OwnNums W3 wo.heap.size (.slice (some ⟨wo.heap.size, 0, none⟩) v v) (ofFs (solN (mx rows) ls v 0)) from by rw [solN_start]; exact ho)
      have B3 := Lib.hid hb
      clear ho hb
      go_wp2_with fail
      go_loopw [46] (fun x wr => ∃ i : Nat, i ≤ ls.length ∧ x = .int .i64 i ∧ OwnNums wr wo.heap.size (.slice (some ⟨wo.heap.size, 0, none⟩) v v) (ofFs (solN (mx rows) ls v i)) ∧ Below wo.heap.size wo wr) (fun x _ => ls.length - (intOf x).toNat)
      case atStart => exact ⟨0, Nat.zero_le _, rfl, KO.out, B3.out⟩
      case round =>
        obtain ⟨i, hi, rfl, hown, hbel⟩ := hrel
        clear KO B3
        have KO := Lib.hid hown
        have B3 := Lib.hid hbel
        clear hown hbel
        by_cases hlt2 : i < ls.length
        · have hdi : decide ((i : Int) < (ls.length : Int)) = true := by simp; omega
          obtain ⟨A, c, hA, _, _, _, hu, hr⟩ := KL.out.is.below B3.out
          rw [nats_length] at hA
          injection hA with hA1 hA2 hA3
          subst hA1 hA3
          clear hA2
          obtain ⟨b1, o1, cz, rfl, hb1, hgc, hc64, hcc⟩ := ints_at hr hu (k := i) (by rw [nats_length]; exact hlt2)
          have hce : cz = ((ld ls i : Nat) : Int) := by
            unfold nats at hgc
            rw [List.getElem?_map, ld_get hlt2] at hgc
            simpa using hgc.symm
          subst hce
          obtain ⟨col, hcol⟩ : ∃ col, col = ld ls i := ⟨_, rfl⟩
          have hcv : col < v := by rw [hcol]; exact RED.out.lt i hlt2
          rw [← hcol] at hcc
          obtain ⟨l, hl⟩ := HNR.out i hlt2
          have hll := HRL.out _ (List.mem_of_getElem? hl)
          have KGr := KG.out.below B3.out
          obtain ⟨bi, ci, hvi, hoi, _, _, _, _⟩ := KGr.at_ hl (by omega)
          rw [hll] at hvi hoi
          have hgm := KGr.outer.form (by rw [HRM.out]; omega)
          obtain ⟨gm, cgm, hgmv, _, _⟩ := hgm
          injection hgmv with hg1 hg2 hg3
          subst hg1
          clear hg2 hg3
          have hci := KGr.cell hvi
          rw [ofFs_length] at hll
          have hcy := hoi.cell (ofFs_get (get_co (l := l) (j := v) (by omega)))
          have HMX := Lib.hid (show mx rows i v = co l v by rw [mx_get hl, toFs_ofFs])
          have hoc : (ofFs (solN (mx rows) ls v i))[col]? = some (ofF (co (solN (mx rows) ls v i) col)) := ofFs_get (get_co (by rw [solN_length]; exact hcv))
          have hcs := KO.out.cell hoc
          have hfs := KO.out.frozen col
          have K4 := Lib.hid (show OwnNums (wr.setCell ⟨wo.heap.size, col, none⟩ (.int .u64 (ofF (co l v)))) wo.heap.size (.slice (some ⟨wo.heap.size, 0, none⟩) v v) (ofFs (solN (mx rows) ls v (i + 1))) from by
            rw [← solN_next RED.out hlt2, HMX.out, ← hcol]
            exact KO.out.set_ col (U64.of_ofF _))
          have B4 := Lib.hid (B3.out.setCell (p := ⟨wo.heap.size, col, none⟩) (Nat.le_refl _) (.int .u64 (ofF (co l v))))
          clear hr hu hb1 hgc hcol hl hll KGr hvi hoi hoc
          go_wp2_with fail
          exact ⟨⟨i + 1, by omega, by go_num, K4.out, B4.out⟩, by simp [intOf] <;> omega⟩
        · obtain rfl : ls.length = i := by omega
          rw [solN_end] at KO
          go_wp2_with fail
          exact HPO.out _ _ ⟨rows, ls, HM.out ▸ RED.out, .inr ⟨fun r h1 h2 => HZA.out r h1 (by have := HM.out; omega), _, rfl, KO.out.less B2.out.size, below_trans B2.out B3.out B2.out.size⟩⟩
end Go.Proofs.YtploomncapiloaaGreatDoor
