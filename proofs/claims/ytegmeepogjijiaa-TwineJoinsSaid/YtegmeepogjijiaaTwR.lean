/- Rows that fit pair by pair are rows of one symmetric square: the law under Join. -/
import Derived.Test.YtegmeepogjijiaaTwT
import Derived.Test.YtegmeepogjijiaaRefS
import Derived.Laws.ResultCell
import Derived.Handy
namespace Go.Proofs.Ytegmeepogjijiaa
open Croft

theorem fitB_refl (a : Int × List Int) : fitB a a = true := by unfold fitB; simp
theorem fitB_symm (a b : Int × List Int) : fitB a b = fitB b a := by
  unfold fitB
  exact decide_eq_decide.2 ⟨fun h => h.symm, fun h => h.symm⟩
theorem prRow_nil {a : Int × List Int} {L : List (Int × List Int)} (h : prRow a L = []) : ∀ b ∈ L, fitB a b = true := by
  unfold prRow at h
  rw [List.map_eq_nil_iff, List.filter_eq_nil_iff] at h
  intro b hb
  simpa using h b hb
theorem prL_fits : ∀ {l : List (Int × List Int)}, prL l = [] → ∀ a ∈ l, ∀ b ∈ l, fitB a b = true := by
  intro l
  induction l with
  | nil => intro _ a ha; cases ha
  | cons c L ih =>
    intro h a ha b hb
    rw [prL_cons, List.append_eq_nil_iff] at h
    have h1 := prRow_nil h.1
    rcases List.mem_cons.1 ha with ha1 | ha1
    · rcases List.mem_cons.1 hb with hb1 | hb1
      · rw [ha1, hb1]; exact fitB_refl _
      · rw [ha1]; exact h1 b hb1
    · rcases List.mem_cons.1 hb with hb1 | hb1
      · rw [hb1, fitB_symm]; exact h1 a ha1
      · exact ih h.2 a ha1 b hb1
theorem prL_perm {l l' : List (Int × List Int)} (hp : l'.Perm l) : prL l' = [] ↔ ∀ a ∈ l, ∀ b ∈ l, fitB a b = true :=
  ⟨fun h a ha b hb => prL_fits h a (hp.mem_iff.2 ha) b (hp.mem_iff.2 hb), fun h => prL_nil fun a ha b hb => h a (hp.mem_iff.1 ha) b (hp.mem_iff.1 hb)⟩
/-- column j of the rows, as shares -/
def colF (l : List (Int × List Int)) (j : Nat) : List (Int × Int) := l.map fun r => (r.1, r.2.getD j 0)
theorem co_row {r : List Int} (j : Nat) : co (toFs r) j = toF (r.getD j 0) := by
  unfold co toFs
  by_cases h : j < r.length
  · simp [h]
  · simp [List.getElem?_eq_none (Nat.le_of_not_lt h), toF_zero]
theorem row_eval {t : Nat} {r : List Int} (h : r.length = t + 1) (y : F) : peval (toFs r) y = fsum (t + 1) fun j => toF (r.getD j 0) * y ^ j := by
  rw [peval_sum _ _ (t + 1) (by rw [toFs_length]; omega)]
  exact fsum_congr fun j _ => by rw [co_row]
/-- the square's value at two places -/
def sqV (t : Nat) (Q : Nat → List F) (x y : F) : F := fsum (t + 1) fun j => peval (Q j) x * y ^ j
theorem sqV_sum {t : Nat} {Q : Nat → List F} (hQ : ∀ j, j ≤ t → (Q j).length ≤ t + 1) (x y : F) : sqV t Q x y = fsum (t + 1) fun j => fsum (t + 1) fun m => co (Q j) m * x ^ m * y ^ j := by
  unfold sqV
  refine fsum_congr fun j hj => ?_
  rw [peval_sum _ _ (t + 1) (hQ j (by omega)), fsum_mul_right]
theorem sqV_sym {t : Nat} {Q : Nat → List F} (hQ : ∀ j, j ≤ t → (Q j).length ≤ t + 1) (hs : ∀ i j, i ≤ t → j ≤ t → co (Q i) j = co (Q j) i) (x y : F) : sqV t Q x y = sqV t Q y x := by
  rw [sqV_sum hQ, sqV_sum hQ, fsum_swap]
  refine fsum_congr fun j hj => fsum_congr fun m hm => ?_
  rw [hs m j (by omega) (by omega)]
  grind
structure Sqr (t : Nat) (l : List (Int × List Int)) (Q : Nat → List F) : Prop where
  ok : rowsB l = true
  len : ∀ r ∈ l, r.2.length = t + 1
  many : t + 1 ≤ l.length
  on : ∀ j, j ≤ t → Interp (ptsF ((colF l j).take (t + 1))) (Q j)
variable {t : Nat} {l : List (Int × List Int)} {Q : Nat → List F}
theorem Sqr.qlen (h : Sqr t l Q) : ∀ j, j ≤ t → (Q j).length ≤ t + 1 := fun j hj => by
  have := (h.on j hj).2.1
  unfold ptsF colF at this
  rw [List.length_map, List.length_take] at this
  omega
def xsL (t : Nat) (l : List (Int × List Int)) : List F := (l.take (t + 1)).map fun r => toF r.1
theorem nodup_map_toF : ∀ L : List Int, (∀ a ∈ L, 1 ≤ a ∧ a ≤ 9) → L.Nodup → (L.map toF).Nodup := by
  intro L
  induction L with
  | nil => intro _ _; simp
  | cons a L ih =>
    intro h hn
    rw [List.nodup_cons] at hn
    rw [List.map_cons, List.nodup_cons]
    refine ⟨fun hm => ?_, ih (fun b hb => h b (by simp [hb])) hn.2⟩
    obtain ⟨b, hb, he⟩ := List.mem_map.1 hm
    have h5 := h b (by simp [hb])
    have h6 := h a (by simp)
    have := toF_small (a := b) (b := a) ⟨h5.1, by omega⟩ ⟨h6.1, by omega⟩ he
    subst this
    exact hn.1 hb
theorem Sqr.xs (h : Sqr t l Q) : (xsL t l).Nodup ∧ (xsL t l).length = t + 1 := by
  obtain ⟨⟨h1, h2⟩, _⟩ := rowsB_true.1 h.ok
  constructor
  · have e : xsL t l = ((l.take (t + 1)).map (·.1)).map toF := by unfold xsL; rw [List.map_map]; rfl
    rw [e]
    refine nodup_map_toF _ (fun a ha => ?_) ?_
    · obtain ⟨r, hr, rfl⟩ := List.mem_map.1 ha
      exact h1 r (List.mem_of_mem_take hr)
    · rw [List.map_take]
      exact h2.sublist (List.take_sublist _ _)
  · unfold xsL
    rw [List.length_map, List.length_take]
    have := h.many
    omega
theorem Sqr.at (h : Sqr t l Q) {r : Int × List Int} (hr : r ∈ l.take (t + 1)) {j : Nat} (hj : j ≤ t) : peval (Q j) (toF r.1) = toF (r.2.getD j 0) := by
  have := (h.on j hj).2.2 (toF r.1, toF (r.2.getD j 0)) (by
    unfold ptsF colF
    rw [← List.map_take, List.map_map]
    exact List.mem_map.2 ⟨r, hr, rfl⟩)
  exact this
theorem Sqr.head (h : Sqr t l Q) {r : Int × List Int} (hr : r ∈ l.take (t + 1)) (y : F) : peval (toFs r.2) y = sqV t Q (toF r.1) y := by
  rw [row_eval (h.len r (List.mem_of_mem_take hr))]
  unfold sqV
  exact fsum_congr fun j hj => by rw [h.at hr (by omega)]
/-- agreeing at the first rows' places, numbers are the same -/
theorem Sqr.same (h : Sqr t l Q) (f g : Nat → F) (he : ∀ r ∈ l.take (t + 1), fsum (t + 1) (fun j => f j * toF r.1 ^ j) = fsum (t + 1) (fun j => g j * toF r.1 ^ j)) : ∀ j, j ≤ t → f j = g j := by
  have hc : ∀ (f : Nat → F) (j : Nat), j ≤ t → co ((List.range (t + 1)).map f) j = f j := fun f j hj => co_get (by rw [List.getElem?_map, List.getElem?_range (by omega)]; rfl)
  have hv : ∀ (f : Nat → F) (x : F), peval ((List.range (t + 1)).map f) x = fsum (t + 1) fun j => f j * x ^ j := fun f x => by
    rw [peval_sum _ _ (t + 1) (by simp)]
    exact fsum_congr fun j hj => by rw [hc f j (by omega)]
  have := agree ((List.range (t + 1)).map f) ((List.range (t + 1)).map g) (xsL t l) h.xs.1 (by rw [h.xs.2]; simp) (by rw [h.xs.2]; simp) fun x hx => by
    obtain ⟨r, hr, rfl⟩ := List.mem_map.1 hx
    rw [hv, hv]
    exact he r hr
  intro j hj
  rw [← hc f j hj, ← hc g j hj]
  exact this j
theorem fit_eq {a b : Int × List Int} (h : fitB a b = true) : peval (toFs a.2) (toF b.1) = peval (toFs b.2) (toF a.1) := of_decide_eq_true h
theorem Sqr.sym (h : Sqr t l Q) (hf : ∀ a ∈ l, ∀ b ∈ l, fitB a b = true) : ∀ i j, i ≤ t → j ≤ t → co (Q i) j = co (Q j) i := by
  -- for each first row: numbers m of both sides are the same
  have h1 : ∀ r ∈ l.take (t + 1), ∀ m, m ≤ t → fsum (t + 1) (fun j => co (Q j) m * toF r.1 ^ j) = fsum (t + 1) (fun j => co (Q m) j * toF r.1 ^ j) := by
    intro r hr
    refine h.same (fun m => fsum (t + 1) (fun j => co (Q j) m * toF r.1 ^ j)) (fun m => fsum (t + 1) (fun j => co (Q m) j * toF r.1 ^ j)) fun s hs => ?_
    have e1 : fsum (t + 1) (fun m => fsum (t + 1) (fun j => co (Q j) m * toF r.1 ^ j) * toF s.1 ^ m) = sqV t Q (toF s.1) (toF r.1) := by
      rw [sqV_sum h.qlen, fsum_swap]
      refine fsum_congr fun m hm => ?_
      rw [← fsum_mul_right]
      exact fsum_congr fun j hj => by grind
    have e2 : fsum (t + 1) (fun m => fsum (t + 1) (fun j => co (Q m) j * toF r.1 ^ j) * toF s.1 ^ m) = sqV t Q (toF r.1) (toF s.1) := by
      rw [sqV_sum h.qlen]
      refine fsum_congr fun m hm => ?_
      rw [← fsum_mul_right]
    rw [e1, e2, ← h.head hs, ← h.head hr]
    exact fit_eq (hf s (List.mem_of_mem_take hs) r (List.mem_of_mem_take hr))
  intro i j hi hj
  exact (h.same (fun i => co (Q i) j) (fun i => co (Q j) i) (fun r hr => h1 r hr j hj)) i hi
theorem Sqr.all (h : Sqr t l Q) (hf : ∀ a ∈ l, ∀ b ∈ l, fitB a b = true) {r : Int × List Int} (hr : r ∈ l) {j : Nat} (hj : j ≤ t) : peval (Q j) (toF r.1) = toF (r.2.getD j 0) := by
  refine (h.same (fun j => peval (Q j) (toF r.1)) (fun j => toF (r.2.getD j 0)) fun s hs => ?_) j hj
  rw [← row_eval (h.len r hr)]
  show sqV t Q (toF r.1) (toF s.1) = _
  rw [sqV_sym h.qlen (h.sym hf), ← h.head hs]
  exact fit_eq (hf s (List.mem_of_mem_take hs) r hr)
theorem badL_nil_iff {Q : List F} {l : List (Int × Int)} : badL Q l = [] ↔ ∀ s ∈ l, peval Q (toF s.1) = toF s.2 := by
  unfold badL
  rw [List.map_eq_nil_iff, List.filter_eq_nil_iff]
  refine ⟨fun h s hs => ?_, fun h s hs => ?_⟩
  · have := h s hs
    simpa using this
  · simp [h s hs]
theorem col_mem {l : List (Int × List Int)} {j : Nat} {s : Int × Int} : s ∈ colF l j ↔ ∃ r ∈ l, s = (r.1, r.2.getD j 0) := by
  unfold colF
  rw [List.mem_map]
  exact ⟨fun ⟨r, h1, h2⟩ => ⟨r, h1, h2.symm⟩, fun ⟨r, h1, h2⟩ => ⟨r, h1, h2.symm⟩⟩
/-- rows fit pair by pair: so and only so each column is one polynomial, and the square is its own mirror -/
theorem Sqr.law (h : Sqr t l Q) : (∀ a ∈ l, ∀ b ∈ l, fitB a b = true) ↔ (∀ j, j ≤ t → badL (Q j) (colF l j) = []) ∧ (∀ i j, i ≤ t → j ≤ t → co (Q i) j = co (Q j) i) := by
  refine ⟨fun hf => ⟨fun j hj => badL_nil_iff.2 fun s hs => ?_, h.sym hf⟩, fun ⟨hb, hs⟩ a ha b hb' => ?_⟩
  · obtain ⟨r, hr, rfl⟩ := col_mem.1 hs
    exact h.all hf hr hj
  · have hv : ∀ r ∈ l, ∀ y, peval (toFs r.2) y = sqV t Q (toF r.1) y := fun r hr y => by
      rw [row_eval (h.len r hr)]
      unfold sqV
      exact fsum_congr fun j hj => by rw [badL_nil_iff.1 (hb j (by omega)) _ (col_mem.2 ⟨r, hr, rfl⟩)]
    unfold fitB
    rw [hv a ha, hv b hb']
    exact decide_eq_true (sqV_sym h.qlen hs _ _)
theorem heads_col (l : List (Int × List Int)) : headsL l = colF l 0 := by
  unfold headsL colF
  refine List.map_congr_left fun r _ => ?_
  cases r.2 with
  | nil => rfl
  | cons a L => rfl
theorem Sqr.told (h : Sqr t l Q) (hf : ∀ a ∈ l, ∀ b ∈ l, fitB a b = true) {Q1 : List F} (h1 : Interp (ptsF (headsL l)) Q1) : peval Q1 0 = co (Q 0) 0 := by
  have hq := h.qlen 0 (by omega)
  have hi : Interp (ptsF (headsL l)) (Q 0) := by
    refine ⟨(h.on 0 (by omega)).1, by simp only [ptsF, headsL, List.length_map]; have := h.many; omega, fun q hq => ?_⟩
    rw [heads_col] at hq
    unfold ptsF colF at hq
    rw [List.map_map] at hq
    obtain ⟨r, hr, rfl⟩ := List.mem_map.1 hq
    exact h.all hf hr (by omega)
  rw [Interp.unique (pts_nodup (heads_ats h.ok)) h1 hi]
  cases Q 0 with
  | nil => rfl
  | cons a L => simp only [peval, co_cons_zero, F_zm, F_az]
end Go.Proofs.Ytegmeepogjijiaa
namespace Go.Proofs.Ytegmeepogjijiaa
open Go.RowKit Go.Maps Croft

set_option maxRecDepth 100000 in
set_option maxHeartbeats 2000000 in
theorem rRows_any (va : Value) (l : List (Int × List Int)) (w : World) (h1 : IsRows w va l) :
    Calls Try.prog 52 #[va] w fun e w' => e = .returned (.bool (rowsB l)) ∧ ∃ n, w' = w.drewN n := by
  have KA := Lib.hid h1
  obtain ⟨A1, c1, vs1, rfl, hc1, hm1, hl1, hi1, hr1, ha1⟩ := h1
  clear hi1 hr1 hm1 ha1
  suffices hgoal : ∀ Post : Ending → World → Prop, (∀ e w', (e = .returned (.bool (rowsB l)) ∧ ∃ n, w' = w.drewN n) → Post e w') → Calls Try.prog 52 #[.slice A1 l.length c1] w Post from hgoal _ fun e w' h => h
  intro Post hpo
  have HP := Lib.hid hpo
  clear hpo
  go_enter Try.func52, Try.ntmps52
  go_wp2_with fail
  go_loopw [3] (fun i wr => ∃ k n : Nat, k ≤ l.length ∧ i = .int .i64 k ∧ rowsB (l.take k) = true ∧ wr = w.drewN n) (fun i _ => l.length - (intOf i).toNat)
  case atStart => exact ⟨0, 0, Nat.zero_le _, rfl, by simp [rowsB, partyB, lenOk], rfl⟩
  case round =>
    obtain ⟨k, n, hk, rfl, hok, hw⟩ := hrel
    have KAr := Lib.hid (show IsRows wr (.slice A1 l.length c1) l by rw [hw]; exact KA.out.below (below_drewN (Below.refl _ _) n))
    have HW := Lib.hid hw
    have HK := Lib.hid hok
    clear hw hok
    by_cases hlt : k < l.length
    · obtain ⟨A, c, vs, hA, _, _, _, hi, hr, ha⟩ := KAr.out
      injection hA with hA1 hA2 hA3
      subst hA1 hA3
      clear hA2
      obtain ⟨b1, o1, z, x, r, rfl, hb1, hvx, hgk, hz64, hxr, hca, hcb⟩ := row_at hr ha hi hlt
      obtain ⟨Ax, cx, rfl, hcx, _, hlx, _, _⟩ := hxr
      have HN := Lib.hid (rowsB_next hgk)
      have HG := Lib.hid hgk
      clear hr ha hi hgk hb1 hvx
      by_cases hin : 1 ≤ z ∧ z ≤ 9
      · have HD := Lib.hid (show decide (1 ≤ z ∧ z ≤ 9) = true from decide_eq_true hin)
        clear hin
        by_cases hln : 1 ≤ r.length ∧ r.length ≤ 5
        · have HL := Lib.hid (show decide ((1 : Int) ≤ (r.length : Int) ∧ (r.length : Int) ≤ 5) = true by simp; omega)
          have HL2 := Lib.hid (show decide (1 ≤ r.length ∧ r.length ≤ 5) = true from decide_eq_true hln)
          clear hln
          go_wp2_with fail
          refine (rIn_any _ _ _ _).mono ?_
          rintro e w' ⟨rfl, rfl⟩
          rw [HD.out]
          try dsimp only
          go_wp2_with fail
          refine (rIn_any _ _ _ _).mono ?_
          rintro e w' ⟨rfl, rfl⟩
          rw [HL.out]
          try dsimp only
          clear hca hcb
          go_wp2_with fail
          obtain ⟨wo, hwo⟩ : ∃ wo, wo = wr := ⟨_, rfl⟩
          subst hwo
          go_loopw [4] (fun i wr => ∃ j m : Nat, j ≤ k ∧ i = .int .i64 j ∧ (∀ i s, i < j → l[i]? = some s → s.1 ≠ z) ∧ wr = wo.drewN m) (fun i _ => k - (intOf i).toNat)
          case atStart => exact ⟨0, 0, Nat.zero_le _, rfl, fun i s h => by omega, rfl⟩
          case round =>
            obtain ⟨j, m, hj, rfl, hne, hw2⟩ := hrel
            have KA2 := Lib.hid (show IsRows wr (.slice (some ⟨b1, o1, none⟩) l.length c1) l by rw [hw2]; exact KAr.out.below (below_drewN (Below.refl _ _) m))
            have HW2 := Lib.hid hw2
            have HN2 := Lib.hid hne
            clear hne hw2
            by_cases hlt2 : j < k
            · obtain ⟨A, c, vs, hA, _, _, _, hi, hr, ha⟩ := KA2.out
              injection hA with hA1 hA2 hA3
              subst hA1 hA3
              clear hA2
              obtain ⟨b2, o2, z2, x2, r2, hA, hb2, _, hg2, hz2, _, hd1, _⟩ := row_at hr ha hi (show j < l.length by omega)
              obtain ⟨b3, o3, z3, x3, r3, hA3, hb3, _, hg3, hz3, _, hd3, _⟩ := row_at hr ha hi hlt
              injection hA with hA
              injection hA with hA1 hA2
              subst hA1 hA2
              injection hA3 with hA3
              injection hA3 with hA4 hA5
              subst hA4 hA5
              have he3 : (z3, r3) = (z, r) := by have := HG.out; rw [hg3] at this; injection this
              injection he3 with he4 he5
              subst he4
              have HG2 := Lib.hid hg2
              clear hg2 hg3 hr ha hi hb2 hb3 he5
              by_cases heq : z2 = z3
              · subst heq
                go_wp2_with fail
                go_quiet (fail)
                go_wp2_with fail
                refine HP.out _ _ ⟨?_, n + (m + nq), ?_⟩
                · rw [rowsB_mono (k + 1) (by
                    rw [HN.out, decide_eq_true (p := z2 ∈ (l.take k).map (·.1)) (List.mem_map.2 ⟨_, List.mem_of_getElem? (i := j) (by rw [List.getElem?_take, if_pos hlt2]; exact HG2.out), rfl⟩)]
                    simp)]
                  rfl
                · rw [HW2.out, HW.out, World.drewN_drewN, World.drewN_drewN]
              · have hbne : (z2 == z3) = false := by rw [beq_eq_false_iff_ne]; exact heq
                have HNE := Lib.hid heq
                clear heq
                go_wp2_with fail
                go_quiet (fail)
                go_wp2_with fail
                refine ⟨⟨j + 1, m + nq, by omega, by go_num, fun i s hi hs => ?_, by rw [HW2.out, World.drewN_drewN]⟩, by simp [intOf] <;> omega⟩
                by_cases hij : i = j
                · subst hij; rw [HG2.out] at hs; injection hs with hs; subst hs; exact HNE.out
                · exact HN2.out i s (by omega) hs
            · obtain rfl : j = k := by omega
              have HM := Lib.hid (show rowsB (l.take (j + 1)) = true by
                have hnm : ¬ (z ∈ (l.take j).map (·.1)) := fun hm => by
                  obtain ⟨s, hs, hse⟩ := List.mem_map.1 hm
                  obtain ⟨i, hi, his⟩ := List.getElem_of_mem hs
                  simp only [List.length_take] at hi
                  refine HN2.out i s (by omega) ?_ hse
                  rw [← his, List.getElem_take]
                  exact List.getElem?_eq_getElem (by omega)
                rw [HN.out, HK.out, HD.out, HL2.out, decide_eq_false hnm]
                rfl)
              go_wp2_with fail
              exact ⟨⟨j + 1, n + m, by omega, by go_num, HM.out, by rw [HW2.out, HW.out, World.drewN_drewN]⟩, by simp [intOf] <;> omega⟩
        · have HL := Lib.hid (show decide ((1 : Int) ≤ (r.length : Int) ∧ (r.length : Int) ≤ 5) = false by simp; omega)
          have HF := Lib.hid (show rowsB l = false from rowsB_mono (k + 1) (by rw [HN.out, decide_eq_false hln]; simp))
          clear hln
          go_wp2_with fail
          refine (rIn_any _ _ _ _).mono ?_
          rintro e w' ⟨rfl, rfl⟩
          rw [HD.out]
          try dsimp only
          go_wp2_with fail
          refine (rIn_any _ _ _ _).mono ?_
          rintro e w' ⟨rfl, rfl⟩
          rw [HL.out]
          try dsimp only
          go_wp2_with fail
          exact HP.out _ _ ⟨by rw [HF.out]; rfl, n, HW.out⟩
      · have HD := Lib.hid (show decide (1 ≤ z ∧ z ≤ 9) = false from decide_eq_false hin)
        have HF := Lib.hid (show rowsB l = false from rowsB_mono (k + 1) (by rw [HN.out, decide_eq_false hin]; simp))
        clear hin
        go_wp2_with fail
        refine (rIn_any _ _ _ _).mono ?_
        rintro e w' ⟨rfl, rfl⟩
        rw [HD.out]
        try dsimp only
        go_wp2_with fail
        exact HP.out _ _ ⟨by rw [HF.out]; rfl, n, HW.out⟩
    · obtain rfl : k = l.length := by omega
      have HT := Lib.hid (show rowsB l = true by have := HK.out; rwa [List.take_length] at this)
      go_wp2_with fail
      exact HP.out _ _ ⟨by rw [HT.out]; rfl, n, HW.out⟩
/-- the row of a party -/
def rowAt (l : List (Int × List Int)) (i : Int) : Option (Int × List Int) := l.find? fun r => r.1 == i
theorem rowAt_hit {l : List (Int × List Int)} {i : Int} {k : Nat} {r : Int × List Int} (hn : ∀ (j : Nat) (s : Int × List Int), j < k → l[j]? = some s → s.1 ≠ i) (hk : l[k]? = some r) (hr : r.1 = i) : rowAt l i = some r := by
  unfold rowAt
  rw [List.find?_eq_some_iff_getElem]
  obtain ⟨hlt, he⟩ := List.getElem?_eq_some_iff.1 hk
  refine ⟨by simp [hr], k, hlt, he, fun j hj => ?_⟩
  have := hn j _ hj (List.getElem?_eq_getElem (Nat.lt_trans hj hlt))
  simpa using this
theorem rowAt_none {l : List (Int × List Int)} {i : Int} (hn : ∀ (j : Nat) (s : Int × List Int), l[j]? = some s → s.1 ≠ i) : rowAt l i = none := by
  unfold rowAt
  rw [List.find?_eq_none]
  intro s hs
  obtain ⟨j, hj⟩ := List.getElem?_of_mem hs
  simpa using hn j s hj
/-- what rowOf returns -/
def RowRes (w : World) (e : Ending) (w' : World) (l : List (Int × List Int)) (i : Int) : Prop :=
  Below w.heap.size w w' ∧ match rowAt l i with
  | none => e = .returned (.tuple #[.agg #[.int .i64 0, .slice none 0 0], .bool false])
  | some r => ∃ x, e = .returned (.tuple #[.agg #[.int .i64 r.1, x], .bool true]) ∧ IsNums w' x r.2
set_option maxRecDepth 100000 in
set_option maxHeartbeats 2000000 in
theorem rRowOf_any (va : Value) (l : List (Int × List Int)) (i : Int) (w : World) (h1 : IsRows w va l) :
    Calls Try.prog 111 #[va, .int .i64 i] w fun e w' => RowRes w e w' l i := by
  have KA := Lib.hid h1
  obtain ⟨A1, c1, vs1, rfl, hc1, hm1, hl1, hi1, hr1, ha1⟩ := h1
  clear hi1 hr1 hm1 ha1
  suffices hgoal : ∀ Post : Ending → World → Prop, (∀ e w', RowRes w e w' l i → Post e w') → Calls Try.prog 111 #[.slice A1 l.length c1, .int .i64 i] w Post from hgoal _ fun e w' h => h
  intro Post hpo
  have HP := Lib.hid hpo
  clear hpo
  go_enter Try.func111, Try.ntmps111
  go_wp2_with fail
  have BX := Lib.hid (Box.new w 106 [.int .i64 0, .slice none 0 0])
  have B0 := Lib.hid ((Below.refl w.heap.size w).alloc (Nat.le_refl _) (.cells #[.int .i64 0, .slice none 0 0] 106))
  obtain ⟨w0, hw0⟩ : ∃ w0, w0 = w.alloc (.cells #[.int .i64 0, .slice none 0 0] 106) := ⟨_, rfl⟩
  rw [← hw0] at B0 ⊢
  replace BX := Lib.hid (show Box w0 w.heap.size 106 [.int .i64 0, .slice none 0 0] by rw [hw0]; exact BX.out)
  have KA0 := Lib.hid (KA.out.below B0.out)
  clear hw0
  have g0 := BX.out.cell (i := 0) rfl
  have g1 := BX.out.cell (i := 1) rfl
  go_loopw [6] (fun s wr => ∃ k : Nat, k ≤ l.length ∧ s = .int .i64 k ∧ (∀ (j : Nat) (s : Int × List Int), j < k → l[j]? = some s → s.1 ≠ i) ∧ wr = w0) (fun s _ => l.length - (intOf s).toNat)
  case atStart => exact ⟨0, Nat.zero_le _, rfl, fun i s h => by omega, rfl⟩
  case round =>
    obtain ⟨k, hk, rfl, hne, rfl⟩ := hrel
    have HN := Lib.hid hne
    clear hne
    by_cases hlt : k < l.length
    · obtain ⟨A, c, vs, hA, _, _, _, hi, hr, ha⟩ := KA0.out
      injection hA with hA1 hA2 hA3
      subst hA1 hA3
      clear hA2
      obtain ⟨b1, o1, z, x, r, rfl, hb1, hvx, hgk, hz64, hxr, hca, hcx⟩ := row_at hr ha hi hlt
      have HG := Lib.hid hgk
      have HX := Lib.hid hxr
      have KX := Lib.hid (show IsNums ((wr.setCell ⟨w.heap.size, 0, none⟩ (.int .i64 z)).setCell ⟨w.heap.size, 1, none⟩ x) x r by
        obtain ⟨A', c', vs', hA', _, _, _, hi', hr', ha'⟩ := KA.out
        injection hA' with hA1 hA2 hA3
        subst hA1 hA3
        obtain ⟨b3, o3, z3, x3, r3, hA3, hb3, _, hg3, _, hx3, _, hv3⟩ := row_at hr' ha' hi' hlt
        injection hA3 with hA3
        injection hA3 with hA4 hA5 _
        subst hA4 hA5
        have e3 : (z3, r3) = (z, r) := by have := HG.out; rw [hg3] at this; injection this
        injection e3 with e4 e5
        subst e4 e5
        have hx4 : x3 = x := by
          have := (B0.out.cell (p := ⟨b1, o1 + k * 2 + 1, none⟩) hb3).symm.trans hcx
          rw [hv3] at this
          injection this
        subst hx4
        exact hx3.below ((B0.out.grown (cell_grown wr w.heap.size 0 (.int .i64 z3)) B0.out.size (fun j hj => by cases hj; exact Nat.le_refl _)).grown (cell_grown _ w.heap.size 1 x3) (by simp; exact B0.out.size) (fun j hj => by cases hj; exact Nat.le_refl _)))
      obtain ⟨Ax, cx, rfl, _, _, _, _, _⟩ := hxr
      clear hr ha hi hgk hb1 hvx
      by_cases heq : z = i
      · have HR := Lib.hid (rowAt_hit HN.out HG.out heq)
        subst heq
        have BX1 := Lib.hid (BX.out.set 0 (.int .i64 z))
        have BX2 := Lib.hid (BX1.out.set 1 (.slice Ax r.length cx))
        have f0 := BX.out.frozen 0
        have f1 := BX1.out.frozen 1
        have g1' := BX1.out.cell (i := 1) rfl
        have g2 := BX2.out.cell (i := 0) rfl
        have g3 := BX2.out.cell (i := 1) rfl
        have B1 := Lib.hid (B0.out.grown (cell_grown wr w.heap.size 0 (.int .i64 z)) B0.out.size (fun j hj => by cases hj; exact Nat.le_refl _))
        have B2 := Lib.hid (B1.out.grown (cell_grown _ w.heap.size 1 (.slice Ax r.length cx)) B1.out.size (fun j hj => by cases hj; exact Nat.le_refl _))
        go_wp2_with fail
        have HX2 := Lib.hid (show IsNums ((wr.setCell ⟨w.heap.size, 0, none⟩ (.int .i64 z)).setCell ⟨w.heap.size, 1, none⟩ (.slice Ax r.length cx)) (.slice Ax r.length cx) r from KX.out)
        (try simp only [Exit.inBlock, Exit.then])
        refine bodyPost_ret (v := .tuple #[.agg #[.int .i64 z, .slice Ax r.length cx], .bool true]) ?_ rfl ?_
        · rw [results_cell_tmp rfl]
          go_simp
        · exact HP.out _ _ ⟨B2.out, by rw [HR.out]; exact ⟨_, rfl, HX2.out⟩⟩
      · have hbne : (z == i) = false := by rw [beq_eq_false_iff_ne]; exact heq
        have HNE := Lib.hid heq
        clear heq
        go_wp2_with fail
        refine ⟨⟨k + 1, by omega, by go_num, ⟨fun j s hj hs => ?_, trivial⟩⟩, by simp [intOf] <;> omega⟩
        by_cases hij : j = k
        · subst hij; rw [HG.out] at hs; injection hs with hs; subst hs; exact HNE.out
        · exact HN.out j s (by omega) hs
    · obtain rfl : k = l.length := by omega
      have HR := Lib.hid (show rowAt l i = none from rowAt_none fun j s hs => HN.out j s (List.getElem?_eq_some_iff.1 hs).1 hs)
      have BX1 := Lib.hid (BX.out.set 0 (.int .i64 0))
      have BX2 := Lib.hid (BX1.out.set 1 (.slice none 0 0))
      have f0 := BX.out.frozen 0
      have f1 := BX1.out.frozen 1
      have g1' := BX1.out.cell (i := 1) rfl
      have g2 := BX2.out.cell (i := 0) rfl
      have g3 := BX2.out.cell (i := 1) rfl
      have B1 := Lib.hid (B0.out.grown (cell_grown wr w.heap.size 0 (.int .i64 0)) B0.out.size (fun j hj => by cases hj; exact Nat.le_refl _))
      have B2 := Lib.hid (B1.out.grown (cell_grown _ w.heap.size 1 (.slice none 0 0)) B1.out.size (fun j hj => by cases hj; exact Nat.le_refl _))
      go_wp2_with fail
      (try simp only [Exit.inBlock, Exit.then])
      refine bodyPost_ret (v := .tuple #[.agg #[.int .i64 0, .slice none 0 0], .bool false]) ?_ rfl ?_
      · rw [results_cell_tmp rfl]
        go_simp
      · exact HP.out _ _ ⟨B2.out, by rw [HR.out]⟩
theorem RowRes.form {w w' : World} {e : Ending} {l : List (Int × List Int)} {i : Int} (h : RowRes w e w' l i) : Below w.heap.size w w' ∧ ∃ (z : Int) (A : Option Addr) (len c : Nat), e = .returned (.tuple #[.agg #[.int .i64 z, .slice A len c], .bool (rowAt l i).isSome]) ∧ ∀ a, rowAt l i = some a → IsNums w' (.slice A len c) a.2 := by
  obtain ⟨hb, h⟩ := h
  refine ⟨hb, ?_⟩
  cases hr : rowAt l i with
  | none =>
    rw [hr] at h
    exact ⟨0, none, 0, 0, h, fun a ha => by cases ha⟩
  | some r =>
    rw [hr] at h
    obtain ⟨x, rfl, hx⟩ := h
    obtain ⟨A, c, hv, _⟩ := id hx
    subst hv
    exact ⟨r.1, A, r.2.length, c, rfl, fun a ha => by injection ha with ha; subst ha; exact hx⟩
def pairCell (l : List (Int × List Int)) (i j : Int) : List (Int × Int) := match rowAt l i, rowAt l j with
  | some a, some b => if fitB a b = true then [] else [(i, j)]
  | _, _ => []
def prJ (l : List (Int × List Int)) (i : Nat) : Nat → List (Int × Int)
  | 0 => []
  | m + 1 => prJ l i m ++ pairCell l i ((i + 1 + m : Nat) : Int)
def prI (l : List (Int × List Int)) : Nat → List (Int × Int)
  | 0 => []
  | n + 1 => prI l n ++ prJ l (n + 1) (8 - n)
theorem pairCell_length (l : List (Int × List Int)) (i j : Int) : (pairCell l i j).length ≤ 1 := by
  unfold pairCell
  split
  · split <;> simp
  · simp
theorem prJ_length (l : List (Int × List Int)) (i : Nat) : ∀ m, (prJ l i m).length ≤ m
  | 0 => by simp [prJ]
  | m + 1 => by
    have := prJ_length l i m
    have := pairCell_length l i ((i + 1 + m : Nat) : Int)
    simp only [prJ, List.length_append]
    omega
theorem prI_length (l : List (Int × List Int)) : ∀ n, (prI l n).length ≤ 8 * n
  | 0 => by simp [prI]
  | n + 1 => by
    have := prI_length l n
    have := prJ_length l (n + 1) (8 - n)
    simp only [prI, List.length_append]
    omega
theorem rowAt_some {l : List (Int × List Int)} {i : Int} {r : Int × List Int} (h : rowAt l i = some r) : r ∈ l ∧ r.1 = i := by
  unfold rowAt at h
  exact ⟨List.mem_of_find?_eq_some h, by have := List.find?_some h; simpa using this⟩
set_option maxRecDepth 100000 in
set_option maxHeartbeats 2000000 in
theorem rPairs_any (va : Value) (l : List (Int × List Int)) (w : World) (h1 : IsRows w va l) :
    Calls Try.prog 54 #[va] w fun e w' => ∃ v, e = .returned v ∧ OwnPairs w' w.heap.size v (prI l 9) ∧ Below w.heap.size w w' := by
  have KA := Lib.hid h1
  suffices hgoal : ∀ Post : Ending → World → Prop, (∀ e w', (∃ v, e = .returned v ∧ OwnPairs w' w.heap.size v (prI l 9) ∧ Below w.heap.size w w') → Post e w') → Calls Try.prog 54 #[va] w Post from hgoal _ fun e w' h => h
  intro Post hpo
  have HP := Lib.hid hpo
  clear hpo h1
  go_enter Try.func54, Try.ntmps54
  go_wp2_with fail
  go_loopw [3, 4] (fun v i wr => ∃ n : Nat, n ≤ 9 ∧ i = .int .i64 ((n : Int) + 1) ∧ OwnPairs wr w.heap.size v (prI l n) ∧ Below w.heap.size w wr) (fun _ i _ => 10 - (intOf i).toNat)
  case atStart => exact ⟨0, by omega, rfl, OwnPairs.nil _ _, Below.refl _ _⟩
  case round =>
    obtain ⟨n, hn, rfl, hown, hbel⟩ := hrel
    have KO := Lib.hid hown
    have BEL := Lib.hid hbel
    clear hown hbel
    by_cases hlt : n < 9
    · have hd9 : decide ((n : Int) + 1 ≤ 9) = true := by simp; omega
      go_wp2_with fail
      go_loopw [3, 5] (fun v j wq => ∃ m : Nat, n + 1 + m ≤ 9 ∧ j = .int .i64 ((n : Int) + 1 + 1 + (m : Int)) ∧ OwnPairs wq w.heap.size v (prI l n ++ prJ l (n + 1) m) ∧ Below w.heap.size w wq) (fun _ j _ => 10 - (intOf j).toNat)
      case atStart => exact ⟨0, by omega, by go_num, by rw [show prI l n ++ prJ l (n + 1) 0 = prI l n by simp [prJ]]; exact KO.out, BEL.out⟩
      case round =>
        obtain ⟨m, hm, rfl, hown, hbel⟩ := hrel
        clear KO BEL
        have KO := Lib.hid hown
        have BEL := Lib.hid hbel
        have hsz := hbel.size
        clear hown hbel
        by_cases hlt2 : n + 1 + m < 9
        · have hd10 : decide ((n : Int) + 1 + 1 + (m : Int) ≤ 9) = true := by simp; omega
          go_wp2_with fail
          refine (rRowOf_any _ l _ _ (KA.out.below BEL.out)).mono ?_
          intro e W3 hrow
          obtain ⟨hb3, z3, A3, n3, c3, rfl, hx3⟩ := hrow.form
          obtain ⟨R3, hR3⟩ : ∃ R, R = rowAt l ((n : Int) + 1) := ⟨_, rfl⟩
          rw [← hR3] at hx3 ⊢
          have HR3 := Lib.hid hR3
          have HX3 := Lib.hid hx3
          have B3 := Lib.hid (below_trans BEL.out hb3 hsz)
          have KO3 := Lib.hid (KO.out.below hb3)
          have hs3 := B3.out.size
          clear hb3 hrow hR3 hx3 KO BEL
          try dsimp only
          obtain ⟨s3, hs3v⟩ : ∃ s, s = R3.isSome := ⟨_, rfl⟩
          have HS3 := Lib.hid hs3v
          rw [← hs3v]
          clear hs3v
          go_wp2_with fail
          have BX3 := Lib.hid (Box.new W3 106 [.int .i64 z3, .slice A3 n3 c3])
          have BW4 := Lib.hid ((Below.refl W3.heap.size W3).alloc (Nat.le_refl _) (.cells #[.int .i64 z3, .slice A3 n3 c3] 106))
          obtain ⟨W4, hW4⟩ : ∃ W4, W4 = W3.alloc (.cells #[.int .i64 z3, .slice A3 n3 c3] 106) := ⟨_, rfl⟩
          replace BX3 := Lib.hid (show Box W4 W3.heap.size 106 [.int .i64 z3, .slice A3 n3 c3] by rw [hW4]; exact BX3.out)
          rw [← hW4] at BW4 ⊢
          have HX4 := Lib.hid (fun a ha => (HX3.out a ha).below BW4.out)
          have KO4 := Lib.hid (KO3.out.below BW4.out)
          have B4 := Lib.hid (below_trans B3.out BW4.out hs3)
          obtain ⟨b3, hb3⟩ : ∃ b, b = W3.heap.size := ⟨_, rfl⟩
          rw [← hb3] at BX3 ⊢
          have hs4 := B4.out.size
          clear hW4 BW4 HX3 KO3 B3 hb3 hs3
          refine (rRowOf_any _ l _ _ (KA.out.below B4.out)).mono ?_
          intro e W5 hrow
          obtain ⟨hb5, z5, A5, n5, c5, rfl, hx5⟩ := hrow.form
          obtain ⟨R5, hR5⟩ : ∃ R, R = rowAt l ((n : Int) + 1 + 1 + (m : Int)) := ⟨_, rfl⟩
          rw [← hR5] at hx5 ⊢
          have HR5 := Lib.hid hR5
          have HX5 := Lib.hid hx5
          have B5 := Lib.hid (below_trans B4.out hb5 hs4)
          have KO5 := Lib.hid (KO4.out.below hb5)
          have HX45 := Lib.hid (fun a ha => (HX4.out a ha).below hb5)
          have BX35 := Lib.hid (BX3.out.below hb5)
          have hs5 := B5.out.size
          clear hb5 hrow hR5 hx5 KO4 B4 HX4 BX3
          try dsimp only
          obtain ⟨s5, hs5v⟩ : ∃ s, s = R5.isSome := ⟨_, rfl⟩
          have HS5 := Lib.hid hs5v
          rw [← hs5v]
          clear hs5v
          go_wp2_with fail
          have BX5 := Lib.hid (Box.new W5 106 [.int .i64 z5, .slice A5 n5 c5])
          have BW6 := Lib.hid ((Below.refl W5.heap.size W5).alloc (Nat.le_refl _) (.cells #[.int .i64 z5, .slice A5 n5 c5] 106))
          obtain ⟨W6, hW6⟩ : ∃ W6, W6 = W5.alloc (.cells #[.int .i64 z5, .slice A5 n5 c5] 106) := ⟨_, rfl⟩
          replace BX5 := Lib.hid (show Box W6 W5.heap.size 106 [.int .i64 z5, .slice A5 n5 c5] by rw [hW6]; exact BX5.out)
          rw [← hW6] at BW6 ⊢
          have HY3 := Lib.hid (fun a ha => (HX45.out a ha).below BW6.out)
          have HY5 := Lib.hid (fun a ha => (HX5.out a ha).below BW6.out)
          have KO6 := Lib.hid (KO5.out.below BW6.out)
          have B6 := Lib.hid (below_trans B5.out BW6.out hs5)
          have BX36 := Lib.hid (BX35.out.below BW6.out)
          obtain ⟨b5, hb5⟩ : ∃ b, b = W5.heap.size := ⟨_, rfl⟩
          rw [← hb5] at BX5 ⊢
          have hs6 := B6.out.size
          clear hW6 BW6 HX5 HX45 KO5 B5 hb5 hs5 BX35
          have g3 := BX36.out.cell (i := 1) rfl
          have g5 := BX5.out.cell (i := 1) rfl
          have hwi : IntKind.u64.wrap ((n : Int) + 1) = (n : Int) + 1 := by rw [IntKind.wrap_u64]; exact Int.emod_eq_of_lt (by omega) (by omega)
          have hwj : IntKind.u64.wrap ((n : Int) + 1 + 1 + (m : Int)) = (n : Int) + 1 + 1 + (m : Int) := by rw [IntKind.wrap_u64]; exact Int.emod_eq_of_lt (by omega) (by omega)
          have HJE := Lib.hid (show (((n + 1) + 1 + m : Nat) : Int) = (n : Int) + 1 + 1 + (m : Int) by omega)
          have HIE := Lib.hid (show ((n + 1 : Nat) : Int) = (n : Int) + 1 by omega)
          cases s3 with
          | false =>
            have HC := Lib.hid (show prI l n ++ prJ l (n + 1) (m + 1) = prI l n ++ prJ l (n + 1) m by
              have : pairCell l ((n + 1 : Nat) : Int) (((n + 1) + 1 + m : Nat) : Int) = [] := by
                unfold pairCell
                rw [HIE.out, ← HR3.out]
                cases hr : R3 with
                | none => rfl
                | some a => have := HS3.out; rw [hr] at this; cases this
              rw [show prJ l (n + 1) (m + 1) = prJ l (n + 1) m ++ pairCell l ((n + 1 : Nat) : Int) (((n + 1) + 1 + m : Nat) : Int) from rfl, this, List.append_nil])
            go_quiet (fail)
            go_wp2_with fail
            exact ⟨⟨m + 1, by omega, by go_num, by rw [HC.out]; exact KO6.out.drewN nq, below_drewN B6.out nq⟩, by simp [intOf] <;> omega⟩
          | true =>
            cases s5 with
            | false =>
              have HC := Lib.hid (show prI l n ++ prJ l (n + 1) (m + 1) = prI l n ++ prJ l (n + 1) m by
                have : pairCell l ((n + 1 : Nat) : Int) (((n + 1) + 1 + m : Nat) : Int) = [] := by
                  unfold pairCell
                  rw [HIE.out, HJE.out, ← HR3.out, ← HR5.out]
                  cases hr : R5 with
                  | none => cases R3 <;> rfl
                  | some a => have := HS5.out; rw [hr] at this; cases this
                rw [show prJ l (n + 1) (m + 1) = prJ l (n + 1) m ++ pairCell l ((n + 1 : Nat) : Int) (((n + 1) + 1 + m : Nat) : Int) from rfl, this, List.append_nil])
              go_quiet (fail)
              go_wp2_with fail
              exact ⟨⟨m + 1, by omega, by go_num, by rw [HC.out]; exact KO6.out.drewN nq, below_drewN B6.out nq⟩, by simp [intOf] <;> omega⟩
            | true =>
              obtain ⟨a, ha⟩ := Option.isSome_iff_exists.1 HS3.out.symm
              obtain ⟨b, hb⟩ := Option.isSome_iff_exists.1 HS5.out.symm
              have HA := Lib.hid ha
              have HB := Lib.hid hb
              have HXA := Lib.hid (HY3.out a ha)
              have HXB := Lib.hid (HY5.out b hb)
              clear ha hb
              have ha1 := (rowAt_some (HR3.out.symm.trans HA.out)).2
              have hb1 := (rowAt_some (HR5.out.symm.trans HB.out)).2
              by_cases hf : peval (toFs a.2) (toF ((n : Int) + 1 + 1 + (m : Int))) = peval (toFs b.2) (toF ((n : Int) + 1))
              · have hne : (ofF (peval (toFs a.2) (toF ((n : Int) + 1 + 1 + (m : Int)))) != ofF (peval (toFs b.2) (toF ((n : Int) + 1)))) = false := by rw [hf]; simp
                have HC := Lib.hid (show prI l n ++ prJ l (n + 1) (m + 1) = prI l n ++ prJ l (n + 1) m by
                  have : pairCell l ((n + 1 : Nat) : Int) (((n + 1) + 1 + m : Nat) : Int) = [] := by
                    unfold pairCell
                    rw [HIE.out, HJE.out, ← HR3.out, ← HR5.out, HA.out, HB.out]
                    dsimp only
                    rw [if_pos]
                    unfold fitB
                    rw [ha1, hb1]
                    exact decide_eq_true hf
                  rw [show prJ l (n + 1) (m + 1) = prJ l (n + 1) m ++ pairCell l ((n + 1 : Nat) : Int) (((n + 1) + 1 + m : Nat) : Int) from rfl, this, List.append_nil])
                clear hf ha1 hb1
                go_quiet ((first | exact quietL (rEval_any _ a.2 _ _ (HXA.out.drewN _) ⟨by omega, by omega⟩) | exact quietL (rEval_any _ b.2 _ _ (HXB.out.drewN _) ⟨by omega, by omega⟩)))
                go_wp2_with fail
                exact ⟨⟨m + 1, by omega, by go_num, by rw [HC.out]; exact KO6.out.drewN nq, below_drewN B6.out nq⟩, by simp [intOf] <;> omega⟩
              · have hne : (ofF (peval (toFs a.2) (toF ((n : Int) + 1 + 1 + (m : Int)))) != ofF (peval (toFs b.2) (toF ((n : Int) + 1)))) = true := by
                  rw [bne_iff_ne]
                  exact fun h => hf (ofF_inj h)
                have HC := Lib.hid (show prI l n ++ prJ l (n + 1) (m + 1) = (prI l n ++ prJ l (n + 1) m) ++ [((n : Int) + 1, (n : Int) + 1 + 1 + (m : Int))] by
                  have : pairCell l ((n + 1 : Nat) : Int) (((n + 1) + 1 + m : Nat) : Int) = [((n : Int) + 1, (n : Int) + 1 + 1 + (m : Int))] := by
                    unfold pairCell
                    rw [HIE.out, HJE.out, ← HR3.out, ← HR5.out, HA.out, HB.out]
                    dsimp only
                    rw [if_neg]
                    unfold fitB
                    rw [ha1, hb1, decide_eq_false hf]
                    simp
                  rw [show prJ l (n + 1) (m + 1) = prJ l (n + 1) m ++ pairCell l ((n + 1 : Nat) : Int) (((n + 1) + 1 + m : Nat) : Int) from rfl, this, List.append_assoc])
                have HLN := Lib.hid (show (prI l n ++ prJ l (n + 1) m).length + 1 ≤ 8796093022208 by
                  have := prI_length l n
                  have := prJ_length l (n + 1) m
                  rw [List.length_append]
                  omega)
                clear hf ha1 hb1
                go_quiet ((first | exact quietL (rEval_any _ a.2 _ _ (HXA.out.drewN _) ⟨by omega, by omega⟩) | exact quietL (rEval_any _ b.2 _ _ (HXB.out.drewN _) ⟨by omega, by omega⟩)))
                have hs7 : w.heap.size ≤ (W6.drewN nq).heap.size := hs6
                go_wp2_with (at_builtin; go_loud (refine wpList_push_pair rfl _ _ rfl w.heap.size _ _ ((n : Int) + 1) ((n : Int) + 1 + 1 + (m : Int)) (W6.drewN nq).heap.size 1 rfl ((KO6.out.drewN nq).alloc _) rfl (pair_cell0 _ _ _ _) (pair_cell1 _ _ _ _) (by unfold I64; omega) (by unfold I64; omega) HLN.out (by rw [size_alloc]; omega) ?_))
                intro v' w5 hown' hbel' _
                have K5 := Lib.hid (show OwnPairs w5 w.heap.size v' (prI l n ++ prJ l (n + 1) (m + 1)) by
                  rw [HC.out]
                  first
                    | exact hown'
                    | (rw [List.append_assoc]; exact hown'))
                have B5 := Lib.hid (((below_drewN B6.out nq).alloc hs7 (.cells #[.int .i64 ((n : Int) + 1), .int .i64 ((n : Int) + 1 + 1 + (m : Int))] 90)).trans hbel')
                clear hown' hbel'
                go_wp2_with fail
                exact ⟨⟨m + 1, by omega, by go_num, K5.out, B5.out⟩, by simp [intOf] <;> omega⟩
        · obtain rfl : m = 8 - n := by omega
          have hd10 : decide ((n : Int) + 1 + 1 + ((8 - n : Nat) : Int) ≤ 9) = false := by simp; omega
          go_wp2_with fail
          go_roundw
          case rel => exact ⟨n + 1, by omega, by go_num, by rw [show prI l (n + 1) = prI l n ++ prJ l (n + 1) (8 - n) from rfl]; exact KO.out, BEL.out⟩
          case measure => simp [intOf] <;> omega
    · obtain rfl : n = 9 := by omega
      go_wp2_with fail
      exact HP.out _ _ ⟨_, rfl, KO.out, BEL.out⟩
end Go.Proofs.Ytegmeepogjijiaa
namespace Go.Proofs.Ytegmeepogjijiaa
open Go.RowKit Go.Maps Croft

/-- the columns are polynomials, and the square its own mirror -/
def Fits (t : Nat) (l : List (Int × List Int)) (Q : Nat → List F) : Prop := (∀ j, j ≤ t → badL (Q j) (colF l j) = []) ∧ (∀ i j, i ≤ t → j ≤ t → co (Q i) j = co (Q j) i)
/-- a column's polynomial, filled up -/
def padQ (t : Nat) (q : List F) : List Int := ofFs q ++ List.replicate (t + 1 - q.length) 0
theorem padQ_length {t : Nat} {q : List F} (h : q.length ≤ t + 1) : (padQ t q).length = t + 1 := by
  unfold padQ
  rw [List.length_append, ofFs_length, List.length_replicate]
  omega
theorem padQ_get {t : Nat} {q : List F} (h : q.length ≤ t + 1) {i : Nat} (hi : i ≤ t) : (padQ t q)[i]? = some (ofF (co q i)) := by
  unfold padQ
  by_cases hlt : i < q.length
  · rw [List.getElem?_append_left (by rw [ofFs_length]; exact hlt)]
    exact ofFs_get (get_co hlt)
  · rw [List.getElem?_append_right (by rw [ofFs_length]; omega), ofFs_length, List.getElem?_replicate, if_pos (by omega), co_of_le (by omega)]
    rfl
theorem colF_length (l : List (Int × List Int)) (j : Nat) : (colF l j).length = l.length := by simp [colF]
theorem col_next {l : List (Int × List Int)} {j k : Nat} {a : Int} {r : List Int} {y : Int} (h : l[k]? = some (a, r)) (hy : r[j]? = some y) : colF (l.take (k + 1)) j = colF (l.take k) j ++ [(a, y)] := by
  rw [List.take_add_one, h]
  simp [colF, List.getD, hy]
theorem col_ats {l : List (Int × List Int)} (h : rowsB l = true) (j k : Nat) : AtsOk ((colF l j).take k) 2147483646 := by
  obtain ⟨⟨h1, h2⟩, _⟩ := rowsB_true.1 h
  have hm : (colF l j).map (·.1) = l.map (·.1) := by simp [colF]
  refine ⟨fun s hs => ?_, ?_⟩
  · obtain ⟨r, hr, rfl⟩ := col_mem.1 (List.mem_of_mem_take hs)
    have := h1 r hr
    exact ⟨this.1, by have := this.2; dsimp only; omega⟩
  · rw [List.map_take, hm]
    exact h2.sublist (List.take_sublist _ _)
theorem sqr_ex {t : Nat} {l : List (Int × List Int)} (h : rowsB l = true) (hlen : ∀ r ∈ l, r.2.length = t + 1) (hm : t + 1 ≤ l.length) : ∃ Q, Sqr t l Q := by
  have : ∀ j, ∃ q, Interp (ptsF ((colF l j).take (t + 1))) q := fun j => interp_ex (pts_nodup (col_ats h j (t + 1)))
  refine ⟨fun j => Classical.choose (this j), h, hlen, hm, fun j _ => Classical.choose_spec (this j)⟩
theorem lens_of {t : Nat} {l : List (Int × List Int)} (h : l.any (badLen (t : Int)) = false) : ∀ r ∈ l, r.2.length = t + 1 := by
  rw [List.any_eq_false] at h
  intro r hr
  have := h r hr
  unfold badLen at this
  simp only [bne_iff_ne, ne_eq, Decidable.not_not] at this
  omega
theorem any_next {t : Int} {l : List (Int × List Int)} {k : Nat} {r : Int × List Int} (h : l[k]? = some r) : (l.take (k + 1)).any (badLen t) = ((l.take k).any (badLen t) || badLen t r) := by
  rw [List.take_add_one, h, List.any_append]
  simp
theorem fits_no_col {t : Nat} {l : List (Int × List Int)} {Q : Nat → List F} {j : Nat} (hj : j ≤ t) (h : badL (Q j) (colF l j) ≠ []) : ¬ Fits t l Q := fun hf => h (hf.1 j hj)
def vlenJ : Value → Nat
  | .slice _ n _ => n
  | _ => 0
theorem rep_more (xs : List Int) (k : Nat) : xs ++ List.replicate k 0 ++ [0] = xs ++ List.replicate (k + 1) 0 := by
  rw [List.append_assoc, ← List.replicate_succ']
theorem pads_next (t j : Nat) (Q : Nat → List F) : (List.range (j + 1)).map (fun q => padQ t (Q q)) = (List.range j).map (fun q => padQ t (Q q)) ++ [padQ t (Q j)] := by rw [List.range_succ, List.map_append]; rfl
theorem rJoin_arg (t : Int) (va : Value) (w : World) (h : ¬ (0 ≤ t ∧ t ≤ 4)) :
    Calls Try.prog 51 #[.int .i64 t, va] w fun e w' => NumRes w e w' 0 1 := by
  have HT := Lib.hid (show decide (0 ≤ t ∧ t ≤ 4) = false from decide_eq_false h)
  go_enter Try.func51, Try.ntmps51
  go_wp2_with fail
  refine (rIn_any _ _ _ _).mono ?_
  rintro e w' ⟨rfl, rfl⟩
  rw [HT.out]
  try dsimp only
  go_wp2_with fail
  go_ret2
  exact ⟨rfl, Below.refl _ _⟩
def JRes (w : World) (e : Ending) (w' : World) (t : Nat) (l : List (Int × List Int)) : Prop :=
  ((rowsB l && !(l.any (badLen (t : Int)))) = false → NumRes w e w' 0 5) ∧ ((rowsB l && !(l.any (badLen (t : Int)))) = true → l.length < t + 1 → NumRes w e w' 0 4) ∧
  ((rowsB l && !(l.any (badLen (t : Int)))) = true → t + 1 ≤ l.length → ∃ Q, Sqr t l Q ∧ (Fits t l Q → NumRes w e w' (ofF (co (Q 0) 0)) 0) ∧ (¬ Fits t l Q → NumRes w e w' 0 6))
set_option maxRecDepth 100000 in
set_option maxHeartbeats 4000000 in
theorem rJoin_any (t : Nat) (va : Value) (l : List (Int × List Int)) (w : World) (h1 : IsRows w va l) (ht : t ≤ 4) :
    Calls Try.prog 51 #[.int .i64 t, va] w fun e w' => JRes w e w' t l := by
  have HT := Lib.hid (show decide ((0 : Int) ≤ (t : Int) ∧ (t : Int) ≤ 4) = true by simp; omega)
  have KA := Lib.hid h1
  obtain ⟨A1, c1, vs1, rfl, hc1, hm1, hl1, hi1, hr1, ha1⟩ := h1
  have HI := Lib.hid hi1
  clear hi1 hr1 hm1 ha1
  suffices hgoal : ∀ Post : Ending → World → Prop, (∀ e w', JRes w e w' t l → Post e w') → Calls Try.prog 51 #[.int .i64 t, .slice A1 l.length c1] w Post from hgoal _ fun e w' h => h
  intro Post hpo
  have HP := Lib.hid hpo
  clear hpo
  go_enter Try.func51, Try.ntmps51
  go_wp2_with fail
  refine (rIn_any _ _ _ _).mono ?_
  rintro e w' ⟨rfl, rfl⟩
  rw [HT.out]
  try dsimp only
  go_wp2_with fail
  refine (rRows_any _ l _ KA.out).mono ?_
  rintro e W1 ⟨rfl, d, hw1⟩
  have B1 := Lib.hid (show Below w.heap.size w W1 by rw [hw1]; exact below_drewN (Below.refl _ _) d)
  have K1 := Lib.hid (KA.out.below B1.out)
  clear hw1
  obtain ⟨rb, hrb⟩ : ∃ b, b = rowsB l := ⟨_, rfl⟩
  rw [← hrb]
  have HRB := Lib.hid hrb
  clear hrb
  try dsimp only
  go_wp2_with fail
  go_loopw [6, 7] (fun o i wr => ∃ k : Nat, k ≤ l.length ∧ i = .int .i64 k ∧ o = .bool (rb && !((l.take k).any (badLen (t : Int)))) ∧ wr = W1) (fun _ i _ => l.length - (intOf i).toNat)
  case atStart => exact ⟨0, Nat.zero_le _, rfl, by simp, rfl⟩
  case round =>
    obtain ⟨k, hk, rfl, rfl, rfl⟩ := hrel
    by_cases hlt : k < l.length
    · obtain ⟨A, c, vs, hA, _, _, _, hi, hr, ha⟩ := K1.out
      injection hA with hA1 hA2 hA3
      subst hA1 hA3
      clear hA2
      obtain ⟨b1, o1, z, x, r, rfl, hb1, hvx, hgk, hz64, hxr, hca, hcb⟩ := row_at hr ha hi hlt
      obtain ⟨Ax, cx, rfl, hcx, hmx, hlx, hux, hrx⟩ := hxr
      have HN := Lib.hid (any_next (t := (t : Int)) hgk)
      have HBL := Lib.hid (show badLen (t : Int) (z, r) = ((r.length : Int) != (t : Int) + 1) from rfl)
      obtain ⟨bt, hbt⟩ : ∃ bt, bt = (rb && !((l.take k).any (badLen (t : Int)))) := ⟨_, rfl⟩
      have HBT := Lib.hid hbt
      rw [← hbt]
      clear hr ha hi hgk hb1 hvx hux hrx hbt
      cases bt with
      | false =>
        have HF := Lib.hid (show (rb && !((l.take (k + 1)).any (badLen (t : Int)))) = false by
          have := HBT.out
          rw [HN.out]
          revert this
          cases rb <;> cases (l.take k).any (badLen (t : Int)) <;> simp)
        go_wp2_with fail
        exact ⟨⟨k + 1, by omega, by go_num, by rw [HF.out], trivial⟩, by simp [intOf] <;> omega⟩
      | true =>
        have HF := Lib.hid (show (rb && !((l.take (k + 1)).any (badLen (t : Int)))) = decide ((r.length : Int) = (t : Int) + 1) by
          have := HBT.out
          rw [HN.out, HBL.out]
          revert this
          by_cases he : (r.length : Int) = (t : Int) + 1
          · rw [decide_eq_true he, (bne_eq_false_iff_eq).2 he]
            cases rb <;> cases (l.take k).any (badLen (t : Int)) <;> simp
          · rw [decide_eq_false he, (bne_iff_ne).2 he]
            cases rb <;> cases (l.take k).any (badLen (t : Int)) <;> simp)
        go_wp2_with fail
        all_goals exact ⟨⟨k + 1, by omega, by go_num, by rw [HF.out]; first | rfl | simp [*], trivial⟩, by simp [intOf] <;> omega⟩
    · obtain rfl : k = l.length := by omega
      rw [List.take_length]
      obtain ⟨bt, hbt⟩ : ∃ bt, bt = (rb && !(l.any (badLen (t : Int)))) := ⟨_, rfl⟩
      have HBT := Lib.hid (show (rowsB l && !(l.any (badLen (t : Int)))) = bt by rw [hbt, HRB.out])
      rw [← hbt]
      clear hbt
      cases bt with
      | false =>
        go_wp2_with fail
        exact HP.out _ _ ⟨fun _ => ⟨rfl, B1.out⟩, fun h => by rw [HBT.out] at h; (cases h), fun h => by rw [HBT.out] at h; (cases h)⟩
      | true =>
        have hro : rowsB l = true ∧ l.any (badLen (t : Int)) = false := by
          have := HBT.out
          revert this
          cases rowsB l <;> cases l.any (badLen (t : Int)) <;> simp
        by_cases hfew : l.length < t + 1
        · have hd : decide ((l.length : Int) < (t : Int) + 1) = true := by simp; omega
          go_wp2_with fail
          exact HP.out _ _ ⟨fun h => by rw [HBT.out] at h; (cases h), fun _ _ => ⟨rfl, B1.out⟩, fun _ h => absurd hfew (by omega)⟩
        · have hd : decide ((l.length : Int) < (t : Int) + 1) = false := by simp; omega
          obtain ⟨Q, hQ⟩ := sqr_ex hro.1 (lens_of hro.2) (show t + 1 ≤ l.length by omega)
          have SQ := Lib.hid hQ
          have HP2 := Lib.hid (show ∀ e w', (Fits t l Q → NumRes w e w' (ofF (co (Q 0) 0)) 0) ∧ (¬ Fits t l Q → NumRes w e w' 0 6) → Post e w' from fun e w' h => HP.out _ _ ⟨fun h => by rw [HBT.out] at h; (cases h), fun _ h => absurd h hfew, fun _ _ => ⟨Q, SQ.out, h⟩⟩)
          have hl9 := rows_few hro.1
          have hmany := hQ.many
          have hdn : decide (l.length < t + 1) = false := by simp; omega
          clear hQ HP hro hfew
          go_wp2_with fail
          go_loopw [8, 9] (fun v jv wr => ∃ (j : Nat) (vs : List Value), j ≤ t + 1 ∧ jv = .int .i64 j ∧ (∀ q, q < j → badL (Q q) (colF l q) = []) ∧ Grid wr w.heap.size v vs ((List.range j).map fun q => padQ t (Q q)) ∧ Below w.heap.size w wr) (fun _ jv _ => t + 1 - (intOf jv).toNat)
          case atStart => exact ⟨0, [], Nat.zero_le _, rfl, fun q h => by omega, Grid.nil _ _, B1.out⟩
          case round =>
            obtain ⟨j, vs, hj, rfl, hcol, hgrid, hbel⟩ := hrel
            have HCOL := Lib.hid hcol
            have KG := Lib.hid hgrid
            have BEL := Lib.hid hbel
            have hsz := hbel.size
            clear hcol hgrid hbel B1 K1
            by_cases hlt : j < t + 1
            · have hdj : decide ((j : Int) ≤ (t : Int)) = true := by simp; omega
              have hdjn : decide (j ≤ t) = true := by simp; omega
              go_wp2_with fail
              obtain ⟨wo, hwo⟩ : ∃ wo, wo = wr := ⟨_, rfl⟩
              subst hwo
              go_loopw [10, 11] (fun v i wq => ∃ k : Nat, k ≤ l.length ∧ i = .int .i64 k ∧ OwnShares wq wo.heap.size v (colF (l.take k) j) ∧ Below wo.heap.size wo wq) (fun _ i _ => l.length - (intOf i).toNat)
              case atStart => exact ⟨0, Nat.zero_le _, rfl, OwnShares.nil _ _, Below.refl _ _⟩
              case round =>
                obtain ⟨k, hk, rfl, hown, hbq⟩ := hrel
                have KO := Lib.hid hown
                have BQ := Lib.hid hbq
                have hqs := hbq.size
                clear hown hbq
                by_cases hlt2 : k < l.length
                · obtain ⟨A, c, vs2, hA, _, _, _, hi, hr, ha⟩ := KA.out.below (below_trans BEL.out BQ.out hsz)
                  injection hA with hA1 hA2 hA3
                  subst hA1 hA3
                  clear hA2
                  obtain ⟨b1, o1, z, x, r, rfl, hb1, hvx, hgk, hz64, hxr, hca, hcb⟩ := row_at hr ha hi hlt2
                  have hrl := SQ.out.len _ (List.mem_of_getElem? hgk)
                  dsimp only at hrl
                  obtain ⟨Ax, cx, rfl, hcx, hmx, hlx, hux, hrx⟩ := hxr
                  obtain ⟨b2, o2, y, rfl, hb2, hgy, huy, hcy⟩ := nums_at hrx hux (show j < r.length by omega)
                  have HN := Lib.hid (col_next (j := j) hgk hgy)
                  have HL := Lib.hid (show (colF (l.take k) j).length = k by rw [colF_length, List.length_take]; omega)
                  clear hr ha hi hgk hb1 hvx hux hrx hgy hb2 hlx hmx
                  go_wp2_with fail
                  refine wp_region_quiet_tail_from 1 15 (by kernel_rfl) (by kernel_rfl) (fun _ _ _ _ _ h => h) ?_
                  simp only [List.take_succ_cons, List.take_zero, List.drop_succ_cons, List.drop_zero, putAll, moved]
                  simp [Act.put, Act.eval]
                  repeat (go_big_quiet_step ((fail)))
                  refine wpQuiet_nil ?_
                  intro nq
                  have hqs2 : wo.heap.size ≤ (wr.drewN nq).heap.size := hqs
                  go_wp2_with (at_builtin; go_loud (refine wpList_push_share rfl _ _ rfl wo.heap.size _ _ z y (wr.drewN nq).heap.size 1 rfl ((KO.out.drewN nq).alloc _) rfl (pair_cell0 _ _ _ _) (pair_cell1 _ _ _ _) hz64 huy (by rw [HL.out]; omega) (by rw [size_alloc]; omega) ?_))
                  intro v' w5 hown' hbel'
                  rw [← HN.out] at hown'
                  have K5 := Lib.hid hown'
                  have B5 := Lib.hid (((below_drewN BQ.out nq).alloc hqs2 (.cells #[.int .i64 z, .int .u64 y] 95)).trans hbel')
                  clear hown' hbel' hca hcb hcy
                  go_wp2_with fail
                  exact ⟨⟨k + 1, by omega, by go_num, K5.out, B5.out⟩, by simp [intOf] <;> omega⟩
                · obtain rfl : k = l.length := by omega
                  rw [List.take_length] at KO
                  go_wp2_with fail
                  refine (rFit_any t _ (colF l j) (Q j) _ KO.out.is (by rw [colF_length]; omega) (by rw [colF_length]; omega) (col_ats SQ.out.ok j (t + 1)) (fun s hs => by
                    obtain ⟨r, hr, rfl⟩ := col_mem.1 hs
                    have := ((rowsB_true.1 SQ.out.ok).1.1 r hr).1
                    dsimp only
                    omega) (SQ.out.on j (by omega))).mono ?_
                  rintro e W3 ⟨vp, vb, rfl, hp3, hb3, hbl3⟩
                  have hql := SQ.out.qlen j (by omega)
                  have HQL := Lib.hid hql
                  have B3 := Lib.hid (below_trans BEL.out (below_trans BQ.out hbl3 hqs) hsz)
                  have hs3 := B3.out.size
                  have hs3o : wo.heap.size ≤ wr.heap.size := hqs
                  have KG3 := Lib.hid ((KG.out.below BQ.out).below hbl3)
                  obtain ⟨Ab, cb, hvb, _, _⟩ := own_form hb3.1
                  subst hvb
                  obtain ⟨nb, hnb⟩ : ∃ nb, nb = (srt (badL (Q j) (colF l j))).length := ⟨_, rfl⟩
                  have HNB := Lib.hid (show nb = (badL (Q j) (colF l j)).length by rw [hnb, srt_length])
                  rw [← hnb]
                  have KP := Lib.hid hp3
                  have HWS := Lib.hid (show w.heap.size ≤ wo.heap.size from hsz)
                  have hbl3' := below_trans (Below.refl wr.heap.size wr) hbl3 (Nat.le_refl _)
                  clear hp3 hb3 hbl3 hnb hql
                  try dsimp only
                  by_cases hz : 0 < nb
                  · have hd0 : decide ((nb : Int) > 0) = true := by simp; omega
                    have HNF := Lib.hid (show ¬ Fits t l Q from fits_no_col (j := j) (by omega) (fun h => by have := HNB.out; rw [h] at this; simp at this; omega))
                    go_wp2_with fail
                    exact HP2.out _ _ ⟨fun h => absurd h HNF.out, fun _ => ⟨rfl, B3.out⟩⟩
                  · obtain rfl : nb = 0 := by omega
                    have HCJ := Lib.hid (show badL (Q j) (colF l j) = [] from List.length_eq_zero_iff.1 HNB.out.symm)
                    have KG2 := Lib.hid (KG.out.below BQ.out)
                    have BP := Lib.hid hbl3'
                    have BE2 := Lib.hid (below_trans BEL.out BQ.out hsz)
                    have hq1 := HQL.out
                    clear KG KG3 KO BQ BEL hqs hs3o HNB
                    obtain ⟨w2, hw2⟩ : ∃ w2, w2 = wr := ⟨_, rfl⟩
                    subst hw2
                    go_wp2_with fail
                    go_loopw [12] (fun vq wx => ∃ c : Nat, (Q j).length + c ≤ t + 1 ∧ OwnNums wx w2.heap.size vq (ofFs (Q j) ++ List.replicate c 0) ∧ Below w2.heap.size w2 wx) (fun vq _ => t + 1 - vlenJ vq)
                    case atStart => exact ⟨0, by omega, by rw [List.replicate_zero, List.append_nil]; exact KP.out, BP.out⟩
                    case round =>
                      obtain ⟨c, hc, hown, hbx⟩ := hrel
                      obtain ⟨Aq, cq, rfl, _, _⟩ := own_form hown.1
                      have hql : (ofFs (Q j) ++ List.replicate c 0).length = (Q j).length + c := by rw [List.length_append, ofFs_length, List.length_replicate]
                      have KQ := Lib.hid hown
                      have BX := Lib.hid hbx
                      have hsx := hbx.size
                      have HQL2 := Lib.hid hql
                      rw [hql]
                      clear hown hbx hql KP BP
                      by_cases hlc : (Q j).length + c < t + 1
                      · have hlc' : decide ((((Q j).length + c : Nat) : Int) < (t : Int) + 1) = true := decide_eq_true (by omega)
                        have HL1 := Lib.hid (show (ofFs (Q j) ++ List.replicate c 0).length + 1 ≤ 17592186043904 by rw [HQL2.out]; omega)
                        have KQ2 := Lib.hid (show OwnNums wr w2.heap.size (.slice Aq ((Q j).length + c) cq) (ofFs (Q j) ++ List.replicate c 0) by have := KQ.out; rwa [HQL2.out] at this)
                        go_wp2_with (at_builtin; go_loud (refine wpList_push rfl _ _ rfl w2.heap.size _ _ 0 wr.heap.size 1 rfl (KQ2.out.alloc _) rfl (new_cell _ _ _) ⟨by omega, by omega⟩ HL1.out (by rw [size_alloc]; omega) ?_))
                        intro v9 w9 ho9 hb9
                        have ho9' : OwnNums w9 w2.heap.size v9 (ofFs (Q j) ++ List.replicate (c + 1) 0) := by
                          rw [← rep_more, List.append_assoc]
                          first
                            | exact ho9
                            | (rw [List.append_assoc] at ho9; exact ho9)
                        have K9 := Lib.hid ho9'
                        have B9 := Lib.hid ((BX.out.alloc hsx (.cells #[.int .u64 0] 23)).trans hb9)
                        obtain ⟨Az, cz, hvz, _, _⟩ := own_form ho9'.1
                        clear ho9 ho9' hb9
                        go_wp2_with fail
                        exact ⟨⟨c + 1, by omega, K9.out, B9.out⟩, by rw [hvz]; simp [vlenJ, ofFs_length]; omega⟩
                      · have hlc' : decide ((((Q j).length + c : Nat) : Int) < (t : Int) + 1) = false := decide_eq_false (by omega)
                        have hcn : (Q j).length + c = t + 1 := by omega
                        have KQ2 := Lib.hid (show OwnNums wr w2.heap.size (.slice Aq (t + 1) cq) (padQ t (Q j)) by
                          have := KQ.out
                          rw [HQL2.out, hcn] at this
                          unfold padQ
                          rw [show t + 1 - (Q j).length = c by omega]
                          exact this)
                        have KGx := Lib.hid (KG2.out.below BX.out)
                        have HFAR := Lib.hid (show ∀ (k : Nat) (z : Value) (b : Nat), vs[k]? = some z → z.ownBlock = some b → (Value.slice Aq (t + 1) cq).ownBlock ≠ some b from fun k z b hz hzb hb => by
                          have h1 := (KQ2.out.1.lt b hb).1
                          have hk := (List.getElem?_eq_some_iff.1 hz).1
                          rw [KG2.out.vlen] at hk
                          have h2 := ((KG2.out.row k z _ hz (List.getElem?_eq_getElem hk)).1.lt b hzb).2
                          omega)
                        have BEx := Lib.hid (below_trans BE2.out BX.out BE2.out.size)
                        have hsw := BE2.out.size
                        have hex := BEx.out.size
                        have HLN := Lib.hid (show ((List.range j).map fun q => padQ t (Q q)).length + 1 ≤ 5864062014805 by rw [List.length_map, List.length_range]; omega)
                        rw [hcn]
                        go_wp2_with (at_builtin; go_loud (refine wpList_push_row rfl _ _ (by rfl) w.heap.size _ vs ((List.range j).map fun q => padQ t (Q q)) (.slice Aq (t + 1) cq) (padQ t (Q j)) wr.heap.size 1 (by rfl) (KGx.out.alloc _) (by rfl) (new_cell _ _ _) ((KQ2.out.less hsw).alloc _) HFAR.out HLN.out (by rw [size_alloc]; omega) ?_))
                        intro v7 w7 hg7 hb7
                        rw [← pads_next] at hg7
                        have KG7 := Lib.hid hg7
                        have BE7 := Lib.hid ((BEx.out.alloc hex (.cells #[.slice Aq (t + 1) cq] 22)).trans hb7)
                        have HC7 := Lib.hid (show ∀ q, q < j + 1 → badL (Q q) (colF l q) = [] from fun q hq => by
                          by_cases he : q = j
                          · subst he; exact HCJ.out
                          · exact HCOL.out q (by omega))
                        clear hg7 hb7
                        go_wp2_with fail
                        go_roundw
                        case rel => exact ⟨j + 1, _, by omega, by go_num, HC7.out, KG7.out, BE7.out⟩
                        case measure => simp [intOf] <;> omega
            · obtain rfl : j = t + 1 := by omega
              have hdj : decide (((t + 1 : Nat) : Int) ≤ (t : Int)) = false := by simp; omega
              have HALL := Lib.hid (show ∀ q, q ≤ t → badL (Q q) (colF l q) = [] from fun q hq => HCOL.out q (by omega))
              have HGET := Lib.hid (show ∀ q, q ≤ t → ((List.range (t + 1)).map fun q => padQ t (Q q))[q]? = some (padQ t (Q q)) from fun q hq => by rw [List.getElem?_map, List.getElem?_range (by omega)]; rfl)
              have HLEN := Lib.hid (show ∀ q, q ≤ t → (padQ t (Q q)).length = t + 1 from fun q hq => padQ_length (SQ.out.qlen q hq))
              have KN := Lib.hid KG.out.is
              have HGL := Lib.hid (show ((List.range (t + 1)).map fun q => padQ t (Q q)).length = t + 1 by simp)
              obtain ⟨Af, cf, vsf, hvf, hcf, hmf, hlf, hrf, haf⟩ := KG.out.is
              rw [HGL.out] at hvf hcf hlf
              subst hvf
              have HRF := Lib.hid hrf
              have HAF := Lib.hid haf
              have HENT := Lib.hid (show ∀ (W : World) (p q : Nat), Below wr.heap.size wr W → p ≤ t → q ≤ t → ∃ b1 o1 b2 o2 c2, Af = some ⟨b1, o1, none⟩ ∧ W.cell? ⟨b1, o1 + p, none⟩ = some (.slice (some ⟨b2, o2, none⟩) (t + 1) c2) ∧ t + 1 ≤ c2 ∧ W.cell? ⟨b2, o2 + q, none⟩ = some (.int .u64 (ofF (co (Q p) q))) from fun W p q hW hp hq => by
                obtain ⟨b1, o1, x, r, h1, _, _, h2, h3, h4⟩ := numss_at (HRF.out.below hW) (HAF.out.below hW) (k := p) (by rw [HGL.out]; omega)
                rw [HGET.out p hp] at h2
                injection h2 with h2
                subst h2
                obtain ⟨A2, c2, rfl, h5, _, _, h6, h7⟩ := h3
                obtain ⟨b2, o2, z, rfl, _, h8, _, h9⟩ := nums_at h7 h6 (k := q) (by rw [HLEN.out p hp]; omega)
                rw [padQ_get (SQ.out.qlen p hp) hq] at h8
                injection h8 with h8
                subst h8
                rw [HLEN.out p hp] at h4 h5
                exact ⟨b1, o1, b2, o2, c2, h1, h4, h5, h9⟩)
              obtain ⟨b1, o1, _, _, _, hAf, _⟩ := HENT.out wr 0 0 (Below.refl _ _) (Nat.zero_le _) (Nat.zero_le _)
              subst hAf
              have HEN := Lib.hid (show ∀ (W : World) (p q : Nat), Below wr.heap.size wr W → p ≤ t → q ≤ t → ∃ b2 o2 c2, W.cell? ⟨b1, o1 + p, none⟩ = some (.slice (some ⟨b2, o2, none⟩) (t + 1) c2) ∧ t + 1 ≤ c2 ∧ W.cell? ⟨b2, o2 + q, none⟩ = some (.int .u64 (ofF (co (Q p) q))) from fun W p q hW hp hq => by
                obtain ⟨b3, o3, b2, o2, c2, h1, h2, h3, h4⟩ := HENT.out W p q hW hp hq
                injection h1 with h1
                injection h1 with h5 h6
                subst h5 h6
                exact ⟨b2, o2, c2, h2, h3, h4⟩)
              clear hmf hlf hrf haf HCOL HENT KN HGL HRF HAF HGET HLEN KG
              obtain ⟨wg, hwg⟩ : ∃ wg, wg = wr := ⟨_, rfl⟩
              subst hwg
              go_wp2_with fail
              go_loopw [14] (fun iv wr => ∃ i n : Nat, i ≤ t + 1 ∧ iv = .int .i64 i ∧ (∀ a b, a < i → b < a → co (Q a) b = co (Q b) a) ∧ wr = wg.drewN n) (fun iv _ => t + 1 - (intOf iv).toNat)
              case atStart => exact ⟨0, 0, Nat.zero_le _, rfl, fun a b h => by omega, rfl⟩
              case round =>
                obtain ⟨i, n, hi, rfl, hsym, hw⟩ := hrel
                have HSYM := Lib.hid hsym
                have HW := Lib.hid hw
                have BW := Lib.hid (show Below wg.heap.size wg wr by rw [hw]; exact below_drewN (Below.refl _ _) n)
                clear hsym hw
                by_cases hlti : i < t + 1
                · have hdi : decide ((i : Int) ≤ (t : Int)) = true := by simp; omega
                  have hdin : decide (i ≤ t) = true := by simp; omega
                  go_wp2_with fail
                  obtain ⟨wo, hwo⟩ : ∃ wo, wo = wr := ⟨_, rfl⟩
                  subst hwo
                  go_loopw [15] (fun jv wq => ∃ j m : Nat, j ≤ i ∧ jv = .int .i64 j ∧ (∀ b, b < j → co (Q i) b = co (Q b) i) ∧ wq = wo.drewN m) (fun jv _ => i - (intOf jv).toNat)
                  case atStart => exact ⟨0, 0, Nat.zero_le _, rfl, fun b h => by omega, rfl⟩
                  case round =>
                    obtain ⟨j, m, hj, rfl, hrow, hw2⟩ := hrel
                    have HROW := Lib.hid hrow
                    have HW2 := Lib.hid hw2
                    have BW2 := Lib.hid (show Below wg.heap.size wg wr by rw [hw2]; exact below_drewN BW.out m)
                    clear hrow hw2
                    by_cases hltj : j < i
                    · obtain ⟨b2, o2, c2, e1, e2, e3⟩ := HEN.out wr i j BW2.out (by omega) (by omega)
                      obtain ⟨b3, o3, c3, e4, e5, e6⟩ := HEN.out wr j i BW2.out (by omega) (by omega)
                      by_cases heq : co (Q i) j = co (Q j) i
                      · have hne : (ofF (co (Q i) j) != ofF (co (Q j) i)) = false := by rw [heq]; simp
                        have HEQ := Lib.hid heq
                        clear heq
                        go_wp2_with fail
                        go_quiet (fail)
                        go_wp2_with fail
                        refine ⟨⟨j + 1, m + nq, by omega, by go_num, fun b hb => ?_, by rw [HW2.out, World.drewN_drewN]⟩, by simp [intOf] <;> omega⟩
                        by_cases hbj : b = j
                        · subst hbj; exact HEQ.out
                        · exact HROW.out b (by omega)
                      · have hne : (ofF (co (Q i) j) != ofF (co (Q j) i)) = true := by rw [bne_iff_ne]; exact fun h => heq (ofF_inj h)
                        have HNF := Lib.hid (show ¬ Fits t l Q from fun hf => heq (hf.2 i j (by omega) (by omega)))
                        clear heq
                        go_wp2_with fail
                        go_quiet (fail)
                        go_wp2_with fail
                        exact HP2.out _ _ ⟨fun h => absurd h HNF.out, fun _ => ⟨rfl, below_drewN (below_trans BEL.out BW2.out hsz) nq⟩⟩
                    · obtain rfl : j = i := by omega
                      go_wp2_with fail
                      refine ⟨⟨j + 1, n + m, by omega, by go_num, fun a b ha hb => ?_, by rw [HW2.out, HW.out, World.drewN_drewN]⟩, by simp [intOf] <;> omega⟩
                      by_cases haj : a = j
                      · subst haj; exact HROW.out b hb
                      · exact HSYM.out a b (by omega) hb
                · obtain rfl : i = t + 1 := by omega
                  have hdi : decide (((t + 1 : Nat) : Int) ≤ (t : Int)) = false := by simp; omega
                  have HF := Lib.hid (show Fits t l Q from ⟨HALL.out, fun a b ha hb => by
                    rcases Nat.lt_trichotomy a b with h | h | h
                    · exact (HSYM.out b a (by omega) h).symm
                    · rw [h]
                    · exact HSYM.out a b (by omega) h⟩)
                  obtain ⟨b2, o2, c2, e1, e2, e3⟩ := HEN.out wr 0 0 BW.out (by omega) (by omega)
                  rw [Nat.add_zero] at e1 e3
                  go_wp2_with fail
                  exact HP2.out _ _ ⟨fun _ => ⟨rfl, below_trans BEL.out BW.out hsz⟩, fun h => absurd HF.out h⟩
end Go.Proofs.Ytegmeepogjijiaa
namespace Go.Proofs.Ytegmeepogjijiaa
open Go.RowKit Go.Maps Croft

theorem pJoin_bad (t : Int) (va : Value) (l : List (Int × List Int)) (w : World) (h1 : IsRows w va l) (ht : 0 ≤ t ∧ t ≤ 4) (hf : formE l = 5) :
    Calls Try.prog 50 #[.int .i64 t, va] w fun e w' => NumRes w e w' 0 5 := by
  suffices hgoal : ∀ Post : Ending → World → Prop, (∀ e w', NumRes w e w' 0 5 → Post e w') → Calls Try.prog 50 #[.int .i64 t, va] w Post from hgoal _ fun e w' h => h
  intro Post hpo
  have HP := Lib.hid hpo
  clear hpo
  have HF := Lib.hid hf
  have HT := Lib.hid ht
  obtain ⟨ht1, ht4⟩ := ht
  have B0 := (Below.refl w.heap.size w).alloc (Nat.le_refl _) (.cells #[.int .i64 t] 3)
  have KA := Lib.hid (h1.below B0)
  have HB := Lib.hid (new_cell w (.int .i64 t) 3)
  obtain ⟨A1, c1, vs1, rfl, hc1, hm1, hl1, hi1, hr1, ha1⟩ := h1
  have hd1 : decide (t < 0) = false := by simp; omega
  have hd2 : decide (t > 4) = false := by simp; omega
  clear hi1 hr1 hm1 ha1 hf
  go_enter Try.func50, Try.ntmps50
  go_upto_region 1 with fail
  obtain ⟨w0, hw0⟩ : ∃ w0, w0 = w.alloc (.cells #[.int .i64 t] 3) := ⟨_, rfl⟩
  have hsw : w0.heap.size = w.heap.size + 1 := by rw [hw0, size_alloc]
  have B0' := Lib.hid (show Below w.heap.size w w0 by rw [hw0]; exact B0)
  rw [← hw0] at KA HB ⊢
  obtain ⟨cb, hcb⟩ : ∃ cb, cb = w.heap.size := ⟨_, rfl⟩
  have HB0 := Lib.hid (show w0.cell? ⟨cb, 0, none⟩ = some (.int .i64 t) by rw [hcb]; exact HB.out)
  rw [← hcb] at HB ⊢
  have hcw : w.heap.size ≤ w0.heap.size := by omega
  clear hw0 B0 hcb hsw HB
  have q0 := HB0.out
  go_wp2_with fail
  refine (pForm_any _ l _ KA.out).mono ?_
  rintro e W1 ⟨rfl, hb1⟩
  rw [HF.out]
  have B1 := Lib.hid hb1
  clear hb1 q0
  try dsimp only
  go_wp2_with fail
  exact HP.out _ _ ⟨rfl, below_trans B0'.out B1.out hcw⟩
theorem pJoin_len (t : Int) (va : Value) (l : List (Int × List Int)) (w : World) (h1 : IsRows w va l) (ht : 0 ≤ t ∧ t ≤ 4) (hf : formE l = 0) (hno : l.any (badLen t) = true) :
    Calls Try.prog 50 #[.int .i64 t, va] w fun e w' => NumRes w e w' 0 5 := by
  suffices hgoal : ∀ Post : Ending → World → Prop, (∀ e w', NumRes w e w' 0 5 → Post e w') → Calls Try.prog 50 #[.int .i64 t, va] w Post from hgoal _ fun e w' h => h
  intro Post hpo
  have HP := Lib.hid hpo
  clear hpo
  have HF := Lib.hid hf
  have HNO := Lib.hid hno
  have HT := Lib.hid ht
  obtain ⟨ht1, ht4⟩ := ht
  have B0 := (Below.refl w.heap.size w).alloc (Nat.le_refl _) (.cells #[.int .i64 t] 3)
  have KA := Lib.hid (h1.below B0)
  have HB := Lib.hid (new_cell w (.int .i64 t) 3)
  obtain ⟨A1, c1, vs1, rfl, hc1, hm1, hl1, hi1, hr1, ha1⟩ := h1
  have hd1 : decide (t < 0) = false := by simp; omega
  have hd2 : decide (t > 4) = false := by simp; omega
  clear hi1 hr1 hm1 ha1 hf hno
  go_enter Try.func50, Try.ntmps50
  go_upto_region 1 with fail
  obtain ⟨w0, hw0⟩ : ∃ w0, w0 = w.alloc (.cells #[.int .i64 t] 3) := ⟨_, rfl⟩
  have hsw : w0.heap.size = w.heap.size + 1 := by rw [hw0, size_alloc]
  have B0' := Lib.hid (show Below w.heap.size w w0 by rw [hw0]; exact B0)
  rw [← hw0] at KA HB ⊢
  obtain ⟨cb, hcb⟩ : ∃ cb, cb = w.heap.size := ⟨_, rfl⟩
  have HB0 := Lib.hid (show w0.cell? ⟨cb, 0, none⟩ = some (.int .i64 t) by rw [hcb]; exact HB.out)
  have hcl : cb < w0.heap.size := by omega
  rw [← hcb] at HB ⊢
  have hcw : w.heap.size ≤ w0.heap.size := by omega
  clear hw0 B0 hcb hsw HB
  have q0 := HB0.out
  go_wp2_with fail
  refine (pForm_any _ l _ KA.out).mono ?_
  rintro e W1 ⟨rfl, hb1⟩
  rw [HF.out]
  have B1 := Lib.hid hb1
  have hs1 := hb1.size
  clear hb1 q0
  have K1 := Lib.hid (KA.out.below B1.out)
  have HC1 := Lib.hid ((B1.out.cell (p := ⟨cb, 0, none⟩) hcl).trans HB0.out)
  try dsimp only
  go_wp2_with fail
  refine (hasJ_any t cb _ l _ K1.out HC1.out (by omega) HT.out).mono ?_
  rintro e W2 ⟨rfl, hb2⟩
  rw [HNO.out]
  have B2 := Lib.hid (below_trans B1.out hb2 hs1)
  clear hb2
  try dsimp only
  go_wp2_with fail
  exact HP.out _ _ ⟨rfl, below_trans B0'.out B2.out hcw⟩
theorem pJoin_few (t : Int) (va : Value) (l : List (Int × List Int)) (w : World) (h1 : IsRows w va l) (ht : 0 ≤ t ∧ t ≤ 4) (hf : formE l = 0) (hno : l.any (badLen t) = false) (hfew : (l.length : Int) < t + 1) :
    Calls Try.prog 50 #[.int .i64 t, va] w fun e w' => NumRes w e w' 0 4 := by
  suffices hgoal : ∀ Post : Ending → World → Prop, (∀ e w', NumRes w e w' 0 4 → Post e w') → Calls Try.prog 50 #[.int .i64 t, va] w Post from hgoal _ fun e w' h => h
  intro Post hpo
  have HP := Lib.hid hpo
  clear hpo
  have HF := Lib.hid hf
  have HNO := Lib.hid hno
  have HT := Lib.hid ht
  obtain ⟨ht1, ht4⟩ := ht
  have B0 := (Below.refl w.heap.size w).alloc (Nat.le_refl _) (.cells #[.int .i64 t] 3)
  have KA := Lib.hid (h1.below B0)
  have HB := Lib.hid (new_cell w (.int .i64 t) 3)
  obtain ⟨A1, c1, vs1, rfl, hc1, hm1, hl1, hi1, hr1, ha1⟩ := h1
  have hd1 : decide (t < 0) = false := by simp; omega
  have hd2 : decide (t > 4) = false := by simp; omega
  have hd3 : decide ((l.length : Int) < t + 1) = true := decide_eq_true hfew
  have hwt : IntKind.i64.wrap (t + 1) = t + 1 := by rw [IntKind.wrap_i64]; omega
  clear hi1 hr1 hm1 ha1 hf hno
  go_enter Try.func50, Try.ntmps50
  go_upto_region 1 with fail
  obtain ⟨w0, hw0⟩ : ∃ w0, w0 = w.alloc (.cells #[.int .i64 t] 3) := ⟨_, rfl⟩
  have hsw : w0.heap.size = w.heap.size + 1 := by rw [hw0, size_alloc]
  have B0' := Lib.hid (show Below w.heap.size w w0 by rw [hw0]; exact B0)
  rw [← hw0] at KA HB ⊢
  obtain ⟨cb, hcb⟩ : ∃ cb, cb = w.heap.size := ⟨_, rfl⟩
  have HB0 := Lib.hid (show w0.cell? ⟨cb, 0, none⟩ = some (.int .i64 t) by rw [hcb]; exact HB.out)
  have hcl : cb < w0.heap.size := by omega
  rw [← hcb] at HB ⊢
  have hcw : w.heap.size ≤ w0.heap.size := by omega
  clear hw0 B0 hcb hsw HB
  have q0 := HB0.out
  go_wp2_with fail
  refine (pForm_any _ l _ KA.out).mono ?_
  rintro e W1 ⟨rfl, hb1⟩
  rw [HF.out]
  have B1 := Lib.hid hb1
  have hs1 := hb1.size
  clear hb1 q0
  have K1 := Lib.hid (KA.out.below B1.out)
  have HC1 := Lib.hid ((B1.out.cell (p := ⟨cb, 0, none⟩) hcl).trans HB0.out)
  try dsimp only
  go_wp2_with fail
  refine (hasJ_any t cb _ l _ K1.out HC1.out (by omega) HT.out).mono ?_
  rintro e W2 ⟨rfl, hb2⟩
  rw [HNO.out]
  have B2 := Lib.hid (below_trans B1.out hb2 hs1)
  have q2 := (B2.out.cell (p := ⟨cb, 0, none⟩) hcl).trans HB0.out
  clear hb2
  try dsimp only
  go_wp2_with fail
  exact HP.out _ _ ⟨rfl, below_trans B0'.out B2.out hcw⟩
end Go.Proofs.Ytegmeepogjijiaa
namespace Go.Proofs.Ytegmeepogjijiaa
open Go.RowKit Go.Maps Croft

theorem insNil (v c : Value) (w : World) :
    Calls Try.prog 147 #[v, .int .i64 0, .int .i64 0, c] w fun e w' => e = .returned (.tuple #[]) ∧ w = w' := by
  suffices hgoal : ∀ Post : Ending → World → Prop, (∀ e w', (e = .returned (.tuple #[]) ∧ w = w') → Post e w') → Calls Try.prog 147 #[v, .int .i64 0, .int .i64 0, c] w Post from hgoal _ fun e w' h => h
  intro Post hpo
  have HP := Lib.hid hpo
  clear hpo
  go_enter Try.func147, Try.ntmps147
  go_wp2_with fail
  go_loopw [8] (fun i wr => i = .int .i64 1 ∧ w = wr) (fun _ _ => 0)
  case atStart => exact ⟨rfl, rfl⟩
  case round =>
    obtain ⟨rfl, rfl⟩ := hrel
    go_wp2_with fail
    go_returns
    exact HP.out _ _ ⟨rfl, rfl⟩
theorem pdqNil (v c : Value) (k : Int) (w : World) :
    Calls Try.prog 134 #[v, .int .i64 0, .int .i64 0, .int .i64 k, c] w fun e w' => e = .returned (.tuple #[]) ∧ w = w' := by
  suffices hgoal : ∀ Post : Ending → World → Prop, (∀ e w', (e = .returned (.tuple #[]) ∧ w = w') → Post e w') → Calls Try.prog 134 #[v, .int .i64 0, .int .i64 0, .int .i64 k, c] w Post from hgoal _ fun e w' h => h
  intro Post hpo
  have HP := Lib.hid hpo
  clear hpo
  go_enter Try.func134, Try.ntmps134
  go_wp2_with fail
  go_loopw [1, 2, 3, 10, 11] (fun a b l _ _ wr => a = .int .i64 0 ∧ b = .int .i64 0 ∧ l = .int .i64 k ∧ w = wr) (fun _ _ _ _ _ _ => 0)
  case atStart => exact ⟨rfl, rfl, rfl, rfl⟩
  case round =>
    obtain ⟨rfl, rfl, rfl, rfl⟩ := hrel
    go_wp2_with fail
    refine (insNil v c _).mono ?_
    rintro e w' ⟨rfl, rfl⟩
    try dsimp only
    go_wp2_with fail
    go_returns
    exact HP.out _ _ ⟨rfl, rfl⟩
theorem bitsNil (w : World) : Calls Try.prog 135 #[.int .u64 0] w fun e w' => (∃ k : Int, e = .returned (.int .i64 k)) ∧ w = w' := by
  go_enter Try.func135, Try.ntmps135
  go_wp2_with (go_in)
  go_ret
  exact ⟨⟨_, rfl⟩, rfl⟩
theorem sortNil (A : Option Addr) (m : Nat) (c : Value) (w : World) :
    Calls Try.prog 104 #[.slice A 0 m, c] w fun e w' => e = .returned (.tuple #[]) ∧ w = w' := by
  go_enter Try.func104, Try.ntmps104
  go_wp2_with fail
  refine (bitsNil _).mono ?_
  rintro e w' ⟨⟨k, rfl⟩, rfl⟩
  try dsimp only
  go_wp2_with fail
  refine (pdqNil _ _ k _).mono ?_
  rintro e w' ⟨rfl, rfl⟩
  try dsimp only
  go_wp2_with fail
  go_returns
  exact ⟨rfl, rfl⟩
set_option maxRecDepth 100000 in
theorem cloneNil (A : Option Addr) (c : Nat) (w : World) :
    Calls Try.prog 103 #[.slice A 0 c] w fun e w' => (∃ B k, e = .returned (.slice B 0 k)) ∧ Below w.heap.size w w' := by
  cases A with
  | none =>
    have hnil : ∀ W, (binOp .eql 83 (.slice none 0 c) (.slice none 0 0)).run Try.prog W = .ok (.bool true) W := fun W => by kernel_rfl
    go_enter Try.func103, Try.ntmps103
    go_wp2_with fail
    go_ret
    exact ⟨⟨_, _, rfl⟩, Below.refl _ _⟩
  | some a =>
    obtain ⟨b, o, p⟩ := a
    obtain ⟨i0, hi, hz0, hz1, hz2⟩ := info_parts rinfo
    have hnil : ∀ W, (binOp .eql 83 (.slice (some ⟨b, o, p⟩) 0 c) (.slice none 0 0)).run Try.prog W = .ok (.bool false) W := fun W => Lib.run_eql_slice_nil W _ _ _ _ _ _ _ Try.underlying83
    have HB := Lib.hid ((Below.refl w.heap.size w).alloc (Nat.le_refl _) (.cells #[] 106))
    have KO := Lib.hid (show (w.alloc (.cells #[] 106)).ownsRow w.heap.size 106 2 (.slice (some ⟨w.heap.size, 0, none⟩) 0 0) 0 [] from
      ⟨rfl, .inr ⟨w.heap.size, 0, #[], rfl, Nat.le_refl _, heap_alloc_new w _, Nat.le_refl _, by simp [maxLen], rfl, rfl⟩⟩)
    go_enter Try.func103, Try.ntmps103
    go_wp2_with (at_builtin; go_loud (refine wpList_append_own _ rfl _ _ 83 rfl w.heap.size 106 i0 (.agg #[.int .i64 0, .slice none 0 0]) 2 32 Try.underlying83 hi hz0 hz1 hz2 rfl (by decide) _ 0 [] rfl KO.out ⟨b, o, p⟩ 0 c [] rfl rfl ?h1 ?hone ?h2 ?h3 ?h4 ?_))
    case h1 => intro j u hu; simp at hu
    case hone => intro u hu; simp at hu
    case h2 => unfold maxLen; omega
    case h3 => omega
    case h4 => rw [size_alloc]; omega
    intro v' w' ho hg _
    obtain ⟨A', c', rfl, _, _⟩ := own_form ho
    have B2 := Lib.hid (HB.out.grown hg (by rw [size_alloc]; omega) (fun k hk => (KO.out.lt k hk).1))
    clear ho hg
    go_wp2_with fail
    go_ret
    exact ⟨⟨_, _, rfl⟩, B2.out⟩
theorem formE_nil : formE [] = 0 := by simp [formE, rowsB, partyB, lenOk]
set_option maxRecDepth 100000 in
theorem pPairs_nil (va : Value) (w : World) (h1 : IsRows w va []) :
    Calls Try.prog 49 #[va] w fun e w' => e = .returned (.tuple #[.slice none 0 0, .int .i64 0]) ∧ Below w.heap.size w w' := by
  have KA := Lib.hid h1
  obtain ⟨A, c, vs, rfl, _, _, _, _, _, _⟩ := h1
  suffices hgoal : ∀ Post : Ending → World → Prop, (∀ e w', e = .returned (.tuple #[.slice none 0 0, .int .i64 0]) ∧ Below w.heap.size w w' → Post e w') → Calls Try.prog 49 #[.slice A ([] : List (Int × List Int)).length c] w Post from hgoal _ fun e w' h => h
  intro Post hpo
  have HP := Lib.hid hpo
  clear hpo
  go_enter Try.func49, Try.ntmps49
  go_wp2_with fail
  refine (pForm_any _ [] _ KA.out).mono ?_
  rintro e W1 ⟨rfl, hb1⟩
  rw [formE_nil]
  have B1 := Lib.hid hb1
  clear hb1
  try dsimp only
  go_wp2_with fail
  refine (cloneNil A c _).mono ?_
  rintro e W2 ⟨⟨B, k, rfl⟩, hb2⟩
  have B2 := Lib.hid (below_trans B1.out hb2 B1.out.size)
  clear hb2
  try dsimp only
  go_wp2_with fail
  refine (sortNil B k _ _).mono ?_
  rintro e w' ⟨rfl, rfl⟩
  try dsimp only
  go_wp2_with fail
  go_loopw [5, 21] (fun v i wr => v = .slice none 0 0 ∧ i = .int .i64 0 ∧ wr = W2) (fun _ _ _ => 0)
  case atStart => exact ⟨rfl, rfl, rfl⟩
  case round =>
    obtain ⟨rfl, rfl, rfl⟩ := hrel
    go_wp2_with fail
    exact HP.out _ _ ⟨rfl, B2.out⟩
theorem prJ_range (l : List (Int × List Int)) (i : Nat) : ∀ m, prJ l i m = (List.range' (i + 1) m).flatMap fun j : Nat => pairCell l i j
  | 0 => by simp [prJ]
  | m + 1 => by rw [List.range'_1_concat, List.flatMap_append, ← prJ_range l i m]; simp [prJ]
theorem prI_range (l : List (Int × List Int)) : ∀ n, prI l n = (List.range' 1 n).flatMap fun i : Nat => prJ l i (9 - i)
  | 0 => by simp [prI]
  | n + 1 => by
    rw [List.range'_1_concat, List.flatMap_append, ← prI_range l n]
    simp only [prI, List.flatMap_cons, List.flatMap_nil, List.append_nil]
    rw [show 1 + n = n + 1 by omega, show 9 - (n + 1) = 8 - n by omega]
theorem rowAt_cons_eq {a : Int × List Int} {L : List (Int × List Int)} : rowAt (a :: L) a.1 = some a := by simp [rowAt]
theorem rowAt_cons_ne {a : Int × List Int} {L : List (Int × List Int)} {i : Int} (h : a.1 ≠ i) : rowAt (a :: L) i = rowAt L i := by simp [rowAt, h]
theorem rowAt_miss {L : List (Int × List Int)} {i : Int} (h : ∀ r ∈ L, r.1 ≠ i) : rowAt L i = none := by
  unfold rowAt
  rw [List.find?_eq_none]
  intro s hs
  simpa using h s hs
theorem rowAt_mem {l : List (Int × List Int)} (hn : (l.map (·.1)).Nodup) : ∀ {r : Int × List Int}, r ∈ l → rowAt l r.1 = some r := by
  induction l with
  | nil => intro r hr; cases hr
  | cons a L ih =>
    intro r hr
    rw [List.map_cons, List.nodup_cons] at hn
    rcases List.mem_cons.1 hr with rfl | h
    · exact rowAt_cons_eq
    · rw [rowAt_cons_ne (fun e => hn.1 (List.mem_map.2 ⟨r, h, e.symm⟩))]
      exact ih hn.2 h
theorem rowAt_perm {l l' : List (Int × List Int)} (hp : l'.Perm l) (hn : (l.map (·.1)).Nodup) (i : Int) : rowAt l i = rowAt l' i := by
  have hn' : (l'.map (·.1)).Nodup := (hp.map (·.1)).nodup_iff.2 hn
  cases h : rowAt l i with
  | none =>
    refine (rowAt_miss fun r hr he => ?_).symm
    subst he
    rw [rowAt_mem hn (hp.mem_iff.1 hr)] at h
    cases h
  | some r =>
    obtain ⟨h1, h2⟩ := rowAt_some h
    subst h2
    exact (rowAt_mem hn' (hp.mem_iff.2 h1)).symm
theorem cells_row {R : Int → Option (Int × List Int)} (a : Int × List Int) : ∀ (n s : Nat) (L : List (Int × List Int)), (∀ r ∈ L, (s : Int) ≤ r.1 ∧ r.1 < s + n) → L.Pairwise (fun x y => x.1 < y.1) → (∀ j : Nat, s ≤ j → R j = rowAt L j) →
    ((List.range' s n).flatMap fun j : Nat => match R j with
      | some b => if fitB a b = true then [] else [(a.1, (j : Int))]
      | none => []) = prRow a L := by
  intro n
  induction n with
  | zero =>
    intro s L hb _ _
    cases L with
    | nil => rfl
    | cons b M => have := hb b (by simp); omega
  | succ n ih =>
    intro s L hb hs hR
    rw [List.range'_succ, List.flatMap_cons]
    cases L with
    | nil =>
      rw [ih (s + 1) [] (by simp) List.Pairwise.nil (fun j hj => hR j (by omega)), hR s (Nat.le_refl _)]
      rfl
    | cons b M =>
      rw [List.pairwise_cons] at hs
      by_cases he : b.1 = (s : Int)
      · rw [ih (s + 1) M (fun r hr => ⟨by have := hs.1 r hr; omega, by have := (hb r (by simp [hr])).2; omega⟩) hs.2 (fun j hj => by rw [hR j (by omega), rowAt_cons_ne (by omega)]), hR s (Nat.le_refl _), ← he, rowAt_cons_eq]
        unfold prRow
        rw [List.filter_cons]
        cases hf : fitB a b <;> simp [hf]
      · have hb0 := hb b (by simp)
        rw [ih (s + 1) (b :: M) (fun r hr => by
          have h2 := hb r hr
          rcases List.mem_cons.1 hr with rfl | h
          · constructor <;> omega
          · have := hs.1 r h
            constructor <;> omega) (List.pairwise_cons.2 hs) (fun j hj => hR j (by omega)), hR s (Nat.le_refl _), rowAt_miss (fun r hr => by
          rcases List.mem_cons.1 hr with rfl | h
          · exact he
          · have := hs.1 r h; omega)]
        rfl
theorem cells_all {l : List (Int × List Int)} : ∀ (n s : Nat) (L : List (Int × List Int)), s + n = 10 → (∀ r ∈ L, (s : Int) ≤ r.1 ∧ r.1 < s + n) → L.Pairwise (fun x y => x.1 < y.1) → (∀ j : Nat, s ≤ j → rowAt l j = rowAt L j) →
    ((List.range' s n).flatMap fun i : Nat => prJ l i (9 - i)) = prL L := by
  intro n
  induction n with
  | zero =>
    intro s L _ hb _ _
    cases L with
    | nil => rfl
    | cons b M => have := hb b (by simp); omega
  | succ n ih =>
    intro s L hsn hb hs hR
    rw [List.range'_succ, List.flatMap_cons]
    have hnone : rowAt l (s : Int) = none → prJ l s (9 - s) = [] := fun h => by
      rw [prJ_range, List.flatMap_eq_nil_iff]
      intro j _
      unfold pairCell
      rw [h]
    cases L with
    | nil =>
      rw [ih (s + 1) [] (by omega) (by simp) List.Pairwise.nil (fun j hj => hR j (by omega)), hnone ((hR s (Nat.le_refl _)).trans rfl)]
      rfl
    | cons b M =>
      rw [List.pairwise_cons] at hs
      by_cases he : b.1 = (s : Int)
      · have hM : ∀ r ∈ M, ((s + 1 : Nat) : Int) ≤ r.1 ∧ r.1 < ((s + 1 : Nat) : Int) + n := fun r hr => ⟨by have := hs.1 r hr; omega, by have := (hb r (by simp [hr])).2; omega⟩
        have hRM : ∀ j : Nat, s + 1 ≤ j → rowAt l j = rowAt M j := fun j hj => by rw [hR j (by omega), rowAt_cons_ne (by omega)]
        rw [ih (s + 1) M (by omega) hM hs.2 hRM, prL_cons]
        congr 1
        rw [prJ_range, show 9 - s = n by omega, ← cells_row (R := rowAt l) b n (s + 1) M hM hs.2 hRM]
        congr 1
        funext j
        unfold pairCell
        rw [hR s (Nat.le_refl _), ← he, rowAt_cons_eq]
        cases rowAt l (j : Int) <;> rfl
      · have hb0 := hb b (by simp)
        have hL : ∀ r ∈ b :: M, ((s + 1 : Nat) : Int) ≤ r.1 ∧ r.1 < ((s + 1 : Nat) : Int) + n := fun r hr => by
          have h2 := hb r hr
          rcases List.mem_cons.1 hr with rfl | h
          · constructor <;> omega
          · have := hs.1 r h
            constructor <;> omega
        rw [ih (s + 1) (b :: M) (by omega) hL (List.pairwise_cons.2 hs) (fun j hj => hR j (by omega)), hnone ((hR s (Nat.le_refl _)).trans (rowAt_miss (fun r hr => by
          rcases List.mem_cons.1 hr with rfl | h
          · exact he
          · have := hs.1 r h; omega)))]
        rfl
/-- the program's order of the pairs is the reference's -/
theorem pairs_same {l l' : List (Int × List Int)} (hr : rowsB l = true) (hp : l'.Perm l) (hs : l'.Pairwise (fun a b => a.1 < b.1)) : prI l 9 = prL l' := by
  obtain ⟨⟨h1, h2⟩, _⟩ := rowsB_true.1 hr
  rw [prI_range]
  exact cells_all 9 1 l' rfl (fun r hm => by have := h1 r (hp.mem_iff.1 hm); constructor <;> omega) hs (fun j _ => rowAt_perm hp h2 j)
end Go.Proofs.Ytegmeepogjijiaa
