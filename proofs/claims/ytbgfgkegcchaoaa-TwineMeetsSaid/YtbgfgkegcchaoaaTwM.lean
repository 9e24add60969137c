/- Rows of one dealing in two variables: plain, and Join at them. -/
import Derived.Test.YtbgfgkegcchaoaaTwJ
import Derived.Test.YtbgfgkegcchaoaaTwineZ
namespace Go.Proofs.Ytbgfgkegcchaoaa
open Go.RowKit Go.Maps Croft

structure OnTw (D : List Int) (t : Nat) (l : List (Int × List Int)) : Prop where
  ats : ∀ r ∈ l, 1 ≤ r.1 ∧ r.1 ≤ 9
  one : (l.map (·.1)).Nodup
  on : ∀ r ∈ l, r.2 = rowL (dMat D t) r.1
theorem co_dCs (D : List Int) (t : Nat) (x : Int) {j : Nat} (hj : j < t + 1) : co (toFs (dCs D t x (t + 1))) j = dC D t x j (t + 1) := by
  apply co_get
  unfold dCs toFs
  rw [List.getElem?_map, List.getElem?_map, List.getElem?_range hj]
  simp [toF_ofF]
theorem tw_eval (D : List Int) (t : Nat) (x : Int) (y : F) : peval (toFs (rowL (dMat D t) x)) y = fsum (t + 1) fun j => fsum (t + 1) fun i => toF (D.getD (idx t i j) 0) * toF x ^ i * y ^ j := by
  rw [← dCs_full, peval_sum _ _ (t + 1) (by rw [toFs_length, dCs_length]; exact Nat.le_refl _)]
  apply fsum_congr
  intro j hj
  rw [co_dCs D t x hj, fsum_mul_right]
  rfl
theorem tw_sym (D : List Int) (t : Nat) (x y : Int) : peval (toFs (rowL (dMat D t) x)) (toF y) = peval (toFs (rowL (dMat D t) y)) (toF x) := by
  rw [tw_eval, tw_eval, fsum_swap]
  apply fsum_congr
  intro i _
  apply fsum_congr
  intro j _
  rw [idx_comm]
  grind
def twA (D : List Int) (t : Nat) : List F := (List.range (t + 1)).map fun i => toF (D.getD (idx t i 0) 0)
theorem twA_length (D : List Int) (t : Nat) : (twA D t).length = t + 1 := by simp [twA]
theorem twA_zero (D : List Int) (t : Nat) : peval (twA D t) 0 = toF (D.getD 0 0) := by
  unfold twA
  rw [List.range_succ_eq_map, List.map_cons, peval_cons0]
  simp [idx, off]
theorem tw_head (D : List Int) (t : Nat) (x : Int) : (rowL (dMat D t) x).headD 0 = ofF (peval (twA D t) (toF x)) := by
  rw [← dCs_full]
  have : (dCs D t x (t + 1)).headD 0 = ofF (dC D t x 0 (t + 1)) := by
    unfold dCs
    rw [List.range_succ_eq_map]; rfl
  rw [this, peval_sum _ _ (t + 1) (by rw [twA_length]; exact Nat.le_refl _)]
  unfold dC
  congr 1
  apply fsum_congr
  intro i hi
  congr 1
  symm
  apply co_get
  unfold twA
  rw [List.getElem?_map, List.getElem?_range hi]
  rfl
theorem OnTw.rows {D : List Int} {t : Nat} {l : List (Int × List Int)} (h : OnTw D t l) (ht : t ≤ 4) : rowsB l = true := by
  refine rowsB_true.2 ⟨⟨h.ats, h.one⟩, fun r hr => ?_⟩
  rw [h.on r hr, rowL_length]
  have : (dMat D t).length = t + 1 := by simp [dMat, mat_length]
  omega
theorem OnTw.lens {D : List Int} {t : Nat} {l : List (Int × List Int)} (h : OnTw D t l) : l.any (badLen t) = false := by
  rw [List.any_eq_false]
  intro r hr
  unfold badLen
  have : (rowL (dMat D t) r.1).length = t + 1 := by rw [rowL_length]; simp [dMat, mat_length]
  rw [h.on r hr, this]
  simp
theorem OnTw.fits {D : List Int} {t : Nat} {l : List (Int × List Int)} (h : OnTw D t l) : ∀ a ∈ l, ∀ b ∈ l, fitB a b = true := by
  intro a ha b hb
  unfold fitB
  rw [h.on a ha, h.on b hb]
  exact decide_eq_true (tw_sym _ _ _ _)
theorem OnTw.interp {D : List Int} {t : Nat} {l : List (Int × List Int)} (h : OnTw D t l) (hl : t + 1 ≤ l.length) : Interp (ptsF (headsL l)) (pnorm (twA D t)) := by
  have hp := pnorm_length (twA D t)
  rw [twA_length] at hp
  refine ⟨pnorm_norm _, by simp only [ptsF, headsL, List.length_map]; omega, fun q hq => ?_⟩
  unfold ptsF headsL at hq
  rw [List.map_map] at hq
  obtain ⟨r, hr, rfl⟩ := List.mem_map.1 hq
  show peval (pnorm (twA D t)) (toF r.1) = toF (r.2.headD 0)
  rw [pnorm_eval, h.on r hr, tw_head, toF_ofF]
theorem OnTw.perm {D : List Int} {t : Nat} {l l' : List (Int × List Int)} (h : OnTw D t l) (hp : l'.Perm l) : OnTw D t l' :=
  ⟨fun r hr => h.ats r (hp.mem_iff.1 hr), (hp.map (·.1)).nodup_iff.2 h.one, fun r hr => h.on r (hp.mem_iff.1 hr)⟩
theorem prL_nil {l : List (Int × List Int)} (h : ∀ a ∈ l, ∀ b ∈ l, fitB a b = true) : prL l = [] := by
  have H : ∀ k, prK l k = [] := by
    intro k
    induction k with
    | zero => rfl
    | succ k ih =>
      cases hk : l[k]? with
      | none => simp only [prK, hk, ih]
      | some a =>
        rw [prK_next hk, ih, List.nil_append]
        unfold prRow
        rw [List.map_eq_nil_iff, List.filter_eq_nil_iff]
        intro b hb
        rw [h a (List.mem_of_getElem? hk) b (List.mem_of_mem_drop hb)]
        simp
  exact H _
theorem dRows_on (D : List Int) (t n : Nat) (hn : n ≤ 9) : OnTw D t (dRows D t n) := by
  refine ⟨fun r hr => ?_, ?_, fun r hr => ?_⟩
  · obtain ⟨i, hi, rfl⟩ := List.mem_map.1 hr
    rw [List.mem_range] at hi
    show 1 ≤ (i : Int) + 1 ∧ (i : Int) + 1 ≤ 9
    omega
  · unfold dRows
    rw [List.map_map, List.nodup_iff_pairwise_ne, List.pairwise_map]
    exact (List.nodup_iff_pairwise_ne.1 List.nodup_range).imp (fun h => by simp only [Function.comp]; omega)
  · obtain ⟨i, hi, rfl⟩ := List.mem_map.1 hr
    rfl
theorem pJoin_tw (D : List Int) (t : Nat) (va : Value) (l : List (Int × List Int)) (w : World) (h1 : IsRows w va l) (ht : t ≤ 4) (ho : OnTw D t l) (hl : t + 1 ≤ l.length) :
    Calls Try.prog 53 #[.int .i64 (t : Int), va] w fun e w' => NumRes w e w' (ofF (toF (D.getD 0 0))) 0 := by
  refine (pJoin_ok t va l w h1 (by omega) (if_pos (ho.rows ht)) ho.lens (by omega)).mono ?_
  rintro e w' ⟨l', Q, hpm, _, hQ, h, _⟩
  have hi := ho.interp hl
  obtain rfl := hi.unique (pts_nodup (heads_ats (ho.rows ht))) hQ
  have := h (prL_nil (ho.perm hpm).fits)
  rwa [pnorm_eval, twA_zero] at this
theorem pPairs_tw (D : List Int) (t : Nat) (va : Value) (l : List (Int × List Int)) (w : World) (h1 : IsRows w va l) (ht : t ≤ 4) (ho : OnTw D t l) (hl : t + 1 ≤ l.length) :
    Calls Try.prog 52 #[va] w fun e w' => ∃ vp, e = .returned (.tuple #[vp, .int .i64 0]) ∧ OwnPairs w' w.heap.size vp [] ∧ Below w.heap.size w w' := by
  refine (pPairs_ok va l w h1 (if_pos (ho.rows ht)) (by omega)).mono ?_
  rintro e w' ⟨l', vp, hpm, _, h1, h2, h3⟩
  rw [prL_nil (ho.perm hpm).fits] at h2
  exact ⟨vp, h1, h2, h3⟩
theorem rc3_snoc (T : List R3) (p : R3) : rc3 (T ++ [p]) = rc3 T ++ [.int .i64 p.1, p.2.1] := by simp [rc3]
theorem wpList_push_brow {ops : Array Oper} {rest : List Oper} {o : Oper} {a : Act} {Q : Exit → Act → World → Prop} {w : World} (hgd : o.guard = none) (s x : Operand)
    (ho : o.op = .call { callee := .builtin .append, args := #[s, x], argTypes := #[77, 77] })
    (base : Nat) (v : Value) (T : List R3) (k : Nat) (p : R3) (g c : Nat) (hs : a.eval s = v) (hown : w.ownsRow base 83 2 v k (rc3 T)) (hx : a.eval x = .slice (some ⟨g, 0, none⟩) 1 c)
    (hc : w.cell? ⟨g, 0, none⟩ = some (.int .i64 p.1)) (hc2 : w.cell? ⟨g, 1, none⟩ = some p.2.1) (hp : p.2.1.oneCell' = true) (hl : k + 1 ≤ 1000) (hb : base ≤ w.heap.size)
    (h : ∀ v' w', w'.ownsRow base 83 2 v' (k + 1) (rc3 (T ++ [p])) → Below base w w' → wpList Try.prog ops Q rest (a.put o.dst v') w') : wpList Try.prog ops Q (o :: rest) a w := by
  obtain ⟨i0, hi, hz0, hz1, hz2⟩ := info_parts rinfo
  refine wpList_append_own w hgd s x 77 ho base 83 i0 (.agg #[.int .i64 0, .slice none 0 0]) 2 32 Try.underlying77 hi hz0 hz1 hz2 rfl (by decide) v k (rc3 T) hs hown ⟨g, 0, none⟩ 1 c [.int .i64 p.1, p.2.1] hx rfl ?_ ?_ ?_ ?_ hb ?_
  · intro j u hu
    match j, hu with
    | 0, hu =>
      simp at hu
      subst hu
      rw [add_addr]; exact hc
    | 1, hu =>
      simp at hu
      subst hu
      rw [add_addr]; exact hc2
  · intro u hu
    simp at hu
    rcases hu with rfl | rfl
    · rfl
    · exact hp
  · unfold maxLen; omega
  · omega
  · intro v' w' h1 h2 _
    exact h v' w' (by rw [rc3_snoc]; exact h1) ((Below.refl _ _).grown h2 hb (fun k hk => (hown.lt k hk).1))
theorem bor_is {w : World} {base : Nat} {v : Value} {T : List R3} {l : List (Int × List Int)} (h : w.ownsRow base 83 2 v l.length (rc3 T)) (h3 : Rows3 w T) (hd : dat3 T = l) (h64 : ∀ s ∈ l, I64 s.1) (hl : l.length ≤ 1000) : IsRows w v l := by
  obtain ⟨A, cap, rfl, h4, h5⟩ := own_form h
  subst hd
  refine ⟨A, cap, T.map (·.2.1), rfl, h4, h5, by omega, h64, ?_, by simp [dat3], fun i x r hx hr => ?_⟩
  · have := Cells.of_own h
    rw [rc3_rcs] at this
    rwa [show (dat3 T).map (·.1) = T.map (·.1) by simp [dat3]]
  · rw [List.getElem?_map] at hx
    cases ht : T[i]? with
    | none => rw [ht] at hx; simp at hx
    | some p =>
      rw [ht] at hx
      obtain rfl := Option.some.inj hx
      unfold dat3 at hr
      rw [List.getElem?_map, List.getElem?_map, ht] at hr
      obtain rfl := Option.some.inj hr
      exact h3 p (List.mem_of_getElem? ht)
end Go.Proofs.Ytbgfgkegcchaoaa
