/- croftkeep.twined: true. -/
import Derived.Test.YtegmeepogjijiaaTwM
import Derived.Test.YtegmeepogjijiaaKeepW
import Derived.Test.YtegmeepogjijiaaClone
namespace Go.Proofs.Ytegmeepogjijiaa
open Go.RowKit Go.Maps Croft

theorem tw_small : dRows [5, 2, 3] 1 3 = [(1, [7, 5]), (2, [9, 8]), (3, [11, 11])] := by decide +kernel
theorem tw_five : ofF (toF (([5, 2, 3] : List Int).getD 0 0)) = 5 := by decide +kernel
/-- who is picked -/
theorem picked_ats {N : Nat} {P L : List (Int × Int)} (h : (P ++ L).Perm (shL (List.replicate N 0))) (hN : N ≤ 9) : (∀ s ∈ P, ∃ i : Nat, i < N ∧ s.1 = (i : Int) + 1) ∧ (P.map (·.1)).Nodup := by
  have h1 := (h.map (·.1)).nodup_iff
  rw [shL_ats, List.map_append, List.length_replicate] at h1
  have h2 : (atsN N).Nodup := by
    have h3 := atsN_party hN
    unfold partyB at h3
    exact (of_decide_eq_true h3).2
  refine ⟨fun s hs => ?_, (List.nodup_append.1 (h1.2 h2)).1⟩
  have hm : s.1 ∈ (shL (List.replicate N 0)).map (·.1) := List.mem_map.2 ⟨s, h.mem_iff.1 (List.mem_append.2 (.inl hs)), rfl⟩
  rw [shL_ats, List.length_replicate] at hm
  unfold atsN at hm
  obtain ⟨i, hi, he⟩ := List.mem_map.1 hm
  exact ⟨i, List.mem_range.1 hi, he.symm⟩
def rowsOf (D : List Int) (t : Nat) (P : List (Int × Int)) : List (Int × List Int) := P.map fun s => (s.1, rowL (dMat D t) s.1)
theorem rowsOf_on {D : List Int} {t N : Nat} {P : List (Int × Int)} (h1 : ∀ s ∈ P, ∃ i : Nat, i < N ∧ s.1 = (i : Int) + 1) (h2 : (P.map (·.1)).Nodup) (hN : N ≤ 9) : OnTw D t (rowsOf D t P) := by
  refine ⟨fun r hr => ?_, ?_, fun r hr => ?_⟩
  · obtain ⟨s, hs, rfl⟩ := List.mem_map.1 hr
    obtain ⟨i, hi, he⟩ := h1 s hs
    show 1 ≤ s.1 ∧ s.1 ≤ 9
    omega
  · unfold rowsOf
    rw [List.map_map]
    exact h2
  · obtain ⟨s, hs, rfl⟩ := List.mem_map.1 hr
    rfl
theorem rowsOf_next {D : List Int} {t : Nat} {P : List (Int × Int)} {k : Nat} {a y : Int} (h : P[k]? = some (a, y)) : rowsOf D t (P.take (k + 1)) = rowsOf D t (P.take k) ++ [(a, rowL (dMat D t) a)] := by
  rw [List.take_add_one, h]; simp [rowsOf]
theorem dRows_get (D : List Int) (t n i : Nat) (hi : i < n) : (dRows D t n)[i]? = some ((i : Int) + 1, rowL (dMat D t) ((i : Int) + 1)) := by
  unfold dRows
  rw [List.getElem?_map, List.getElem?_range hi]
  rfl
end Go.Proofs.Ytegmeepogjijiaa
namespace Go.Proofs.Ytegmeepogjijiaa
open Go.RowKit Go.Maps Croft

theorem peval_bump (b y : F) : ∀ (p : List F) (c : Nat) (z : F), p[c]? = some z → peval (p.set c (z + b)) y = peval p y + b * y ^ c := by
  intro p
  induction p with
  | nil => intro c z h; simp at h
  | cons a p ih =>
    intro c z h
    cases c with
    | zero =>
      obtain rfl : a = z := by simpa using h
      simp only [List.set_cons_zero, peval]
      grind
    | succ c =>
      have h2 := ih c z (by simpa using h)
      simp only [List.set_cons_succ, peval]
      rw [h2]
      grind
structure BntL (D : List Int) (t : Nat) (a0 : Int) (b : F) (c : Nat) (l : List (Int × List Int)) : Prop where
  ats : ∀ r ∈ l, 1 ≤ r.1 ∧ r.1 ≤ 9
  one : (l.map (·.1)).Nodup
  on : ∀ r ∈ l, r.1 ≠ a0 → r.2 = rowL (dMat D t) r.1
  off : ∀ r ∈ l, r.1 = a0 → ∀ y, peval (toFs r.2) y = peval (toFs (rowL (dMat D t) a0)) y + b * y ^ c
  len : ∀ r ∈ l, r.2.length = t + 1
  ne : b ≠ 0
variable {D : List Int} {t : Nat} {a0 : Int} {b : F} {c : Nat} {l : List (Int × List Int)}
theorem BntL.perm {l' : List (Int × List Int)} (h : BntL D t a0 b c l) (hp : l'.Perm l) : BntL D t a0 b c l' :=
  ⟨fun r hr => h.ats r (hp.mem_iff.1 hr), (hp.map (·.1)).nodup_iff.2 h.one, fun r hr => h.on r (hp.mem_iff.1 hr), fun r hr => h.off r (hp.mem_iff.1 hr), fun r hr => h.len r (hp.mem_iff.1 hr), h.ne⟩
theorem BntL.fit (h : BntL D t a0 b c l) {r s : Int × List Int} (hr : r ∈ l) (hs : s ∈ l) (h1 : r.1 ≠ a0) (h2 : s.1 ≠ a0) : fitB r s = true := by
  unfold fitB
  rw [h.on r hr h1, h.on s hs h2]
  exact decide_eq_true (tw_sym _ _ _ _)
theorem BntL.bad (h : BntL D t a0 b c l) {r s : Int × List Int} (hr : r ∈ l) (hs : s ∈ l) (h1 : r.1 = a0) (h2 : s.1 ≠ a0) : fitB r s = false ∧ fitB s r = false := by
  have h0 : toF s.1 ^ c ≠ 0 := by
    apply pow_ne
    intro e
    have := h.ats s hs
    have e2 := toF_eq_iff.1 (e.trans toF_zero.symm)
    rw [← P_int, Int.emod_eq_of_lt (by omega) (by omega)] at e2
    simp at e2
    omega
  have hb := h.ne
  have key : b * toF s.1 ^ c ≠ 0 := fun e => by
    rcases F_mul_zero e with h3 | h3
    · exact hb h3
    · exact h0 h3
  unfold fitB
  rw [h.off r hr h1, h.on s hs h2, ← h1, tw_sym]
  refine ⟨decide_eq_false fun e => key ?_, decide_eq_false fun e => key ?_⟩
  · grind
  · grind
theorem BntL.rows (h : BntL D t a0 b c l) (ht : t ≤ 4) : rowsB l = true :=
  rowsB_true.2 ⟨⟨h.ats, h.one⟩, fun r hr => by rw [h.len r hr]; omega⟩
theorem BntL.lens (h : BntL D t a0 b c l) : l.any (badLen t) = false := by
  rw [List.any_eq_false]
  intro r hr
  unfold badLen
  rw [h.len r hr]
  simp
theorem prK_cons (a : Int × List Int) (L : List (Int × List Int)) : ∀ k, prK (a :: L) (k + 1) = prRow a L ++ prK L k := by
  intro k
  induction k with
  | zero => simp [prK]
  | succ k ih =>
    cases hk : L[k]? with
    | none =>
      have : (a :: L)[k + 1]? = none := by simpa using hk
      rw [show prK (a :: L) (k + 1 + 1) = prK (a :: L) (k + 1) by simp only [prK, this], ih, show prK L (k + 1) = prK L k by simp only [prK, hk]]
    | some s =>
      rw [prK_next (l := a :: L) (k := k + 1) (a := s) (by simpa using hk), ih, prK_next hk, List.append_assoc]
      simp
theorem prL_cons (a : Int × List Int) (L : List (Int × List Int)) : prL (a :: L) = prRow a L ++ prL L := prK_cons a L L.length
theorem prL_mem : ∀ (l : List (Int × List Int)) (x : Int × Int), x ∈ prL l → ∃ r s, r ∈ l ∧ s ∈ l ∧ fitB r s = false ∧ x = (r.1, s.1) := by
  intro l
  induction l with
  | nil => intro x hx; simp [prL, prK] at hx
  | cons a L ih =>
    intro x hx
    rw [prL_cons] at hx
    rcases List.mem_append.1 hx with h | h
    · unfold prRow at h
      obtain ⟨s, hs, rfl⟩ := List.mem_map.1 h
      obtain ⟨h1, h2⟩ := List.mem_filter.1 hs
      exact ⟨a, s, by simp, by simp [h1], by simpa using h2, rfl⟩
    · obtain ⟨r, s, h1, h2, h3⟩ := ih x h
      exact ⟨r, s, by simp [h1], by simp [h2], h3⟩
theorem BntL.pairs (h : BntL D t a0 b c l) {x : Int × Int} (hx : x ∈ prL l) : x.1 = a0 ∨ x.2 = a0 := by
  obtain ⟨r, s, hr, hs, hf, rfl⟩ := prL_mem l x hx
  by_cases h1 : r.1 = a0
  · exact .inl h1
  · by_cases h2 : s.1 = a0
    · exact .inr h2
    · rw [h.fit hr hs h1 h2] at hf; cases hf
theorem BntL.tail {a : Int × List Int} {L : List (Int × List Int)} (h : BntL D t a0 b c (a :: L)) : BntL D t a0 b c L := by
  have h1 := h.one
  rw [List.map_cons, List.nodup_cons] at h1
  exact ⟨fun r hr => h.ats r (by simp [hr]), h1.2, fun r hr => h.on r (by simp [hr]), fun r hr => h.off r (by simp [hr]), fun r hr => h.len r (by simp [hr]), h.ne⟩
theorem BntL.many : ∀ l : List (Int × List Int), BntL D t a0 b c l → (∃ r ∈ l, r.1 = a0) → l.length ≤ (prL l).length + 1 := by
  intro l
  induction l with
  | nil => intro _ _; simp
  | cons a L ih =>
    intro h he
    have h1 := h.one
    rw [List.map_cons, List.nodup_cons] at h1
    rw [prL_cons, List.length_append, List.length_cons]
    by_cases ha : a.1 = a0
    · have hall : L.filter (fun s => !fitB a s) = L := by
        rw [List.filter_eq_self]
        intro s hs
        have hne : s.1 ≠ a0 := fun e => h1.1 (List.mem_map.2 ⟨s, hs, by rw [e, ha]⟩)
        rw [(h.bad (by simp) (by simp [hs]) ha hne).1]
        rfl
      unfold prRow
      rw [hall, List.length_map]
      omega
    · obtain ⟨r, hr, hra⟩ := he
      have hrL : r ∈ L := by
        rcases List.mem_cons.1 hr with rfl | h'
        · exact absurd hra ha
        · exact h'
      have h2 := ih h.tail ⟨r, hrL, hra⟩
      have h3 : 0 < (prRow a L).length := by
        unfold prRow
        rw [List.length_map]
        apply List.length_pos_of_mem (a := r)
        rw [List.mem_filter]
        refine ⟨hrL, ?_⟩
        rw [(h.bad hr (by simp) hra ha).2]
        rfl
      omega
theorem cell_grown (w : World) (b j : Nat) (v : Value) : w.grownBy (w.setCell ⟨b, j, none⟩ v) (some b) :=
  ⟨rfl, rfl, rfl, by simp [World.setCell], fun k hk hne => by
    have : b ≠ k := fun e => hne (by rw [e])
    simp [World.setCell, Array.getElem?_modify, this]⟩
theorem OwnRows.setN {w : World} {base : Nat} {v : Value} {vs : List Value} {l : List (Int × List Int)} (h : OwnRows w base v vs l) {k g c n : Nat} {a : Int} {r : List Int} (hv : vs[k]? = some (.slice (some ⟨g, 0, none⟩) n c)) (hl : l[k]? = some (a, r)) (j : Nat) {x : Int} (hx : U64 x) :
    OwnRows (w.setCell ⟨g, j, none⟩ (.int .u64 x)) base v vs (l.set k (a, r.set j x)) := by
  have hr := h.row k _ _ hv hl
  have hg := cell_grown w g j (.int .u64 x)
  have hm : (l.set k (a, r.set j x)).map (·.1) = l.map (·.1) := by
    apply List.ext_getElem?
    intro i
    rw [List.getElem?_map, List.getElem?_map]
    by_cases hik : i = k
    · subst hik
      rw [List.getElem?_set_self (List.getElem?_eq_some_iff.1 hl).1, hl]; rfl
    · rw [List.getElem?_set_ne (Ne.symm hik)]
  refine ⟨?_, by rw [List.length_set]; exact h.len, by rw [List.length_set]; exact h.vlen, fun s hs => ?_, fun i y s hy hs => ?_, h.apart⟩
  · rw [List.length_set, hm]
    exact h.outer.kept hg (by
      cases hb : v.ownBlock with
      | none => exact .inl rfl
      | some b => exact .inr fun hvb => kinds_apart h.outer hr.1 (by decide) hb (by rw [hvb]; rfl))
  · rcases List.mem_or_eq_of_mem_set hs with h' | h'
    · exact h.i64 s h'
    · subst h'; exact h.i64 (a, r) (List.mem_of_getElem? hl)
  · by_cases hik : i = k
    · subst hik
      rw [hv] at hy
      obtain rfl := Option.some.inj hy
      rw [List.getElem?_set_self (List.getElem?_eq_some_iff.1 hl).1] at hs
      obtain rfl := Option.some.inj hs
      exact hr.set_ j hx
    · rw [List.getElem?_set_ne (Ne.symm hik)] at hs
      refine (h.row i y s hy hs).kept hg ?_
      cases hb : y.ownBlock with
      | none => exact .inl rfl
      | some b => exact .inr fun hvb => hik (h.apart i k y _ b hy hv hb (by rw [hvb]; rfl))
theorem bent_rows {D : List Int} {t n k c : Nat} (hn : n ≤ 9) (hk : k < n) {z : Int} {b : F} (hb : b ≠ 0) (hz : (rowL (dMat D t) ((k : Int) + 1))[c]? = some z) :
    BntL D t ((k : Int) + 1) b c ((dRows D t n).set k ((k : Int) + 1, (rowL (dMat D t) ((k : Int) + 1)).set c (ofF (toF z + b)))) := by
  have ho := dRows_on D t n hn
  have hg := dRows_get D t n k hk
  have hlr : ∀ x, (rowL (dMat D t) x).length = t + 1 := fun x => by rw [rowL_length]; simp [dMat, mat_length]
  have hm : ((dRows D t n).set k ((k : Int) + 1, (rowL (dMat D t) ((k : Int) + 1)).set c (ofF (toF z + b)))).map (·.1) = (dRows D t n).map (·.1) := by
    apply List.ext_getElem?
    intro i
    rw [List.getElem?_map, List.getElem?_map]
    by_cases hik : i = k
    · subst hik
      rw [List.getElem?_set_self (List.getElem?_eq_some_iff.1 hg).1, hg]; rfl
    · rw [List.getElem?_set_ne (Ne.symm hik)]
  refine ⟨fun r hr => ?_, by rw [hm]; exact ho.one, fun r hr hne => ?_, fun r hr he y => ?_, fun r hr => ?_, hb⟩
  · rcases List.mem_or_eq_of_mem_set hr with h | rfl
    · exact ho.ats r h
    · have := ho.ats _ (List.mem_of_getElem? hg)
      exact this
  · rcases List.mem_or_eq_of_mem_set hr with h | rfl
    · exact ho.on r h
    · exact absurd rfl hne
  · obtain ⟨i, hi, hri⟩ := List.mem_iff_getElem.1 hr
    have hgi := List.getElem?_eq_getElem hi
    rw [hri] at hgi
    by_cases hik : i = k
    · subst hik
      rw [List.getElem?_set_self (List.getElem?_eq_some_iff.1 hg).1] at hgi
      obtain rfl := Option.some.inj hgi
      have hz2 : (toFs (rowL (dMat D t) ((i : Int) + 1)))[c]? = some (toF z) := toFs_get hz
      rw [show toFs ((rowL (dMat D t) ((i : Int) + 1)).set c (ofF (toF z + b))) = (toFs (rowL (dMat D t) ((i : Int) + 1))).set c (toF z + b) by unfold toFs; rw [List.map_set, toF_ofF]]
      exact peval_bump b y _ c _ hz2
    · rw [List.getElem?_set_ne (Ne.symm hik)] at hgi
      have hil : i < n := by have := (List.getElem?_eq_some_iff.1 hgi).1; rwa [dRows_length] at this
      rw [dRows_get D t n i hil] at hgi
      obtain rfl := Option.some.inj hgi
      exact absurd he (by simp only; omega)
  · rcases List.mem_or_eq_of_mem_set hr with h | rfl
    · rw [ho.on r h, hlr]
    · rw [List.length_set, hlr]
end Go.Proofs.Ytegmeepogjijiaa
