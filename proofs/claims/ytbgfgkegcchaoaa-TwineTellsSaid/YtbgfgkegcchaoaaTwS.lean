/- Rows: a copy of them, and the copy sorted by parties. -/
import Derived.Test.YtbgfgkegcchaoaaTwF
import Derived.Test.YtbgfgkegcchaoaaSortR
import Derived.Test.YtbgfgkegcchaoaaJoin
import Derived.Lib.SliceRun
import Derived.Sort.OwnSortedInts
namespace Go.Proofs.Ytbgfgkegcchaoaa
open Go.RowKit Go.Maps Croft Go.Sort

/-- a row: whose, where its list lies, and the list -/
abbrev R3 := Int × Value × List Int
def rc3 (T : List R3) : List Value := T.flatMap fun p => [Value.int .i64 p.1, p.2.1]
theorem rc3_length (T : List R3) : (rc3 T).length = T.length * 2 := pairs_length _ _ _
theorem rc3_get {T : List R3} {k : Nat} {p : R3} (h : T[k]? = some p) : (rc3 T)[k * 2]? = some (.int .i64 p.1) ∧ (rc3 T)[k * 2 + 1]? = some p.2.1 := pairs_get (fun p : R3 => Value.int .i64 p.1) (fun p => p.2.1) T k p h
theorem rc3_rcs (T : List R3) : rc3 T = rcs (T.map (·.1)) (T.map (·.2.1)) := by
  unfold rc3 rcs
  induction T with
  | nil => rfl
  | cons a T ih => simp only [List.flatMap_cons, List.map_cons, List.zip_cons_cons, ih]
def dat3 (T : List R3) : List (Int × List Int) := T.map fun p => (p.1, p.2.2)
def Rows3 (w : World) (T : List R3) : Prop := ∀ p ∈ T, IsNums w p.2.1 p.2.2
theorem Rows3.below {w w' : World} {T : List R3} (h : Rows3 w T) (hb : Below w.heap.size w w') : Rows3 w' T := fun p hp => (h p hp).below hb
theorem Rows3.perm {w : World} {T T' : List R3} (h : Rows3 w T) (hp : T'.Perm T) : Rows3 w T' := fun p hp' => h p (hp.mem_iff.1 hp')
theorem IsRows.three {w : World} {v : Value} {l : List (Int × List Int)} (h : IsRows w v l) : ∃ A cap T, v = .slice A l.length cap ∧ l.length ≤ cap ∧ cap ≤ maxLen ∧ l.length ≤ 4398046511104 ∧ dat3 T = l ∧ Cells w A (rc3 T) ∧ Rows3 w T := by
  obtain ⟨A, cap, vs, h1, h2, h3, h4, h5, h6, h7⟩ := h
  obtain ⟨T, hT⟩ : ∃ T : List R3, T = (l.zip vs).map fun q => (q.1.1, q.2, q.1.2) := ⟨_, rfl⟩
  have hvl : vs.length = l.length := by rw [h7.1]; simp
  have e1 : T.map (·.1) = l.map (·.1) := by
    rw [hT, List.map_map]
    have : (fun q : (Int × List Int) × Value => q.1.1) = (fun a : Int × List Int => a.1) ∘ Prod.fst := rfl
    show (l.zip vs).map (fun q => q.1.1) = _
    rw [this, ← List.map_map, List.map_fst_zip (by omega)]
  have e2 : T.map (·.2.1) = vs := by
    rw [hT, List.map_map]
    show (l.zip vs).map Prod.snd = _
    rw [List.map_snd_zip (by omega)]
  have e3 : dat3 T = l := by
    unfold dat3
    rw [hT, List.map_map]
    show (l.zip vs).map Prod.fst = _
    rw [List.map_fst_zip (by omega)]
  refine ⟨A, cap, T, h1, h2, h3, h4, e3, by rw [rc3_rcs, e1, e2]; exact h6, fun p hp => ?_⟩
  rw [hT] at hp
  obtain ⟨q, hq, rfl⟩ := List.mem_map.1 hp
  obtain ⟨i, hi, hqi⟩ := List.mem_iff_getElem.1 hq
  have hz : (l.zip vs)[i]? = some q := by rw [List.getElem?_eq_getElem hi, hqi]
  obtain ⟨g1, g2⟩ := List.getElem?_zip_eq_some.1 hz
  exact h7.2 i _ _ g2 (by rw [List.getElem?_map, g1]; rfl)
theorem rc3_one {w : World} {T : List R3} (h : Rows3 w T) : ∀ u ∈ rc3 T, u.oneCell' = true := by
  intro u hu
  unfold rc3 at hu
  obtain ⟨p, hp, hu⟩ := List.mem_flatMap.1 hu
  simp at hu
  rcases hu with rfl | rfl
  · rfl
  · obtain ⟨A, c, hv, _⟩ := h p hp
    rw [hv]; rfl
set_option maxRecDepth 100000 in
theorem rowsClone_at (b o c n : Nat) (T : List R3) (w : World) (hn : T.length = n) (hl : n ≤ 4398046511104) (hr : Cells w (some ⟨b, o, none⟩) (rc3 T)) (h3 : Rows3 w T) :
    Calls Try.prog 109 #[.slice (some ⟨b, o, none⟩) n c] w fun e w' => ∃ v, e = .returned v ∧ w'.ownsRow w.heap.size 83 2 v n (rc3 T) ∧ Below w.heap.size w w' := by
  obtain ⟨i0, hi, hz0, hz1, hz2⟩ := info_parts rinfo
  have hnil : ∀ W, (binOp .eql 77 (.slice (some ⟨b, o, none⟩) n c) (.slice none 0 0)).run Try.prog W = .ok (.bool false) W := fun W => Lib.run_eql_slice_nil W _ _ _ _ _ _ _ Try.underlying77
  have HB := Lib.hid ((Below.refl w.heap.size w).alloc (Nat.le_refl _) (.cells #[] 83))
  have KO := Lib.hid (show (w.alloc (.cells #[] 83)).ownsRow w.heap.size 83 2 (.slice (some ⟨w.heap.size, 0, none⟩) 0 0) 0 [] from
    ⟨rfl, .inr ⟨w.heap.size, 0, #[], rfl, Nat.le_refl _, heap_alloc_new w _, Nat.le_refl _, by simp [maxLen], rfl, rfl⟩⟩)
  have KR := Lib.hid (hr.below HB.out)
  have ONE := Lib.hid (rc3_one h3)
  have HLN := Lib.hid (show (rc3 T).length = n * 2 by rw [rc3_length, hn])
  clear hr h3
  go_enter Try.func109, Try.ntmps109
  go_wp2_with (at_builtin; go_loud (refine wpList_append_own _ rfl _ _ 77 rfl w.heap.size 83 i0 (.agg #[.int .i64 0, .slice none 0 0]) 2 32 Try.underlying77 hi hz0 hz1 hz2 rfl (by decide) _ 0 [] rfl KO.out ⟨b, o, none⟩ n c (rc3 T) rfl HLN.out ?h1 ONE.out ?h2 ?h3 ?h4 ?h5))
  case h1 =>
    intro j u hu
    rcases KR.out with k5 | ⟨b', o', k5, _, hcc⟩
    · rw [k5] at hu; simp at hu
    · injection k5 with k5
      injection k5 with k6 k7
      subst k6 k7
      rw [add_addr, hcc j (List.getElem?_eq_some_iff.1 hu).1, hu]
  case h2 => unfold maxLen; omega
  case h3 => omega
  case h4 => rw [size_alloc]; omega
  intro v' w' ho hg _
  have K := Lib.hid (show w'.ownsRow w.heap.size 83 2 v' n (rc3 T) from by
    first
      | exact ho
      | (have := ho; rwa [Nat.zero_add, List.nil_append] at this))
  have B := Lib.hid (HB.out.grown hg (by rw [size_alloc]; omega) (fun k hk => (KO.out.lt k hk).1))
  clear ho hg
  go_wp2_with fail
  go_ret
  exact ⟨_, rfl, K.out, B.out⟩
/-- what the sort is told of a row -/
abbrev RE := Fin 10 × Option Addr × Nat × Nat
def encR (x : RE) : List Value := [.int .i64 (x.1.val : Int), .slice x.2.1 x.2.2.1 x.2.2.2]
def cmpR (x y : RE) : Int := (x.1.val : Int) - (y.1.val : Int)
theorem ltR (x y : RE) : ltOf cmpR x y = decide (x.1.val < y.1.val) := by
  unfold ltOf cmpR
  by_cases h : x.1.val < y.1.val
  · rw [decide_eq_true h]; exact decide_eq_true (by omega)
  · rw [decide_eq_false h]; exact decide_eq_false (by omega)
theorem swoR : SWO (ltOf cmpR) where
  irrefl x := by rw [ltR]; simp
  trans x y z h1 h2 := by rw [ltR] at *; simp at *; omega
  ntrans x y z h1 h2 := by rw [ltR] at *; simp at *; omega
theorem cmpR_any (x y : RE) (W : World) : Calls Try.prog 111 #[.agg (encR x).toArray, .agg (encR y).toArray] W fun e w' => e = .returned (.int .i64 (cmpR x y)) ∧ ∃ q os', w' = grow (W.drewN q) os' := by
  obtain ⟨⟨a, ha⟩, A1, n1, c1⟩ := x
  obtain ⟨⟨b, hb⟩, A2, n2, c2⟩ := y
  have hd : IntKind.i64.wrap ((a : Int) - (b : Int)) = (a : Int) - (b : Int) := IntWalk.i64_in _ (by omega)
  show Calls Try.prog 111 #[.agg #[.int .i64 a, .slice A1 n1 c1], .agg #[.int .i64 b, .slice A2 n2 c2]] W _
  go_enter Try.func111, Try.ntmps111
  go_wp2_with fail
  go_ret
  exact ⟨rfl, 0, _, by rw [alloc_eq_grow, alloc_eq_grow, grow_grow]; rfl⟩
theorem cmpLaysR (blk off size : Nat) (w : World) : CmpLays Try.prog 111 #[] encR 2 cmpR blk off size w := fun _ _ _ _ x y => cmpR_any x y _
theorem perm_lift {α β : Type} (f : α → β) {l' l2 : List β} (h : l'.Perm l2) : ∀ l : List α, l.map f = l2 → ∃ l'' : List α, l''.Perm l ∧ l''.map f = l' := by
  induction h with
  | nil => intro l hl; exact ⟨[], by rw [List.map_eq_nil_iff.1 hl], rfl⟩
  | cons x h ih =>
    intro l hl
    obtain ⟨a, r, rfl, rfl, hr⟩ := List.map_eq_cons_iff.1 hl
    obtain ⟨r', h1, h2⟩ := ih r hr
    exact ⟨a :: r', h1.cons a, by rw [List.map_cons, h2]⟩
  | swap x y l0 =>
    intro l hl
    obtain ⟨a, r, rfl, rfl, hr⟩ := List.map_eq_cons_iff.1 hl
    obtain ⟨b, r', rfl, rfl, rfl⟩ := List.map_eq_cons_iff.1 hr
    exact ⟨b :: a :: r', List.Perm.swap a b r', rfl⟩
  | trans h1 h2 ih1 ih2 =>
    intro l hl
    obtain ⟨l1, p1, e1⟩ := ih2 l hl
    obtain ⟨l0, p0, e0⟩ := ih1 l1 e1
    exact ⟨l0, p0.trans p1, e0⟩
def vS : Value → Option Addr × Nat × Nat
  | .slice A n c => (A, n, c)
  | _ => (none, 0, 0)
def toE (p : R3) : RE := (Fin.ofNat 10 p.1.toNat, vS p.2.1)
/-- rows that may be sorted -/
def Srt3 (w : World) (T : List R3) : Prop := ∀ p ∈ T, 1 ≤ p.1 ∧ p.1 ≤ 9 ∧ IsNums w p.2.1 p.2.2
theorem toE_at {w : World} {T : List R3} (h : Srt3 w T) {p : R3} (hp : p ∈ T) : ((toE p).1.val : Int) = p.1 := by
  obtain ⟨h1, h2, _⟩ := h p hp
  show ((p.1.toNat % 10 : Nat) : Int) = p.1
  omega
theorem encR_toE {w : World} {T : List R3} (h : Srt3 w T) {p : R3} (hp : p ∈ T) : encR (toE p) = [.int .i64 p.1, p.2.1] := by
  unfold encR
  rw [toE_at h hp]
  obtain ⟨_, _, A, c, hv, _⟩ := h p hp
  show [Value.int .i64 p.1, .slice (vS p.2.1).1 (vS p.2.1).2.1 (vS p.2.1).2.2] = _
  rw [hv]; rfl
theorem flat_enc (d : Array RE) : flatK encR 2 d = (d.toList.flatMap encR).toArray := by
  have hlen : (d.toList.flatMap encR).length = d.size * 2 := by
    have := pairs_length d.toList (fun x : RE => Value.int .i64 (x.1.val : Int)) (fun x => .slice x.2.1 x.2.2.1 x.2.2.2)
    rw [Array.length_toList] at this
    exact this
  refine ext_get! (by rw [size_flatK]; simp [hlen]) fun t ht => ?_
  rw [size_flatK] at ht
  rw [get_flatK _ _ _ _ ht]
  have hk : t / 2 < d.toList.length := by rw [Array.length_toList]; omega
  obtain ⟨g1, g2⟩ := pairs_get (fun x : RE => Value.int .i64 (x.1.val : Int)) (fun x => .slice x.2.1 x.2.2.1 x.2.2.2) d.toList (t / 2) d.toList[t / 2] (List.getElem?_eq_getElem hk)
  have hd : d[t / 2]! = d.toList[t / 2] := by
    rw [getElem!_pos d (t / 2) (by omega)]; simp
  have hb : ∀ v, (d.toList.flatMap encR)[t]? = some v → (d.toList.flatMap encR).toArray[t]! = v := fun v hv => by
    obtain ⟨h1, h2⟩ := List.getElem?_eq_some_iff.1 hv
    rw [getElem!_pos _ t (by simpa using h1)]
    simpa using h2
  rcases Nat.mod_two_eq_zero_or_one t with hm | hm
  · have e : t = t / 2 * 2 := by omega
    rw [hm, hd]
    refine (hb _ ?_).symm
    conv => lhs; rw [e]
    exact g1
  · have e : t = t / 2 * 2 + 1 := by omega
    rw [hm, hd]
    refine (hb _ ?_).symm
    conv => lhs; rw [e]
    exact g2
theorem flat_toE {w : World} {T : List R3} (h : Srt3 w T) : (T.map toE).flatMap encR = rc3 T := by
  unfold rc3
  rw [List.flatMap_map]
  have : ∀ U : List R3, (∀ p ∈ U, p ∈ T) → U.flatMap (fun p => encR (toE p)) = U.flatMap fun p => [Value.int .i64 p.1, p.2.1] := fun U => by
    induction U with
    | nil => intro _; rfl
    | cons a U ih =>
      intro hU
      rw [List.flatMap_cons, List.flatMap_cons, encR_toE h (hU a (by simp)), ih fun p hp => hU p (List.mem_cons_of_mem _ hp)]
  exact this T fun p hp => hp
theorem holds_of_block {w : World} {g : Nat} {cur : Array Value} {e : TypeId} {ss : List Value} (hb : w.heap[g]? = some (.cells cur e (0, 0))) (ht : cur.toList.take ss.length = ss) : Holds id w g 0 ss.toArray := by
  intro j hj
  have hj' : j < ss.length := by simpa using hj
  refine ⟨?_, by simp [World.frozen?, hb]⟩
  have h1 : (cur.toList.take ss.length)[j]? = ss[j]? := by rw [ht]
  rw [List.getElem?_take_of_lt hj'] at h1
  simp only [World.cell?, hb, Nat.zero_add]
  simp only [Option.isSome_none, Bool.false_eq_true, if_false]
  rw [← Array.getElem?_toList, h1]
  simp [hj']
theorem heap_laid {w : World} {g n : Nat} {os : Array Obj} {cur : Array Value} {e : TypeId} {fr : Nat × Nat} (d : Array Value) (hb : w.heap[g]? = some (.cells cur e fr)) :
    (grow (putRow id (Sort.ahead w n) g 0 d) os).heap[g]? = some (.cells (putCells id 0 d cur) e fr) := by
  have hg : g < w.heap.size := (Array.getElem?_eq_some_iff.1 hb).1
  rw [heap_grow_old _ _ (by simpa using hg)]
  simp [putRow, mapBlock, Sort.ahead, Array.getElem?_modify, hb, onCells]
theorem grownBy_laid {w : World} {g n : Nat} {os : Array Obj} (d : Array Value) : w.grownBy (grow (putRow id (Sort.ahead w n) g 0 d) os) (some g) := by
  refine ⟨rfl, rfl, rfl, by simp, fun k hk hne => ?_⟩
  rw [heap_grow_old _ _ (by simpa using hk)]
  have : g ≠ k := fun e => hne (by rw [e])
  simp [putRow, mapBlock, Sort.ahead, Array.getElem?_modify, this]
theorem take_laid (cur : Array Value) (ts : List Value) (h : ts.length ≤ cur.size) : (putCells id 0 ts.toArray cur).toList.take ts.length = ts := by
  apply List.ext_getElem?
  intro j
  by_cases hj : j < ts.length
  · rw [List.getElem?_take_of_lt hj, Array.getElem?_toList]
    simp [putCells, hj, show j < cur.size by omega]
  · rw [List.getElem?_take_eq_none (by omega), List.getElem?_eq_none (by omega)]
set_option maxRecDepth 100000 in
theorem rowsSort_at (base g cap n : Nat) (T : List R3) (w : World) (hn : T.length = n) (h : w.ownsRow base 83 2 (.slice (some ⟨g, 0, none⟩) n cap) n (rc3 T)) (h3 : Srt3 w T) (hl : n ≤ 1000) :
    Calls Try.prog 110 #[.slice (some ⟨g, 0, none⟩) n cap, .func (.func 111) #[] #[]] w fun e w' =>
      e = .returned (.tuple #[]) ∧ ∃ T', T'.Perm T ∧ T'.Pairwise (fun a b => a.1 ≤ b.1) ∧ w'.ownsRow base 83 2 (.slice (some ⟨g, 0, none⟩) n cap) n (rc3 T') ∧ w.grownBy w' (some g) := by
  rcases h.2 with ⟨hv, _⟩ | ⟨g', cap', cur, hv, hb, hg, hnc, hcm, hcs, ht⟩
  · cases hv
  · injection hv with hv1 hv2 hv3
    injection hv1 with hv1
    injection hv1 with hv1
    subst hv1 hv3
    have hgs : g < w.heap.size := (Array.getElem?_eq_some_iff.1 hg).1
    obtain ⟨d, hd⟩ : ∃ d : Array RE, d = (T.map toE).toArray := ⟨_, rfl⟩
    have hds : d.size = n := by rw [hd]; simp [hn]
    have hfl : flatK encR 2 d = (rc3 T).toArray := by rw [flat_enc, hd, ← flat_toE h3]
    have hrl : (rc3 T).length = n * 2 := by rw [rc3_length, hn]
    have eg : ∀ args w, (callFunc 111 args).run Try.prog w = .ok (.enter 111 args) w := enters_of Try.func111 (by kernel_rfl) rfl
    have hH : HoldsK encR 2 w g 0 d := by
      unfold HoldsK
      rw [hfl]
      exact holds_of_block hg (by rw [hrl]; exact ht)
    have hcon := AnyQ.slices_SortFunc laysRows 2 Try.isAgg83 Try.sizeOf83 encR (fun _ => rfl) (fun x v hv => by simp [encR] at hv; rcases hv with rfl | rfl <;> rfl) cmpR swoR 111 #[] g 0 cap d w eg (cmpLaysR g 0 d.size w) hH hgs (by omega)
    rw [hds] at hcon
    refine Calls.mono hcon fun e w' hh => ?_
    obtain ⟨rfl, d', m, os, hp, hs, rfl⟩ := hh
    refine ⟨rfl, ?_⟩
    obtain ⟨hp1, _, hp3⟩ := hp
    have e1 : ∀ x : Array RE, x.size = n → (x.extract 0 n).toList = x.toList := fun x hx => by rw [← hx]; simp
    rw [e1 d' (by rw [hp1, hds]), e1 d hds, hd] at hp3
    obtain ⟨T', hT1, hT2⟩ := perm_lift toE hp3 T rfl
    have hT'l : T'.length = n := by rw [hT1.length_eq, hn]
    have h3' : Srt3 w T' := fun p hp => h3 p (hT1.mem_iff.1 hp)
    have hd' : d' = (T'.map toE).toArray := by rw [hT2]
    have hfl' : flatK encR 2 d' = (rc3 T').toArray := by rw [flat_enc, hd', ← flat_toE h3']
    refine ⟨T', hT1, ?_, ?_, ?_⟩
    · rw [List.pairwise_iff_getElem]
      intro i j hi hj hij
      have h0 := hs i j (Nat.zero_le _) hij (by omega)
      rw [ltR, decide_eq_false_iff_not] at h0
      have hx : ∀ (k : Nat) (hk : k < T'.length), ((d'[k]!).1.val : Int) = T'[k].1 := fun k hk => by
        rw [hd', getElem!_pos _ k (by simpa using hk)]
        simp only [List.getElem_toArray, List.getElem_map]
        exact toE_at h3' (List.getElem_mem hk)
      have a1 := hx i hi
      have a2 := hx j hj
      omega
    · unfold sortWorldK putRowK
      rw [hfl']
      have hrl' : (rc3 T').length = n * 2 := by rw [rc3_length, hT'l]
      exact ⟨by rw [hrl'], .inr ⟨g, cap, _, rfl, hb, heap_laid _ hg, hnc, hcm, by simp [putCells, hcs], by rw [← hrl']; exact take_laid cur (rc3 T') (by rw [hrl', hcs]; omega)⟩⟩
    · unfold sortWorldK putRowK
      exact grownBy_laid _
end Go.Proofs.Ytbgfgkegcchaoaa
