/- Parts of the proof, put together by a program: EngP ShamW WeiW ShamQ Fill. No condition. -/
import Derived.Test.YtploomncapiloaaGreatDoorDAK
import Derived.Laws.CopyOwn
namespace Croft
def pt (i : Nat) : F := toF ((i : Int) + 1)
def ptsN (n : Nat) : List F := (List.range n).map pt
theorem ptsN_length (n : Nat) : (ptsN n).length = n := by simp [ptsN]
theorem ptsN_co {n i : Nat} (h : i < n) : co (ptsN n) i = pt i := co_get (by simp [ptsN, h])
theorem pt_inj {i j : Nat} (hi : i < 1000) (hj : j < 1000) (h : pt i = pt j) : i = j := by
  unfold pt at h
  rw [toF_eq_iff, P_val] at h
  omega
theorem ptsN_nodup {n : Nat} (h : n ≤ 1000) : (ptsN n).Nodup := by
  unfold ptsN
  rw [List.nodup_iff_pairwise_ne, List.pairwise_map]
  have := List.nodup_range (n := n)
  rw [List.nodup_iff_pairwise_ne] at this
  refine List.Pairwise.imp_of_mem (fun ha hb hne he => ?_) this
  rw [List.mem_range] at ha hb
  exact hne (pt_inj (by omega) (by omega) he)
def deal (n : Nat) (p : List F) : List F := (List.range n).map fun i => peval p (pt i)
theorem deal_length (n : Nat) (p : List F) : (deal n p).length = n := by simp [deal]
theorem deal_co {n i : Nat} (p : List F) (h : i < n) : co (deal n p) i = peval p (pt i) := co_get (by simp [deal, h])
def chunk (t : Nat) (ds : List F) (i : Nat) : List F := (ds.drop (i * t)).take t
theorem chunk_length (t : Nat) (ds : List F) (i : Nat) : (chunk t ds i).length ≤ t := by simp [chunk]; omega
def gotM (n t : Nat) (a b ds : List F) : List (List F) := (List.range n).map fun j => (List.range n).map fun i => peval ((co a i * co b i) :: chunk t ds i) (pt j)
def wts (n : Nat) : List F := (List.range n).map fun i => wtF (ptsN n) (pt i)
theorem wts_co {n i : Nat} (h : i < n) : co (wts n) i = wtF (ptsN n) (pt i) := co_get (by simp [wts, h])
def weigh (n : Nat) (row : List F) : F := fsum n fun i => co (wts n) i * co row i
def mulOut (n t : Nat) (a b ds : List F) : List F := (gotM n t a b ds).map (weigh n)
theorem weigh_poly {n : Nat} (hn : n ≤ 1000) (p : List F) (h : p.length ≤ n) : weigh n (deal n p) = peval p 0 := by
  have h1 := lagrange0 (ptsN n) (ptsN_nodup hn) p (by rw [ptsN_length]; exact h)
  rw [ptsN_length] at h1
  rw [← h1]
  exact fsum_congr fun i hi => by rw [wts_co hi, deal_co p hi, ptsN_co hi]
def Shared (n t : Nat) (l : List F) (x : F) : Prop := ∃ p : List F, p.length ≤ t + 1 ∧ l = deal n p ∧ peval p 0 = x
theorem peval_cons0 (a : F) (l : List F) : peval (a :: l) 0 = a := by simp only [peval, F_zm, F_az]
theorem list_ext_deal {n : Nat} {l p : List F} (hl : l.length = n) (h : ∀ i, i < n → co l i = peval p (pt i)) : l = deal n p := by
  apply list_ext_co (by rw [hl, deal_length])
  intro i
  rcases Nat.lt_or_ge i n with hi | hi
  · rw [h i hi, deal_co p hi]
  · rw [co_of_le (by omega), co_of_le (by rw [deal_length]; exact hi)]
theorem Shared.dealt {n t : Nat} (x : F) {ds : List F} (h : ds.length ≤ t) : Shared n t (deal n (x :: ds)) x := ⟨x :: ds, by simp; exact h, rfl, peval_cons0 _ _⟩
theorem Shared.const (n t : Nat) (x : F) : Shared n t (List.replicate n x) x := by
  refine ⟨[x], by simp, ?_, peval_cons0 _ _⟩
  apply list_ext_deal (by simp)
  intro i hi
  rw [co_get (a := x) (by simp [hi])]
  simp only [peval, F_mz, F_az]
theorem Shared.map2 {n t : Nat} {a b : List F} {x y : F} (ha : Shared n t a x) (hb : Shared n t b y) (c d : F) : Shared n t (List.zipWith (fun u v => c * u + d * v) a b) (c * x + d * y) := by
  obtain ⟨p, hp, rfl, rfl⟩ := ha
  obtain ⟨q, hq, rfl, rfl⟩ := hb
  refine ⟨padd (pscale c p) (pscale d q), by rw [padd_length, pscale_length, pscale_length]; omega, ?_, by rw [peval_add, peval_scale, peval_scale]⟩
  apply list_ext_deal (by simp [deal_length])
  intro i hi
  rw [peval_add, peval_scale, peval_scale, ← deal_co p hi, ← deal_co q hi]
  exact co_get (by rw [List.getElem?_zipWith, get_co (by rw [deal_length]; exact hi), get_co (by rw [deal_length]; exact hi)])
theorem sum_poly (n t : Nat) (w : Nat → F) (P : Nat → List F) (hP : ∀ i, (P i).length ≤ t + 1) : ∃ r : List F, r.length ≤ t + 1 ∧ ∀ z, peval r z = fsum n fun i => w i * peval (P i) z := by
  induction n with
  | zero => exact ⟨[], by simp, fun z => rfl⟩
  | succ n ih =>
    obtain ⟨r, hl, he⟩ := ih
    refine ⟨padd r (pscale (w n) (P n)), by rw [padd_length, pscale_length]; have := hP n; omega, fun z => ?_⟩
    rw [peval_add, peval_scale, he z, fsum]
theorem Shared.mul {n t : Nat} {a b : List F} {x y : F} (ha : Shared n t a x) (hb : Shared n t b y) (ht : 2 * t + 1 ≤ n) (hn : n ≤ 1000) (ds : List F) : Shared n t (mulOut n t a b ds) (x * y) := by
  obtain ⟨p, hp, rfl, rfl⟩ := ha
  obtain ⟨q, hq, rfl, rfl⟩ := hb
  obtain ⟨r, hr, he⟩ := sum_poly n t (fun i => co (wts n) i) (fun i => (co (deal n p) i * co (deal n q) i) :: chunk t ds i) (fun i => by have := chunk_length t ds i; simp; exact this)
  refine ⟨r, hr, ?_, ?_⟩
  · apply list_ext_deal (by simp [mulOut, gotM])
    intro j hj
    rw [he]
    refine co_get (a := fsum n fun i => co (wts n) i * peval ((co (deal n p) i * co (deal n q) i) :: chunk t ds i) (pt j)) ?_
    simp only [mulOut, gotM, List.map_map, List.getElem?_map, List.getElem?_range hj, Option.map_some, Function.comp]
    congr 1
    exact fsum_congr fun i hi => by congr 1; exact co_get (by simp [hi])
  · rw [he]
    have h1 := weigh_poly hn (pmulS p q) (by
      rw [pmulS_length]
      split
      · omega
      · omega)
    rw [← peval_mulS, ← h1]
    exact fsum_congr fun i hi => by rw [peval_cons0, deal_co _ hi, deal_co _ hi, deal_co _ hi, peval_mulS]
end Croft
namespace Croft
def gdraw (n t : Nat) (g : Gt) : Nat := if g.kind = 1 then t else if g.kind = 5 then n * t else 0
def dat (n t : Nat) (gs : List Gt) : Nat → Nat
  | 0 => 0
  | k + 1 => dat n t gs k + (match gs[k]? with | some g => gdraw n t g | none => 0)
theorem dat_succ {n t k : Nat} {gs : List Gt} {g : Gt} (h : gs[k]? = some g) : dat n t gs (k + 1) = dat n t gs k + gdraw n t g := by simp only [dat, h]
theorem dat_le {n t : Nat} {gs : List Gt} {k m : Nat} (h : k ≤ m) : dat n t gs k ≤ dat n t gs m := by
  induction h with
  | refl => exact Nat.le_refl _
  | step _ ih => rw [dat]; omega
theorem dat_room {n t k : Nat} {gs : List Gt} {g : Gt} (h : gs[k]? = some g) : dat n t gs k + gdraw n t g ≤ dat n t gs gs.length := by
  rw [← dat_succ h]
  exact dat_le (List.getElem?_eq_some_iff.1 h).1
theorem gdraw_le {n t : Nat} {g : Gt} (hn : n ≤ 9) (ht : t ≤ 4) : gdraw n t g ≤ 36 := by
  have := Nat.mul_le_mul hn ht
  unfold gdraw
  split
  · omega
  · split <;> omega
theorem dat_small {n t : Nat} {gs : List Gt} (hn : n ≤ 9) (ht : t ≤ 4) : ∀ k, dat n t gs k ≤ 36 * k := by
  intro k
  induction k with
  | zero => simp [dat]
  | succ k ih =>
    rw [dat]
    cases h : gs[k]? with
    | none => simp only; omega
    | some g => have := gdraw_le (g := g) hn ht; simp only; omega
def wr (ws : List (List F)) (i : Nat) : List F := ws.getD i []
theorem wr_lt {ws : List (List F)} {l : List F} {i : Nat} (h : i < ws.length) : wr (ws ++ [l]) i = wr ws i := by
  unfold wr
  simp [List.getD, List.getElem?_append_left h]
theorem wr_at {ws : List (List F)} {l : List F} {i : Nat} (h : i = ws.length) : wr (ws ++ [l]) i = l := by
  subst h
  simp [wr, List.getD]
theorem wr_get {ws : List (List F)} {i : Nat} (h : i < ws.length) : ws[i]? = some (wr ws i) := by simp [wr, List.getD, List.getElem?_eq_getElem h]
def ewire (n t : Nat) (ws : List (List F)) (x : F) (ds : List F) (g : Gt) : List F :=
  if g.kind = 1 then deal n (x :: ds.take t)
  else if g.kind = 2 then List.replicate n (toF g.n)
  else if g.kind = 3 then List.zipWith (· + ·) (wr ws g.a.toNat) (wr ws g.b.toNat)
  else if g.kind = 4 then List.zipWith (· - ·) (wr ws g.a.toNat) (wr ws g.b.toNat)
  else if g.kind = 5 then mulOut n t (wr ws g.a.toNat) (wr ws g.b.toNat) (ds.take (n * t))
  else (wr ws g.a.toNat).map (· * toF g.n)
def eseen (n t : Nat) (ws : List (List F)) (x : F) (ds : List F) (g : Gt) (j : Nat) : List F :=
  if g.kind = 1 then [co (deal n (x :: ds.take t)) j]
  else if g.kind = 5 then (gotM n t (wr ws g.a.toNat) (wr ws g.b.toNat) (ds.take (n * t))).getD j []
  else []
def ew (n t : Nat) (gs : List Gt) (I D : List F) : Nat → List (List F)
  | 0 => []
  | k + 1 => ew n t gs I D k ++ [match gs[k]? with | some g => ewire n t (ew n t gs I D k) (co I (cin gs k)) (D.drop (dat n t gs k)) g | none => []]
theorem ew_length (n t : Nat) (gs : List Gt) (I D : List F) (k : Nat) : (ew n t gs I D k).length = k := by
  induction k with
  | zero => rfl
  | succ k ih => simp [ew, ih]
theorem ew_succ {n t k : Nat} {gs : List Gt} {I D : List F} {g : Gt} (h : gs[k]? = some g) : ew n t gs I D (k + 1) = ew n t gs I D k ++ [ewire n t (ew n t gs I D k) (co I (cin gs k)) (D.drop (dat n t gs k)) g] := by simp only [ew, h]
def es (n t : Nat) (gs : List Gt) (I D : List F) : Nat → Nat → List F
  | 0, _ => []
  | k + 1, j => es n t gs I D k j ++ (match gs[k]? with | some g => eseen n t (ew n t gs I D k) (co I (cin gs k)) (D.drop (dat n t gs k)) g j | none => [])
theorem es_succ {n t k : Nat} {gs : List Gt} {I D : List F} {g : Gt} (h : gs[k]? = some g) (j : Nat) : es n t gs I D (k + 1) j = es n t gs I D k j ++ eseen n t (ew n t gs I D k) (co I (cin gs k)) (D.drop (dat n t gs k)) g j := by simp only [es, h]
def eo (n t : Nat) (gs : List Gt) (os : List Int) (I D : List F) : Nat → Nat → List F
  | 0, j => es n t gs I D gs.length j
  | q + 1, j => eo n t gs os I D q j ++ (match os[q]? with | some o => wr (ew n t gs I D gs.length) o.toNat | none => [])
theorem eo_succ {n t q : Nat} {gs : List Gt} {os : List Int} {I D : List F} {o : Int} (h : os[q]? = some o) (j : Nat) : eo n t gs os I D (q + 1) j = eo n t gs os I D q j ++ wr (ew n t gs I D gs.length) o.toNat := by simp only [eo, h]
def glen (n : Nat) (g : Gt) : Nat := if g.kind = 1 then 1 else if g.kind = 5 then n else 0
def slen (n : Nat) (gs : List Gt) : Nat → Nat
  | 0 => 0
  | k + 1 => slen n gs k + (match gs[k]? with | some g => glen n g | none => 0)
theorem eseen_length {n t : Nat} {ws : List (List F)} {x : F} {ds : List F} {g : Gt} {j : Nat} (hj : j < n) : (eseen n t ws x ds g j).length = glen n g := by
  unfold eseen glen
  split
  · rfl
  · split
    · simp [gotM, List.getD, hj]
    · rfl
theorem es_length {n t : Nat} {gs : List Gt} {I D : List F} {j : Nat} (hj : j < n) : ∀ k, (es n t gs I D k j).length = slen n gs k := by
  intro k
  induction k with
  | zero => rfl
  | succ k ih =>
    rw [es, slen, List.length_append, ih]
    cases gs[k]? with
    | none => rfl
    | some g => simp only [eseen_length hj]
theorem slen_le {n : Nat} {gs : List Gt} (hn : n ≤ 9) : ∀ k, slen n gs k ≤ 9 * k := by
  intro k
  induction k with
  | zero => simp [slen]
  | succ k ih =>
    rw [slen]
    cases gs[k]? with
    | none => simp only; omega
    | some g =>
      simp only
      unfold glen
      split
      · omega
      · split <;> omega
theorem Shared.len {n t : Nat} {l : List F} {x : F} (h : Shared n t l x) : l.length = n := by
  obtain ⟨p, _, rfl, _⟩ := h
  exact deal_length n p
theorem Shared.add {n t : Nat} {a b : List F} {x y : F} (ha : Shared n t a x) (hb : Shared n t b y) : Shared n t (List.zipWith (· + ·) a b) (x + y) := by
  have h := ha.map2 hb 1 1
  simp only [F_om] at h
  exact h
theorem Shared.sub {n t : Nat} {a b : List F} {x y : F} (ha : Shared n t a x) (hb : Shared n t b y) : Shared n t (List.zipWith (· - ·) a b) (x - y) := by
  have h := ha.map2 hb 1 (-1)
  have e : ∀ u v : F, 1 * u + -1 * v = u - v := fun u v => by grind
  simp only [e] at h
  exact h
theorem zip_self_map (f : F → F → F) (l : List F) : List.zipWith f l l = l.map fun u => f u u := by
  induction l with
  | nil => rfl
  | cons a l _ => simp
theorem Shared.scale {n t : Nat} {a : List F} {x : F} (ha : Shared n t a x) (c : F) : Shared n t (a.map (· * c)) (x * c) := by
  have h := ha.map2 ha c 0
  have e : ∀ u v : F, c * u + 0 * v = u * c := fun u v => by grind
  simp only [e] at h
  rw [zip_self_map] at h
  exact h
theorem ewire_shared {n t k : Nat} {ws : List (List F)} {cs : List F} {x : F} {ds : List F} {g : Gt} (hr : gRight g k = true) (hn : 2 * t + 1 ≤ n) (hn9 : n ≤ 1000) (ih : ∀ i, i < k → Shared n t (wr ws i) (co cs i)) : Shared n t (ewire n t ws x ds g) (cone cs x g) := by
  unfold gRight at hr
  unfold ewire cone
  split
  · exact Shared.dealt _ (by simp; omega)
  · next h1 =>
    rw [if_neg h1] at hr
    split
    · exact Shared.const _ _ _
    · next h2 =>
      rw [if_neg h2] at hr
      have ahead : ∀ {z : Int}, aheadB z k = true → z.toNat < k := fun {z} h => by
        simp [aheadB] at h
        omega
      split
      · next h3 =>
        rw [if_pos (.inl h3)] at hr
        simp only [Bool.and_eq_true] at hr
        exact (ih _ (ahead hr.1.1)).add (ih _ (ahead hr.1.2))
      · next h3 =>
        split
        · next h4 =>
          rw [if_pos (.inr (.inl h4))] at hr
          simp only [Bool.and_eq_true] at hr
          exact (ih _ (ahead hr.1.1)).sub (ih _ (ahead hr.1.2))
        · next h4 =>
          split
          · next h5 =>
            rw [if_pos (.inr (.inr h5))] at hr
            simp only [Bool.and_eq_true] at hr
            exact (ih _ (ahead hr.1.1)).mul (ih _ (ahead hr.1.2)) hn hn9 _
          · next h5 =>
            rw [if_neg (by omega)] at hr
            split at hr
            · simp only [Bool.and_eq_true] at hr
              exact (ih _ (ahead hr.1)).scale _
            · cases hr
theorem ew_shared {n t : Nat} {gs : List Gt} {I D : List F} (hr : ∀ (i : Nat) (g : Gt), gs[i]? = some g → gRight g i = true) (hn : 2 * t + 1 ≤ n) (hn9 : n ≤ 1000) : ∀ k, k ≤ gs.length → ∀ i, i < k → Shared n t (wr (ew n t gs I D k) i) (co (cw gs I k) i) := by
  intro k
  induction k with
  | zero => intro _ i h; omega
  | succ k ih =>
    intro hk i hi
    have hg : gs[k]? = some gs[k] := List.getElem?_eq_getElem (by omega)
    have ih := ih (by omega)
    rw [ew_succ hg, cw_succ hg]
    rcases Nat.lt_or_ge i k with h | h
    · rw [wr_lt (by rw [ew_length]; exact h), co_append_lt (by rw [cw_length]; exact h)]
      exact ih i h
    · obtain rfl : i = k := by omega
      rw [wr_at (by rw [ew_length]), co_append_at (by rw [cw_length])]
      exact ewire_shared (hr i _ hg) hn hn9 ih
theorem eo_length {n t : Nat} {gs : List Gt} {os : List Int} {I D : List F} {j : Nat} (h : CircOk gs os) (hn : 2 * t + 1 ≤ n) (hn9 : n ≤ 1000) (hj : j < n) : ∀ q, q ≤ os.length → (eo n t gs os I D q j).length = slen n gs gs.length + n * q := by
  intro q
  induction q with
  | zero => intro _; rw [eo, es_length hj]; rfl
  | succ q ih =>
    intro hq
    have ho : os[q]? = some os[q] := List.getElem?_eq_getElem (by omega)
    have hz := h.outs _ (List.mem_of_getElem? ho)
    rw [eo_succ ho, List.length_append, ih (by omega), (ew_shared (D := D) (I := I) h.right hn hn9 gs.length (Nat.le_refl _) os[q].toNat (by omega)).len, Nat.mul_succ]
    omega
end Croft
namespace Go.Proofs.YtploomncapiloaaGreatDoor
open Go.RowKit Croft
theorem deal_next (n : Nat) (p : List F) : ofFs (deal (n + 1) p) = ofFs (deal n p) ++ [ofF (peval p (toF ((n : Int) + 1)))] := by simp [deal, ofFs, List.range_succ, pt]
def dealOk (ds : List Int) (n : Int) : Prop := ds.length ≤ 4 ∧ (ds.length : Int) + 1 ≤ n ∧ n ≤ 9
theorem sDeal_bad (secret : Int) (vd : Value) (ds : List Int) (n : Int) (w : World) (h1 : IsNums w vd ds) (h : ¬ dealOk ds n) :
    Calls Tryz.prog 56 #[.int .u64 secret, vd, .int .i64 n] w fun e w' => ListRes w e w' [] 1 := by
  obtain ⟨A1, c1, rfl, hc1, hm1, hl1, hu1, hr1⟩ := h1
  unfold dealOk at h
  clear hu1 hr1 hm1
  by_cases k1 : (ds.length : Int) > 4
  · clear h
    go_enter Tryz.func56, Tryz.ntmps56
    go_wp2_with fail
    go_ret2
    exact ⟨_, rfl, OwnNums.nil _ _, Below.refl _ _⟩
  · by_cases k2 : n < (ds.length : Int) + 1
    · clear h
      go_enter Tryz.func56, Tryz.ntmps56
      go_wp2_with fail
      go_ret2
      exact ⟨_, rfl, OwnNums.nil _ _, Below.refl _ _⟩
    · have k3 : n > 9 := by omega
      clear h
      go_enter Tryz.func56, Tryz.ntmps56
      go_wp2_with fail
      go_ret2
      exact ⟨_, rfl, OwnNums.nil _ _, Below.refl _ _⟩
set_option maxRecDepth 100000 in
theorem sDeal_ok (secret : Int) (vd : Value) (ds : List Int) (n : Nat) (w : World) (hs : U64 secret) (h1 : IsNums w vd ds) (hd : ds.length ≤ 4) (hn1 : ds.length + 1 ≤ n) (hn2 : n ≤ 9) :
    Calls Tryz.prog 56 #[.int .u64 secret, vd, .int .i64 n] w fun e w' => ListRes w e w' (ofFs (deal n (toFs (secret :: ds)))) 0 := by
  have KD := Lib.hid h1
  suffices hgoal : ∀ Post : Ending → World → Prop, (∀ e w', ListRes w e w' (ofFs (deal n (toFs (secret :: ds)))) 0 → Post e w') → Calls Tryz.prog 56 #[.int .u64 secret, vd, .int .i64 n] w Post from hgoal _ fun e w' h => h
  intro Post hp
  have HP := Lib.hid hp
  obtain ⟨A1, c1, rfl, hc1, hm1, hl1, hu1, hr1⟩ := h1
  clear hp hu1 hr1 hm1
  have HLO := Lib.hid (lit_own w w.heap.size [secret] (by simpa using hs) (by simp) (Nat.le_refl _))
  go_enter Tryz.func56, Tryz.ntmps56
  go_wp2_with (at_builtin; go_loud (refine wpList_join rfl _ _ rfl w.heap.size _ _ [secret] ds rfl HLO.out rfl (KD.out.alloc _) (by simp; omega) (by rw [size_alloc]; omega) ?_))
  intro v3 W3 ho3 hb3
  have KL := Lib.hid (show IsNums W3 v3 (secret :: ds) from OwnNums.is ho3)
  have B3 := Lib.hid (((Below.refl w.heap.size w).alloc (Nat.le_refl _) (.cells #[.int .u64 secret] 67)).trans hb3)
  clear ho3 hb3 HLO
  go_wp2_with fail
  go_loopw [10, 11] (fun v i wr => ∃ k : Nat, k ≤ n ∧ i = .int .i64 ((k : Int) + 1) ∧ OwnNums wr W3.heap.size v (ofFs (deal k (toFs (secret :: ds)))) ∧ Below W3.heap.size W3 wr) (fun _ i _ => n + 1 - (intOf i).toNat)
  case atStart => exact ⟨0, Nat.zero_le _, rfl, OwnNums.nil _ _, Below.refl _ _⟩
  case round =>
    obtain ⟨k, hk, rfl, hown, hbel⟩ := hrel
    have KO := Lib.hid hown
    have BEL := Lib.hid hbel
    have hsz := hbel.size
    clear hown hbel
    by_cases hlt : k < n
    · have KL2 := Lib.hid (KL.out.below BEL.out)
      go_wp2_with fail
      refine (pAt_any _ _ _ _ KL2.out (by omega)).mono ?_
      rintro e w' ⟨rfl, nd, rfl⟩
      try dsimp only
      go_wp2_with (at_builtin; go_loud (refine wpList_push rfl _ _ rfl W3.heap.size _ _ (ofF (peval (toFs (secret :: ds)) (toF ((k : Int) + 1)))) (wr.drewN nd).heap.size 1 rfl ((KO.out.drewN nd).alloc _) rfl (new_cell _ _ _) (U64.of_ofF _) (by rw [ofFs_length, deal_length]; omega) (by simp; omega) ?_))
      intro v' w5 hown' hbel'
      rw [← deal_next] at hown'
      have K5 := Lib.hid hown'
      have B5 := Lib.hid (((below_drewN BEL.out nd).alloc (by simp; omega) (.cells #[.int .u64 (ofF (peval (toFs (secret :: ds)) (toF ((k : Int) + 1))))] 67)).trans hbel')
      clear hown' hbel'
      go_wp2_with fail
      exact ⟨⟨k + 1, by omega, by go_num, K5.out, B5.out⟩, by simp [intOf] <;> omega⟩
    · obtain rfl : n = k := by omega
      go_wp2_with fail
      exact HP.out _ _ ⟨_, rfl, KO.out.less B3.out.size, below_trans B3.out BEL.out B3.out.size⟩
def checkE (t : Int) (l : List (Int × Int)) : Int := if 0 ≤ t ∧ t ≤ 4 then if partyB (l.map (·.1)) = true then if (l.length : Int) < t + 1 then 4 else 0 else 5 else 1
theorem partyB_ats {l : List (Int × Int)} : partyB (l.map (·.1)) = true ↔ AtsOk l 9 := by
  unfold partyB AtsOk
  rw [decide_eq_true_eq]
  simp
theorem AtsOk.more {l : List (Int × Int)} (h : AtsOk l 9) : AtsOk l 2147483646 := ⟨fun s hs => by have := h.1 s hs; omega, h.2⟩
theorem AtsOk.few {l : List (Int × Int)} (h : AtsOk l 9) : l.length ≤ 9 := by
  have h1 : (l.map fun s => s.1.toNat).Nodup := by
    have h2 := h.2
    rw [List.nodup_iff_pairwise_ne, List.pairwise_map] at h2 ⊢
    refine List.Pairwise.imp_of_mem (fun ha hb hne he => hne ?_) h2
    have := h.1 _ ha; have := h.1 _ hb; omega
  have h2 : (l.map fun s => s.1.toNat) ⊆ (List.range 10).erase 0 := by
    intro x hx
    obtain ⟨s, hs, rfl⟩ := List.mem_map.1 hx
    have := h.1 s hs
    rw [List.Nodup.mem_erase_iff List.nodup_range, List.mem_range]
    omega
  have h3 := List.Nodup.length_le_of_subset h1 h2
  rw [List.length_map] at h3
  simpa using h3
set_option maxRecDepth 100000 in
theorem sCheck_any (t : Int) (va : Value) (l : List (Int × Int)) (w : World) (h1 : IsShares w va l) :
    Calls Tryz.prog 154 #[.int .i64 t, va] w fun e w' => e = .returned (.int .i64 (checkE t l)) ∧ Below w.heap.size w w' := by
  have KA := Lib.hid h1
  obtain ⟨A1, c1, rfl, hc1, hm1, hl1, hu1, hr1⟩ := h1
  clear hu1 hr1 hm1
  by_cases ht : 0 ≤ t ∧ t ≤ 4
  · have HE := Lib.hid (show checkE t l = if partyB (l.map (·.1)) = true then if (l.length : Int) < t + 1 then 4 else 0 else 5 from if_pos ht)
    obtain ⟨ht1, ht2⟩ := ht
    have hd1 : decide (t < 0) = false := by simpa using ht1
    have hd2 : decide (t > 4) = false := by simpa using ht2
    go_enter Tryz.func154, Tryz.ntmps154
    go_wp2_with fail
    go_loopw [5, 16] (fun v i wr => ∃ k : Nat, k ≤ l.length ∧ i = .int .i64 k ∧ OwnInts wr w.heap.size v ((l.map (·.1)).take k) ∧ Below w.heap.size w wr) (fun _ i _ => l.length - (intOf i).toNat)
    case atStart => exact ⟨0, Nat.zero_le _, rfl, OwnInts.nil _ _, Below.refl _ _⟩
    case round =>
      obtain ⟨k, hk, rfl, hown, hbel⟩ := hrel
      have KO := Lib.hid hown
      have BEL := Lib.hid hbel
      have hsz := hbel.size
      clear hown hbel
      by_cases hlt : k < l.length
      · obtain ⟨A, c, hA, _, _, _, hu, hr⟩ := KA.out.below BEL.out
        injection hA with hA1 hA2 hA3
        subst hA1 hA3
        obtain ⟨b1, o1, at_, y, rfl, hb1, hgk, hat, huy, hca, hcb⟩ := share_at hr hu hlt
        have HT := Lib.hid (show (l.map (·.1)).take (k + 1) = (l.map (·.1)).take k ++ [at_] by rw [List.take_add_one, List.getElem?_map, hgk]; rfl)
        clear hr hu hgk hb1
        go_wp2_with (at_builtin; go_loud (refine wpList_push_int rfl _ _ rfl w.heap.size _ _ at_ (wr.heap.size + 1) 1 rfl ((KO.out.alloc _).alloc _) rfl (by rw [← size_alloc wr (.cells #[.int .i64 at_, .int .u64 y] 71)]; exact new_cell _ _ _) hat (by simp only [List.length_take, List.length_map]; omega) (by rw [size_alloc, size_alloc]; omega) ?_))
        intro v' w5 hown' hbel'
        rw [← HT.out] at hown'
        have K5 := Lib.hid hown'
        have B5 := Lib.hid (((BEL.out.alloc hsz (.cells #[.int .i64 at_, .int .u64 y] 71)).alloc (by rw [size_alloc]; omega) (.cells #[.int .i64 at_] 3)).trans hbel')
        clear hown' hbel'
        go_wp2_with fail
        exact ⟨⟨k + 1, by omega, by go_num, K5.out, B5.out⟩, by simp [intOf] <;> omega⟩
      · have hkl : k = l.length := by omega
        have hts : (l.map (·.1)).take k = l.map (·.1) := List.take_of_length_le (by simp; omega)
        rw [hts] at KO
        clear hts hkl
        go_wp2_with fail
        refine (sParties_any _ _ _ KO.out.is).mono ?_
        rintro e w' ⟨rfl, rfl⟩
        cases hp : partyB (l.map (·.1)) with
        | false =>
          have HPP := Lib.hid hp
          clear hp
          try dsimp only
          go_wp2_with fail
          go_ret
          exact ⟨by rw [HE.out, if_neg (by rw [HPP.out]; simp)]; rfl, BEL.out⟩
        | true =>
          have HPP := Lib.hid hp
          clear hp
          by_cases hs : (l.length : Int) < t + 1
          · try dsimp only
            go_wp2_with fail
            go_ret
            exact ⟨by rw [HE.out, if_pos HPP.out, if_pos hs]; rfl, BEL.out⟩
          · try dsimp only
            go_wp2_with fail
            go_ret
            exact ⟨by rw [HE.out, if_pos HPP.out, if_neg (by omega)]; rfl, BEL.out⟩
  · have HE := Lib.hid (show checkE t l = 1 from if_neg ht)
    by_cases h1 : t < 0
    · clear ht
      go_enter Tryz.func154, Tryz.ntmps154
      go_wp2_with fail
      go_ret
      exact ⟨by rw [HE.out]; rfl, Below.refl _ _⟩
    · have h2 : t > 4 := by omega
      have hd1 : decide (t < 0) = false := by simpa using h1
      clear ht
      go_enter Tryz.func154, Tryz.ntmps154
      go_wp2_with fail
      go_ret
      exact ⟨by rw [HE.out]; rfl, Below.refl _ _⟩
def NumRes (w : World) (e : Ending) (w' : World) (x err : Int) : Prop := e = .returned (.tuple #[.int .u64 x, .int .i64 err]) ∧ Below w.heap.size w w'
theorem checkE_zero {t : Int} {l : List (Int × Int)} : checkE t l = 0 ↔ (0 ≤ t ∧ t ≤ 4) ∧ AtsOk l 9 ∧ t + 1 ≤ l.length := by
  unfold checkE
  rw [← partyB_ats]
  by_cases h1 : 0 ≤ t ∧ t ≤ 4
  · rw [if_pos h1]
    by_cases h2 : partyB (l.map (·.1)) = true
    · rw [if_pos h2]
      by_cases h3 : (l.length : Int) < t + 1
      · rw [if_pos h3]
        exact ⟨fun h => by omega, fun h => by omega⟩
      · rw [if_neg h3]
        exact ⟨fun _ => ⟨h1, h2, by omega⟩, fun _ => rfl⟩
    · rw [if_neg h2]
      exact ⟨fun h => by omega, fun h => absurd h.2.1 h2⟩
  · rw [if_neg h1]
    exact ⟨fun h => by omega, fun h => absurd h.1 h1⟩
def openX (t : Int) (Q : List F) : Int := if t + 1 < Q.length then 0 else ofF (peval Q 0)
def openE (t : Int) (Q : List F) : Int := if t + 1 < Q.length then 6 else 0
set_option maxRecDepth 100000 in
theorem sOpen_ok (t : Int) (va : Value) (l : List (Int × Int)) (Q : List F) (w : World) (h1 : IsShares w va l) (h : checkE t l = 0) (hQ : Interp (ptsF l) Q) :
    Calls Tryz.prog 125 #[.int .i64 t, va] w fun e w' => NumRes w e w' (openX t Q) (openE t Q) := by
  have KA := Lib.hid h1
  have HE := Lib.hid h
  have OK := Lib.hid (checkE_zero.1 h)
  have HQ := Lib.hid hQ
  have ht1 := (checkE_zero.1 h).1.1
  have ht2 := (checkE_zero.1 h).1.2
  clear h h1 hQ
  go_enter Tryz.func125, Tryz.ntmps125
  go_wp2_with fail
  refine (sCheck_any _ _ _ _ KA.out).mono ?_
  rintro e W1 ⟨rfl, hb⟩
  rw [HE.out]
  replace KA := Lib.hid (KA.out.below hb)
  have BEL := Lib.hid hb
  clear hb
  try dsimp only
  go_wp2_with fail
  refine (pThrough_small _ _ _ KA.out (by have := OK.out.2.1.few; omega)).mono ?_
  rintro e W2 hh
  obtain ⟨Q2, hQ2, vT, rfl, ho, hb⟩ := hh.1 OK.out.2.1.more
  obtain rfl := HQ.out.unique (pts_nodup OK.out.2.1.more) hQ2
  clear hh hQ2
  have KQ := Lib.hid ho.is
  obtain ⟨A, c, hv, _, _⟩ := own_form ho.1
  rw [ofFs_length] at hv
  subst hv
  have hql : Q.length ≤ 9 := by
    have := HQ.out.2.1
    have h9 := OK.out.2.1.few
    simp only [ptsF, List.length_map] at this
    omega
  replace BEL := Lib.hid (below_trans BEL.out hb BEL.out.size)
  clear ho hb
  try dsimp only
  by_cases hbig : (Q.length : Int) > t + 1
  · have HX := Lib.hid (show openX t Q = 0 from if_pos (by omega))
    have HEE := Lib.hid (show openE t Q = 6 from if_pos (by omega))
    go_wp2_with fail
    go_ret2
    exact ⟨by rw [HX.out, HEE.out]; rfl, BEL.out⟩
  · have HX := Lib.hid (show openX t Q = ofF (peval Q 0) from if_neg (by omega))
    have HEE := Lib.hid (show openE t Q = 0 from if_neg (by omega))
    go_wp2_with fail
    refine (pAt_any _ _ _ _ KQ.out (Int.le_refl 0)).mono ?_
    rintro e w' ⟨rfl, nd, rfl⟩
    rw [toFs_ofFs, toF_zero]
    try dsimp only
    go_wp2_with fail
    go_ret2
    exact ⟨by rw [HX.out, HEE.out]; rfl, below_drewN BEL.out _⟩
theorem others_snoc (xs : List F) (a b : F) : others (xs ++ [b]) a = if b = a then others xs a else others xs a ++ [b] := by
  unfold others
  rw [List.filter_append]
  by_cases h : b = a
  · rw [if_pos h, h]; simp
  · rw [if_neg h]; simp [h]
theorem toFs_snoc (l : List Int) (z : Int) : toFs (l ++ [z]) = toFs l ++ [toF z] := by simp [toFs]
def upL (l : List Int) (a : Int) : F := lprod (others (toFs l) (toF a))
def unL (l : List Int) (a : Int) : F := lprod ((others (toFs l) (toF a)).map fun b => b - toF a)
theorem upL_same {l : List Int} {a b : Int} (h : toF b = toF a) : upL (l ++ [b]) a = upL l a ∧ unL (l ++ [b]) a = unL l a := by
  unfold upL unL
  rw [toFs_snoc, others_snoc, if_pos h]
  exact ⟨rfl, rfl⟩
theorem upL_other {l : List Int} {a b : Int} (h : toF b ≠ toF a) : upL (l ++ [b]) a = upL l a * toF b ∧ unL (l ++ [b]) a = unL l a * (toF b - toF a) := by
  unfold upL unL
  rw [toFs_snoc, others_snoc, if_neg h, lprod_snoc, List.map_append, List.map_cons, List.map_nil, lprod_snoc]
  exact ⟨rfl, rfl⟩
def wtL (ats : List Int) (k : Nat) : List Int := (ats.take k).map fun a => ofF (wtF (toFs ats) (toF a))
theorem wtL_next {ats : List Int} {k : Nat} {a : Int} (h : ats[k]? = some a) : wtL ats (k + 1) = wtL ats k ++ [ofF (upL ats a * inv (unL ats a))] := by
  unfold wtL
  rw [List.take_add_one, h]
  simp [wtF, upL, unL]
set_option maxRecDepth 100000 in
set_option maxHeartbeats 1000000 in
theorem sWeights_ok (va : Value) (ats : List Int) (w : World) (h1 : IsInts w va ats) (h0 : ats ≠ []) (hp : partyB ats = true) (h9 : ats.length ≤ 9) :
    Calls Tryz.prog 161 #[va] w fun e w' => ListRes w e w' (wtL ats ats.length) 0 := by
  have KA := Lib.hid h1
  suffices hgoal : ∀ Post : Ending → World → Prop, (∀ e w', ListRes w e w' (wtL ats ats.length) 0 → Post e w') → Calls Tryz.prog 161 #[va] w Post from hgoal _ fun e w' h => h
  intro Post hp'
  have HPP := Lib.hid hp'
  obtain ⟨A1, c1, rfl, hc1, hm1, hl1, hu1, hr1⟩ := h1
  have b0 : ((ats.length : Int) == 0) = false := by rw [beq_eq_false_iff_ne]; intro e; exact h0 (List.eq_nil_of_length_eq_zero (by omega))
  have HP := Lib.hid hp
  have HIN := Lib.hid (of_decide_eq_true hp).1
  clear h0 hp hp' hu1 hr1 hm1
  go_enter Tryz.func161, Tryz.ntmps161
  go_wp2_with fail
  refine (sParties_any _ _ _ KA.out).mono ?_
  rintro e w' ⟨rfl, rfl⟩
  rw [HP.out]
  try dsimp only
  go_wp2_with fail
  go_loopw [4, 23] (fun v i wr => ∃ k : Nat, k ≤ ats.length ∧ i = .int .i64 k ∧ OwnNums wr w.heap.size v (wtL ats k) ∧ Below w.heap.size w wr) (fun _ i _ => ats.length - (intOf i).toNat)
  case atStart => exact ⟨0, Nat.zero_le _, rfl, OwnNums.nil _ _, Below.refl _ _⟩
  case round =>
    obtain ⟨k, hk, rfl, hown, hbel⟩ := hrel
    have KO := Lib.hid hown
    have BEL := Lib.hid hbel
    have hsz := hbel.size
    clear hown hbel
    by_cases hlt : k < ats.length
    · have hdk : decide ((k : Int) < (ats.length : Int)) = true := by simp; omega
      have KA2 := Lib.hid (KA.out.below BEL.out)
      obtain ⟨A, c, hA, _, _, _, hu, hr⟩ := KA2.out
      injection hA with hA1 hA2 hA3
      subst hA1 hA3
      have HU := Lib.hid hu
      have HR := Lib.hid hr
      obtain ⟨b1, o1, a, rfl, hb1, hga, ha64, hca⟩ := ints_at hr hu hlt
      have HGA := Lib.hid hga
      have hain := HIN.out a (List.mem_of_getElem? hga)
      obtain ⟨ha1, ha2⟩ := hain
      clear hu hr hga hb1
      go_wp2_with fail
      obtain ⟨wo, hwo⟩ : ∃ wo, wo = wr := ⟨_, rfl⟩
      subst hwo
      go_loop [7, 8, 29] (fun u n j => ∃ q : Nat, q ≤ ats.length ∧ j = .int .i64 q ∧ u = .int .u64 (ofF (upL (ats.take q) a)) ∧ n = .int .u64 (ofF (unL (ats.take q) a))) (fun _ _ j => ats.length - (intOf j).toNat)
      case atStart => exact ⟨0, Nat.zero_le _, rfl, rfl, rfl⟩
      case round =>
        obtain ⟨q, hq, rfl, rfl, rfl⟩ := hrel
        clear hca
        by_cases hlt2 : q < ats.length
        · obtain ⟨b2, o2, b, hA2, hb2, hgb, hb64, hcb⟩ := ints_at HR.out HU.out hlt2
          injection hA2 with hA2
          injection hA2 with hA3 hA4
          subst hA3 hA4
          have hbin := HIN.out b (List.mem_of_getElem? hgb)
          obtain ⟨hb3, hb4⟩ := hbin
          have HT := Lib.hid (show ats.take (q + 1) = ats.take q ++ [b] by rw [List.take_add_one, hgb]; rfl)
          clear hgb hb2
          by_cases hab : a = b
          · subst hab
            obtain ⟨e1, e2⟩ := upL_same (l := ats.take q) (a := a) (b := a) rfl
            have E1 := Lib.hid e1
            have E2 := Lib.hid e2
            have hne : (a != a) = false := by simp
            clear e1 e2
            go_wp2_with fail
            exact ⟨⟨q + 1, by omega, by go_num, by rw [HT.out, E1.out], by rw [HT.out, E2.out]⟩, by simp [intOf] <;> omega⟩
          · have hne : (a != b) = true := by rw [bne_iff_ne]; exact hab
            obtain ⟨e1, e2⟩ := upL_other (l := ats.take q) (a := a) (b := b) (fun e => hab (toF_small ⟨by omega, by omega⟩ ⟨by omega, by omega⟩ e.symm))
            have E1 := Lib.hid e1
            have E2 := Lib.hid e2
            clear hab e1 e2
            go_wp2_with fail
            refine (fMul_any _ _ _ (ofF_nonneg _) (by omega)).mono ?_
            rintro e w' ⟨rfl, rfl⟩
            rw [toF_ofF]
            try dsimp only
            go_wp2_with fail
            refine (fSub_any _ _ _ (by omega) (by omega)).mono ?_
            rintro e w' ⟨rfl, rfl⟩
            try dsimp only
            go_wp2_with fail
            refine (fMul_any _ _ _ (ofF_nonneg _) (ofF_nonneg _)).mono ?_
            rintro e w' ⟨rfl, rfl⟩
            rw [toF_ofF, toF_ofF]
            try dsimp only
            go_wp2_with fail
            exact ⟨⟨q + 1, by omega, by go_num, by rw [HT.out, E1.out], by rw [HT.out, E2.out]⟩, by simp [intOf] <;> omega⟩
        · have hqe : q = ats.length := by omega
          have HQE := Lib.hid (show ats.take q = ats by rw [hqe, List.take_length])
          clear hqe
          rw [HQE.out]
          go_wp2_with fail
          refine (fInv_any _ _ (ofF_nonneg _)).mono ?_
          rintro e w' ⟨rfl, rfl⟩
          rw [toF_ofF]
          try dsimp only
          go_wp2_with fail
          refine (fMul_any _ _ _ (ofF_nonneg _) (ofF_nonneg _)).mono ?_
          rintro e w' ⟨rfl, rfl⟩
          rw [toF_ofF, toF_ofF]
          try dsimp only
          have hwl : (wtL ats k).length ≤ 9 := by unfold wtL; rw [List.length_map, List.length_take]; omega
          have HWL := Lib.hid hwl
          clear hwl
          go_wp2_with (at_builtin; go_loud (refine wpList_push rfl _ _ rfl w.heap.size _ _ (ofF (upL ats a * inv (unL ats a))) wo.heap.size 1 rfl (KO.out.alloc _) rfl (new_cell _ _ _) (U64.of_ofF _) (by have := HWL.out; omega) (by rw [size_alloc]; omega) ?_))
          intro v' w5 hown' hbel'
          rw [← wtL_next HGA.out] at hown'
          have K5 := Lib.hid hown'
          have B5 := Lib.hid ((BEL.out.alloc hsz (.cells #[.int .u64 (ofF (upL ats a * inv (unL ats a)))] 67)).trans hbel')
          clear hown' hbel'
          go_wp2_with fail
          exact ⟨⟨k + 1, by omega, by go_num, K5.out, B5.out⟩, by simp [intOf] <;> omega⟩
    · obtain rfl : k = ats.length := by omega
      go_wp2_with fail
      exact HPP.out _ _ ⟨_, rfl, KO.out, BEL.out⟩
end Go.Proofs.YtploomncapiloaaGreatDoor
namespace Croft
theorem one_ex {ps : List (F × F)} (hn : (ps.map (·.1)).Nodup) {i : Nat} (hi : i < ps.length) : ∀ k, k ≤ ps.length → ∃ one, OneAt ps i k one := by
  intro k
  induction k with
  | zero => intro _; exact ⟨_, OneAt.start (x := ps[i].1) (y := ps[i].2) (List.getElem?_eq_getElem hi)⟩
  | succ k ih =>
    intro hk
    obtain ⟨one, h⟩ := ih (by omega)
    by_cases hki : k = i
    · subst hki; exact ⟨_, h.skip⟩
    · exact ⟨_, h.step hn (xi := ps[i].1) (yi := ps[i].2) (xk := ps[k].1) (yk := ps[k].2) (List.getElem?_eq_getElem hi) (List.getElem?_eq_getElem (by omega)) hki⟩
theorem interp_ex {ps : List (F × F)} (hn : (ps.map (·.1)).Nodup) : ∃ Q, Interp ps Q := by
  have h : ∀ i, i ≤ ps.length → ∃ o, SumAt ps i o := by
    intro i
    induction i with
    | zero => intro _; exact ⟨_, SumAt.start ps⟩
    | succ i ih =>
      intro hi
      obtain ⟨o, h⟩ := ih (by omega)
      obtain ⟨one, h1⟩ := one_ex hn (i := i) (by omega) ps.length (Nat.le_refl _)
      exact ⟨_, h.step (by omega) h1⟩
  obtain ⟨o, h⟩ := h ps.length (Nat.le_refl _)
  exact ⟨o, h.done⟩
def dpts (n : Nat) (l : List F) : List (F × F) := (List.range n).map fun i => (pt i, co l i)
theorem dpts_length (n : Nat) (l : List F) : (dpts n l).length = n := by simp [dpts]
theorem mem_dpts {n : Nat} {l : List F} {p : F × F} : p ∈ dpts n l ↔ ∃ i, i < n ∧ p = (pt i, co l i) := by
  unfold dpts
  rw [List.mem_map]
  constructor
  · rintro ⟨i, hi, rfl⟩; exact ⟨i, List.mem_range.1 hi, rfl⟩
  · rintro ⟨i, hi, rfl⟩; exact ⟨i, List.mem_range.2 hi, rfl⟩
theorem open_shared {n t : Nat} {l : List F} {x : F} (h : Shared n t l x) (hn : t + 1 ≤ n) : ∃ Q, Interp (dpts n l) Q ∧ Q.length ≤ t + 1 ∧ peval Q 0 = x := by
  obtain ⟨p, hp, rfl, rfl⟩ := h
  have hl := pnorm_length p
  refine ⟨pnorm p, ⟨pnorm_norm p, by rw [dpts_length]; omega, fun q hq => ?_⟩, by omega, pnorm_eval _ _⟩
  obtain ⟨i, hi, rfl⟩ := mem_dpts.1 hq
  show peval (pnorm p) (pt i) = co (deal n p) i
  rw [pnorm_eval, deal_co p hi]
end Croft
namespace Go.Proofs.YtploomncapiloaaGreatDoor
open Go.RowKit Croft
def fillL (xs : List Int) (n : Nat) : List Int := xs.take n ++ List.replicate (n - xs.length) 0
theorem fillL_length (xs : List Int) (n : Nat) : (fillL xs n).length = n := by simp [fillL]; omega
theorem fillL_u64 {xs : List Int} (h : ∀ z ∈ xs, U64 z) (n : Nat) : ∀ z ∈ fillL xs n, U64 z := by
  intro z hz
  rcases List.mem_append.1 hz with h1 | h1
  · exact h z (List.mem_of_mem_take h1)
  · rw [List.eq_of_mem_replicate h1]; exact u64_zero
theorem OwnNums.box {w : World} {base g n : Nat} {zs : List Int} (h : OwnNums w base (.slice (some ⟨g, 0, none⟩) n n) zs) : Box w g 67 (u64s zs) := by
  rcases h.1.2 with ⟨hv, _⟩ | ⟨g', cap, cur, hv, hb, hg, hn, hc, hs, ht⟩
  · simp at hv
  · injection hv with h1 h2 h3
    injection h1 with h1
    injection h1 with h1
    subst h1
    have hcl : cur.toList = u64s zs := by
      rw [← ht, List.take_of_length_le]
      simp only [Array.length_toList]
      omega
    unfold Box
    rw [hg, ← hcl]
theorem Box.own {w : World} {base g : Nat} {zs : List Int} (h : Box w g 67 (u64s zs)) (hb : base ≤ g) (hl : zs.length ≤ 17592186043904) (hz : ∀ z ∈ zs, U64 z) : OwnNums w base (.slice (some ⟨g, 0, none⟩) zs.length zs.length) zs := by
  refine ⟨⟨by rw [u64s_length]; omega, .inr ⟨g, zs.length, (u64s zs).toArray, rfl, hb, h, Nat.le_refl _, by unfold maxLen; omega, by simp [u64s_length], ?_⟩⟩, hl, hz⟩
  exact List.take_of_length_le (by simp [u64s_length])
theorem size_one : (Tryz.prog.info? 67).map (·.size) = some 1 := by kernel_rfl
theorem splice_fill (xs : List Int) (n : Nat) : splice (u64s (List.replicate n 0)) 0 (u64s (xs.take n)) = u64s (fillL xs n) := by
  unfold splice fillL u64s
  simp only [List.take_zero, List.nil_append, Nat.zero_add, List.length_map, List.map_append]
  congr 1
  rw [← List.map_drop, List.drop_replicate, List.length_take]
  congr 2
  omega
end Go.Proofs.YtploomncapiloaaGreatDoor
