/- A region that draws its order: some of its plain moves, wherever they stand, are taken first; the others up to a place only read or call quietly; the last ones, in one forced order, make or write memory. -/
import Derived.Test.YtknjcdlknnfhaaaTail
namespace Go.Proofs.Ytknjcdlknnfhaaa
section
variable {P : Program} {ops : Array Oper} {md : Region.Mode} {C : World → Prop}
def pickT : List Bool → List Oper → List Oper
  | true :: bs, o :: l => o :: pickT bs l
  | false :: bs, _ :: l => pickT bs l
  | _, _ => []
def pickF : List Bool → List Oper → List Oper
  | true :: bs, _ :: l => pickF bs l
  | false :: bs, o :: l => o :: pickF bs l
  | _, _ => []
def cntT : List Bool → Nat
  | true :: bs => cntT bs + 1
  | false :: bs => cntT bs
  | [] => 0
def cntF : List Bool → Nat
  | true :: bs => cntF bs
  | false :: bs => cntF bs + 1
  | [] => 0
theorem cnt_all : ∀ bs : List Bool, cntT bs + cntF bs = bs.length
  | [] => rfl
  | true :: bs => by have := cnt_all bs; simp only [cntT, cntF, List.length_cons]; omega
  | false :: bs => by have := cnt_all bs; simp only [cntT, cntF, List.length_cons]; omega
def markT : List Bool → Nat → Array Bool → Array Bool
  | true :: bs, k, listed => markT bs (k + 1) (listed.setIfInBounds k true)
  | false :: bs, k, listed => markT bs (k + 1) listed
  | [], _, listed => listed
theorem markT_size : ∀ (bs : List Bool) (k : Nat) (listed : Array Bool), (markT bs k listed).size = listed.size
  | [], _, _ => rfl
  | true :: bs, k, listed => by rw [markT, markT_size]; simp
  | false :: bs, k, listed => by rw [markT, markT_size]
theorem markT_keep : ∀ (bs : List Bool) (k : Nat) (listed : Array Bool) (j : Nat), listed.getD j false = true → (markT bs k listed).getD j false = true
  | [], _, _, _, h => h
  | true :: bs, k, listed, j, h => by
    rw [markT]
    exact markT_keep bs (k + 1) _ j (getD_set_true h)
  | false :: bs, k, listed, j, h => by rw [markT]; exact markT_keep bs (k + 1) _ j h
theorem markT_other : ∀ (bs : List Bool) (k : Nat) (listed : Array Bool) (j : Nat) (d : Bool), (j < k ∨ bs[j - k]? ≠ some true) → (markT bs k listed).getD j d = listed.getD j d
  | [], _, _, _, _, _ => rfl
  | b :: bs, k, listed, j, d, h => by
    have h' : j < k + 1 ∨ bs[j - (k + 1)]? ≠ some true := by
      rcases h with h | h
      · exact .inl (by omega)
      · rcases Nat.lt_or_ge j (k + 1) with h1 | h1
        · exact .inl h1
        · right
          rw [show j - k = (j - (k + 1)) + 1 by omega, List.getElem?_cons_succ] at h
          exact h
    cases b with
    | false => rw [markT]; exact markT_other bs (k + 1) listed j d h'
    | true =>
      rw [markT, markT_other bs (k + 1) _ j d h']
      refine getD_set_ne d ?_
      rintro rfl
      rcases h with h | h
      · omega
      · simp at h
def movesM (md : Region.Mode) (ops : Array Oper) : List Bool → List Oper → Nat → Array Bool → Bool
  | true :: bs, o :: l, k, listed => o.guard.isNone && (match o.op with | .move _ => true | _ => false) && (o.after.all fun e => !Region.binds md e) && (Region.ready md ops listed).contains k && Region.free md ops listed k && movesM md ops bs l (k + 1) (listed.setIfInBounds k true)
  | false :: bs, _ :: l, k, listed => movesM md ops bs l (k + 1) listed
  | [], _, _, _ => true
  | _, [], _, _ => false
theorem take_movesM {Q : Exit → Act → World → Prop} (hsel : Region.noSelect ops = true) (hQ : ∀ c (a : Act) d v w, Q (.panic c) (a.put (some d) v) w → Q (.panic c) a w) (fuel : Nat) (w : World) :
    ∀ (bs : List Bool) (l : List Oper) (k : Nat) (listed : Array Bool) (a : Act), (∀ j, j < l.length → l[j]? = ops[k + j]?) → movesM md ops bs l k listed = true →
    wpAny P md ops Q fuel (markT bs k listed) (putAll (pickT bs l) a) w → wpAny P md ops Q (cntT bs + fuel) listed a w
  | [], l, k, listed, a, _, _, h => by
    rw [cntT, Nat.zero_add]
    cases l <;> exact h
  | true :: bs, [], k, listed, a, _, hB, _ => by simp [movesM] at hB
  | false :: bs, [], k, listed, a, _, hB, _ => by simp [movesM] at hB
  | false :: bs, o :: l, k, listed, a, hl, hB, h => by
    rw [cntT]
    rw [movesM] at hB
    exact take_movesM hsel hQ fuel w bs l (k + 1) listed a (fun j hj => by have := hl (j + 1) (by simp; omega); simpa [Nat.add_assoc, Nat.add_comm 1 j] using this) hB h
  | true :: bs, o :: l, k, listed, a, hl, hB, h => by
    have h0 : ops[k]? = some o := by simpa using (hl 0 (by simp)).symm
    simp only [movesM, Bool.and_eq_true] at hB
    obtain ⟨⟨⟨⟨⟨hg, hmv⟩, _⟩, hr⟩, hf⟩, hB'⟩ := hB
    have hg' : o.guard = none := by simpa using hg
    rw [cntT, show cntT bs + 1 + fuel = (cntT bs + fuel) + 1 by omega]
    refine wpAny_take h0 hsel hf hr (fun c a' w h => by cases hd : o.dst with
      | none => rw [hd] at h; exact h
      | some d => rw [hd] at h; exact hQ c a' d _ w h) (v := moved o a) (.inl ⟨by simp [Region.wanted, hg'], fun w => ?_⟩) ?_
    · unfold moved
      split at hmv
      · rename_i x hx
        simp [execOp, hx]
      · cases hmv
    · exact take_movesM hsel hQ fuel w bs l (k + 1) _ _ (fun j hj => by have := hl (j + 1) (by simp; omega); simpa [Nat.add_assoc, Nat.add_comm 1 j] using this) hB' h
/-- each operation ahead of place n that isn't marked is waited for -/
def sinkM (md : Region.Mode) (ops : Array Oper) (m0 : Array Bool) (n : Nat) : Bool :=
  (List.range n).all fun i => m0.getD i false || (List.range (n + 1)).any fun j => decide (i < j) && Region.waitsFor md ops j i
theorem tail_waitsM {m0 : Array Bool} {n : Nat} {listed : Array Bool} (hs : sinkM md ops m0 n = true) (hc : Region.chainB md ops n = true) (hn : n < ops.size) (inv : HeadInv md ops n listed) (hm : ∀ i, m0.getD i false = true → listed.getD i false = true) :
    ∀ (d i : Nat), n - i = d → i < n → listed.getD i true = false → ∀ t, n ≤ t → t ∉ Region.ready md ops listed := by
  intro d
  induction d using Nat.strongRecOn with
  | _ d ih =>
    intro i hd hi hun t ht hr
    obtain ⟨_, ot, hot, hall⟩ := mem_ready.1 hr
    have htlt : t < ops.size := (Array.getElem?_eq_some_iff.1 hot).1
    by_cases htn : t = n
    · subst htn
      have h1 := List.all_eq_true.1 hs i (List.mem_range.2 hi)
      simp only [Bool.or_eq_true] at h1
      have h1 := h1.resolve_left (fun h => by have := hm i h; rw [getD_both hun] at this; cases this)
      obtain ⟨j, hj, hj2⟩ := List.any_eq_true.1 h1
      simp only [Bool.and_eq_true, decide_eq_true_eq] at hj2
      obtain ⟨oj, hoj, e, he, hb, hon⟩ := Region.waitsFor_spec hj2.2
      have hjle : j ≤ t := by have := List.mem_range.1 hj; omega
      by_cases hjt : j = t
      · subst hjt
        have : oj = ot := Option.some.inj (hoj.symm.trans hot)
        subst this
        have h2 := hall e he hb
        rw [hon, getD_both hun] at h2
        cases h2
      · cases hl : listed.getD j false with
        | true =>
          have h2 := inv.closed j oj hoj hl e he hb
          rw [hon, getD_both hun] at h2
          cases h2
        | false =>
          have hjs : j < listed.size := by rw [inv.size]; omega
          exact ih (t - j) (by omega) j rfl (by omega) (getD_in hjs hl) t (Nat.le_refl _) hr
    · have h1 := List.all_eq_true.1 hc t (List.mem_range.2 htlt)
      simp only [Bool.or_eq_true, decide_eq_true_eq] at h1
      rcases h1 with h1 | h1
      · omega
      · obtain ⟨o', ho', e, he, hb, hon⟩ := Region.waitsFor_spec h1
        have : o' = ot := Option.some.inj (ho'.symm.trans hot)
        subst this
        have h2 := hall e he hb
        rw [hon, getD_both (inv.tail (t - 1) (by omega) (by omega))] at h2
        cases h2
theorem wpAnyLQ_firstM {m0 : Array Bool} {n i : Nat} {oi : Oper} {v : Value} {L : Array Bool → Act → Prop} (hi : ops[i]? = some oi) (hsel : ∀ (j : Nat) (o : Oper) cs b, ops[j]? = some o → o.op ≠ .select cs b)
    (hs : sinkM md ops m0 n = true) (hc : Region.chainB md ops n = true) (hn : n < ops.size) (hin : i < n)
    (hdone : ∀ listed a, L listed a → ∀ j ∈ Region.ready md ops listed, n ≤ j) :
    ∀ (f : Nat) (listed : Array Bool) (a : Act), HeadInv md ops n listed → (∀ i, m0.getD i false = true → listed.getD i false = true) →
      (∀ j oj, ops[j]? = some oj → j ≠ i → listed.getD j true = false → (∀ e ∈ oj.after, Region.binds md e = true → e.on ≠ i) → oi.apart ops oj = true) →
      i ∈ Region.ready md ops listed → YieldsIn P ops C oi v a →
      wpAnyLQ P md ops C n L f (listed.setIfInBounds i true) (a.put oi.dst v) → wpAnyLQ P md ops C n L (f + 1) listed a := by
  intro f
  induction f with
  | zero =>
    intro listed a inv hm _ hr hy H
    have hun := (mem_ready.1 hr).1
    refine ⟨fun h => (by rw [h] at hr; cases hr), fun j hj => ?_⟩
    have hjn : j < n := by
      rcases Nat.lt_or_ge j n with h | h
      · exact h
      · exact absurd hj (tail_waitsM hs hc hn inv hm _ i rfl hin hun j h)
    refine ⟨hjn, ?_⟩
    by_cases hji : j = i
    · subst hji; exact hy.qOp hi H
    · have := hdone _ _ H j (ready_mono hj hji)
      omega
  | succ f ih =>
    intro listed a inv hm hfree hr hy H
    have hun := (mem_ready.1 hr).1
    refine ⟨fun h => (by rw [h] at hr; cases hr), fun j hj => ?_⟩
    have hjn : j < n := by
      rcases Nat.lt_or_ge j n with h | h
      · exact h
      · exact absurd hj (tail_waitsM hs hc hn inv hm _ i rfl hin hun j h)
    refine ⟨hjn, ?_⟩
    by_cases hji : j = i
    · subst hji; exact hy.qOp hi H
    · have h1 := (H.2 j (ready_mono hj hji)).2
      obtain ⟨hjun, oj, hoj, hall⟩ := mem_ready.1 hj
      have hnot : ∀ e ∈ oj.after, Region.binds md e = true → e.on ≠ i := fun e he hb heq => by
        have h1 := hall e he hb
        rw [heq, getD_both hun] at h1
        cases h1
      have h2 := qOp_put hoj (hfree j oj hoj hji hjun hnot) (fun cs b => hsel i oi cs b hi) (fun cs b => hsel j oj cs b hoj) hy h1
      have hfree' : ∀ k ok, ops[k]? = some ok → k ≠ i → (listed.setIfInBounds j true).getD k true = false →
          (∀ e ∈ ok.after, Region.binds md e = true → e.on ≠ i) → oi.apart ops ok = true := fun k ok hk hki hun hno => by
        refine hfree k ok hk hki ?_ hno
        by_cases hjk : j = k
        · subst hjk; exact hjun
        · rw [getD_set_ne true hjk] at hun; exact hun
      refine qOp_mono (fun a' h3 => ih (listed.setIfInBounds j true) a' (inv.set hj hjn) (fun q hq => getD_set_true (hm q hq)) hfree' (ready_mono hr (Ne.symm hji)) h3.1 ?_) h2
      rw [Array.setIfInBounds_comm _ _ hji]
      exact h3.2
def lexM (md : Region.Mode) (ops : Array Oper) (g n : Nat) : List Bool → Nat → Array Bool → Bool
  | [], k, listed => decide (k = n) && Region.seqB md ops g n listed
  | true :: bs, k, listed => lexM md ops g n bs (k + 1) listed
  | false :: bs, k, listed => (Region.ready md ops listed).contains k && Region.free md ops listed k && decide (k < n) && lexM md ops g n bs (k + 1) (listed.setIfInBounds k true)
theorem wpAnyLQ_lexM {m0 : Array Bool} {n g : Nat} {Lq : Act → Prop} (hsel : Region.noSelect ops = true) (hs : sinkM md ops m0 n = true) (hc : Region.chainB md ops n = true) (hn : n < ops.size) :
    ∀ (bs : List Bool) (l : List Oper) (k : Nat) (listed : Array Bool) (a : Act), (∀ j, j < l.length → l[j]? = ops[k + j]?) → bs.length = l.length → HeadInv md ops n listed → (∀ i, m0.getD i false = true → listed.getD i false = true) →
    lexM md ops g n bs k listed = true → wpQuiet P ops C Lq (pickF bs l) a →
    wpAnyLQ P md ops C n (fun listed' a' => Region.seqB md ops g n listed' = true ∧ Lq a') (cntF bs) listed a
  | [], l, k, listed, a, _, hk, _, _, hB, h => by
    have : l = [] := List.eq_nil_of_length_eq_zero (by simpa using hk.symm)
    subst this
    simp only [lexM, Bool.and_eq_true] at hB
    exact ⟨hB.2, h⟩
  | true :: bs, [], k, listed, a, _, hk, _, _, _, _ => by simp at hk
  | false :: bs, [], k, listed, a, _, hk, _, _, _, _ => by simp at hk
  | true :: bs, o :: l, k, listed, a, hl, hk, inv, hm, hB, h => by
    rw [cntF]
    exact wpAnyLQ_lexM hsel hs hc hn bs l (k + 1) listed a (fun j hj => by have := hl (j + 1) (by simp; omega); simpa [Nat.add_assoc, Nat.add_comm 1 j] using this) (by simpa using hk) inv hm hB h
  | false :: bs, o :: l, k, listed, a, hl, hk, inv, hm, hB, h => by
    have h0 : ops[k]? = some o := by simpa using (hl 0 (by simp)).symm
    simp only [lexM, Bool.and_eq_true, decide_eq_true_eq] at hB
    obtain ⟨⟨⟨hr, hf⟩, hkn⟩, hB'⟩ := hB
    have hr' : k ∈ Region.ready md ops listed := by simpa using hr
    have hst : qOp P ops C k (wpQuiet P ops C Lq (pickF bs l)) a := by unfold qOp; simp only [h0]; exact h
    obtain ⟨v, hy, hK⟩ := yieldsIn_of_qOp h0 hst
    exact wpAnyLQ_firstM h0 (Region.noSelect_spec hsel) hs hc hn hkn (fun listed' a' hL => seqB_ready hL.1) (cntF bs) listed a inv hm (Region.free_spec h0 hf) hr' hy
      (wpAnyLQ_lexM hsel hs hc hn bs l (k + 1) _ _ (fun j hj => by have := hl (j + 1) (by simp; omega); simpa [Nat.add_assoc, Nat.add_comm 1 j] using this) (by simpa using hk) (inv.set hr' hkn) (fun q hq => getD_set_true (hm q hq)) hB' hK)
def maskOk (md : Region.Mode) (l : List Oper) (bs : List Bool) : Bool :=
  (l.zip bs).all fun p => !p.2 || p.1.after.all fun e => !Region.binds md e
def preM (md : Region.Mode) (l : List Oper) (bs : List Bool) : Bool :=
  Region.noSelect l.toArray && decide (bs.length < l.length) && movesM md l.toArray bs (l.take bs.length) 0 (Array.replicate l.length false) && maskOk md l bs &&
    sinkM md l.toArray (markT bs 0 (Array.replicate l.length false)) bs.length && Region.chainB md l.toArray bs.length && lexM md l.toArray (l.length - bs.length) bs.length bs 0 (markT bs 0 (Array.replicate l.length false))
theorem wp_region_quiet_mask {id : Nat} {Q : Exit → Act → World → Prop} {a : Act} {w : World} {l : List Oper} (bs : List Bool) (hm : P.follows .mixedOrders = true) (hB : preM .any l bs = true)
    (hQ : ∀ c (a : Act) d v w, Q (.panic c) (a.put (some d) v) w → Q (.panic c) a w)
    (h : wpQuiet P l.toArray (fun w' => ∃ n, w' = w.drewN n) (fun a' => ∀ nq, wpList P l.toArray Q (l.drop bs.length) a' (w.drewN nq)) (pickF bs (l.take bs.length)) (putAll (pickT bs (l.take bs.length)) a)) : (Code.region id l.toArray true).wp P Q a w := by
  simp only [preM, Bool.and_eq_true, decide_eq_true_eq] at hB
  obtain ⟨⟨⟨⟨⟨⟨hsel, hn⟩, hmv⟩, hemp⟩, hs⟩, hc⟩, hlex⟩ := hB
  have hn' : bs.length < l.toArray.size := by simpa using hn
  have htl : (l.take bs.length).length = bs.length := by simp; omega
  have hdl : (l.drop bs.length).length = l.length - bs.length := by simp
  have inv0 : HeadInv .any l.toArray bs.length (markT bs 0 (Array.replicate l.length false)) := by
    refine ⟨by rw [markT_size]; simp, fun j oj hj hl e he hb => ?_, fun t ht ht' => ?_⟩
    · by_cases hbj : bs[j]? = some true
      · exfalso
        have hlj : l[j]? = some oj := by simpa using hj
        have hz : (l.zip bs)[j]? = some (oj, true) := by rw [List.getElem?_zip_eq_some]; exact ⟨hlj, hbj⟩
        have h1 := List.all_eq_true.1 hemp _ (List.mem_of_getElem? hz)
        simp only [Bool.not_true, Bool.false_or] at h1
        have h2 := Array.all_eq_true'.1 h1 e he
        rw [hb] at h2
        cases h2
      · rw [markT_other bs 0 _ j _ (.inr (by simpa using hbj)), getD_replicate_false] at hl
        cases hl
    · rw [markT_other bs 0 _ t _ (.inr (by rw [Nat.sub_zero, List.getElem?_eq_none (by omega)]; simp))]
      have : t < l.length := by simpa using ht'
      simp [Array.getD, this]
  refine wp_region_any hm ?_
  have hix : ∀ j, j < (l.take bs.length).length → (l.take bs.length)[j]? = l.toArray[0 + j]? := fun j hj => by
    rw [htl] at hj
    rw [List.getElem?_take, if_pos hj]
    simp
  have H := wpAnyLQ_lexM (P := P) (C := fun w' => ∃ n, w' = w.drewN n) (md := .any) (m0 := markT bs 0 (Array.replicate l.length false)) (g := l.length - bs.length) hsel hs hc hn' bs (l.take bs.length) 0 _ (putAll (pickT bs (l.take bs.length)) a) hix (by rw [htl]) inv0 (fun _ hi => hi) hlex h
  have H2 := wpAny_of_headQ (Q' := Q) (g := l.length - bs.length) (fun listed a' w' hw' hL => by
    obtain ⟨nq, rfl⟩ := hw'
    have := wpAny_of_seq (md := .any) (Q' := Q) (l.drop bs.length) bs.length listed a' (w.drewN nq) (fun j => by simp [List.getElem?_drop]) (by rw [hdl]; exact hL.1) (hL.2 nq)
    rwa [hdl] at this) _ _ _ { w with drawn := w.drawn + 1 } ⟨1, rfl⟩ H
  have H3 := take_movesM (P := P) (md := .any) hsel hQ (cntF bs + (l.length - bs.length)) { w with drawn := w.drawn + 1 } bs (l.take bs.length) 0 (Array.replicate l.length false) a hix hmv H2
  have e : l.toArray.size = cntT bs + (cntF bs + (l.length - bs.length)) := by have := cnt_all bs; simp; omega
  rw [e]
  have e2 : cntT bs + (cntF bs + (l.length - bs.length)) = l.length := by have := cnt_all bs; omega
  rw [e2] at H3 ⊢
  exact H3
end
end Go.Proofs.Ytknjcdlknnfhaaa
