/- The law DecodeSays, walked. -/
import Derived.Test.YtknjcdlknnfhaaaDecW
import Derived.Test.YtknjcdlknnfhaaaSomeW
namespace Go.Proofs.Ytknjcdlknnfhaaa
open Go.RowKit Croft

theorem equali_any (v1 v2 : Value) (xs ys : List Int) (w : World) (h1 : IsInts w v1 xs) (h2 : IsInts w v2 ys) :
    Calls Try.prog 36 #[v1, v2] w fun e w' => e = .returned (.bool (decide (xs = ys))) ∧ ∃ n, w' = w.drewN n := by
  obtain ⟨A1, c1, rfl, hc1, hm1, hl1, hu1, hr1⟩ := h1
  obtain ⟨A2, c2, rfl, hc2, hm2, hl2, hu2, hr2⟩ := h2
  by_cases hlen : xs.length = ys.length
  · have hbn : ((xs.length : Int) != (ys.length : Int)) = false := by rw [bne_eq_false_iff_eq]; omega
    have HL := Lib.hid hlen
    have hle : ys.length ≤ xs.length := by omega
    have hle2 : xs.length ≤ ys.length := by omega
    clear hlen
    go_enter Try.func36, Try.ntmps36
    go_wp2_with fail
    go_loopw [13] (fun i wr => ∃ k n : Nat, k ≤ xs.length ∧ i = .int .i64 k ∧ wr = w.drewN n ∧ xs.take k = ys.take k) (fun i _ => xs.length - (intOf i).toNat)
    case atStart => exact ⟨0, 0, Nat.zero_le _, rfl, rfl, rfl⟩
    case round =>
      obtain ⟨k, n, hk, rfl, rfl, ht⟩ := hrel
      have HT := Lib.hid ht
      clear ht
      by_cases hlt : k < xs.length
      · have hlt2 : k < ys.length := by omega
        obtain ⟨b1, o1, x, rfl, hb1, hx, hux, hcx⟩ := ints_at hr1 hu1 hlt
        obtain ⟨b2, o2, y, rfl, hb2, hy, huy, hcy⟩ := ints_at hr2 hu2 hlt2
        have HX := Lib.hid hx
        have HY := Lib.hid hy
        clear hx hy hr1 hr2 hb1 hb2
        by_cases hxy : x = y
        · subst hxy
          go_wp2_with fail
          go_quiet (fail)
          go_wp2_with fail
          refine ⟨⟨k + 1, _, by omega, by go_num, rfl, (take_succ_eq HX.out HY.out HT.out).2 rfl⟩, by simp [intOf]; omega⟩
        · have hne : (x != y) = true := by rw [bne_iff_ne]; exact hxy
          have HN := Lib.hid hxy
          clear hxy
          go_wp2_with fail
          go_quiet (fail)
          go_wp2_with fail
          go_ret
          refine ⟨?_, n + nq, by rw [World.drewN_drewN]⟩
          have : xs ≠ ys := fun he => HN.out ((take_succ_eq HX.out HY.out HT.out).1 (by rw [he]))
          rw [decide_eq_false this]; rfl
      · go_wp2_with fail
        go_ret
        refine ⟨?_, _, rfl⟩
        have : xs = ys := by
          have h := HT.out
          rwa [List.take_of_length_le (by omega), List.take_of_length_le (by omega)] at h
        rw [decide_eq_true this]; rfl
  · have hbn : ((xs.length : Int) != (ys.length : Int)) = true := by rw [bne_iff_ne]; omega
    have HN := Lib.hid hlen
    clear hlen
    go_enter Try.func36, Try.ntmps36
    go_wp2_with fail
    go_ret
    refine ⟨?_, 0, rfl⟩
    have : xs ≠ ys := fun he => HN.out (by rw [he])
    rw [decide_eq_false this]; rfl
def Dec3 (w : World) (e : Ending) (w' : World) (P B : List Int) (E : Int) : Prop := ∃ vp vb, e = .returned (.tuple #[vp, vb, .int .i64 E]) ∧ OwnNums w' w.heap.size vp P ∧ OwnInts w' w.heap.size vb B ∧ Below w.heap.size w w'
def Opn3 (w : World) (e : Ending) (w' : World) (X : Int) (B : List Int) (E : Int) : Prop := ∃ vb, e = .returned (.tuple #[.int .u64 X, vb, .int .i64 E]) ∧ OwnInts w' w.heap.size vb B ∧ Below w.heap.size w w'
theorem DecErr.three {w w' : World} {e : Ending} {E : Int} (h : DecErr w e w' E) : Dec3 w e w' [] [] E := ⟨_, _, h.1, OwnNums.nil _ _, OwnInts.nil _ _, h.2⟩
theorem OpenErr.three {w w' : World} {e : Ending} {E : Int} (h : OpenErr w e w' E) : Opn3 w e w' 0 [] E := ⟨_, h.1, OwnInts.nil _ _, h.2⟩
theorem DecRes.three {t wq : Nat} {l : List (Int × Int)} (hok : AtsOk l 2147483646) (hl : t + 1 + 2 * wq ≤ l.length) : ∃ P B E, ∀ w e w', DecRes w e w' t wq l → Dec3 w e w' P B E := by
  by_cases hf : ∃ p, Fits t wq l p
  · obtain ⟨p, hp⟩ := hf
    refine ⟨fillL (ofFs (pnorm p)) (t + 1), srt (badL (pnorm p) l), 0, fun w e w' h => ?_⟩
    rcases h with ⟨q, hn, hq, vp, vb, h1, h2, h3, h4⟩ | ⟨hno, _⟩
    · have e : q = pnorm p := by rw [← hn]; exact hq.one hok hl hp
      subst e
      exact ⟨vp, vb, h1, h2, h3, h4⟩
    · exact absurd hp (hno p)
  · refine ⟨[], [], 6, fun w e w' h => ?_⟩
    rcases h with ⟨q, hn, hq, _⟩ | ⟨_, h⟩
    · exact absurd ⟨q, hq⟩ hf
    · exact h.three
theorem OpenRes.three {t wq : Nat} {l : List (Int × Int)} (hok : AtsOk l 2147483646) (hl : t + 1 + 2 * wq ≤ l.length) : ∃ X B E, ∀ w e w', OpenRes w e w' t wq l → Opn3 w e w' X B E := by
  by_cases hf : ∃ p, Fits t wq l p
  · obtain ⟨p, hp⟩ := hf
    refine ⟨ofF (peval (pnorm p) 0), srt (badL (pnorm p) l), 0, fun w e w' h => ?_⟩
    rcases h with ⟨q, hn, hq, vb, h1, h3, h4⟩ | ⟨hno, _⟩
    · have e : q = pnorm p := by rw [← hn]; exact hq.one hok hl hp
      subst e
      exact ⟨vb, h1, h3, h4⟩
    · exact absurd hp (hno p)
  · refine ⟨0, [], 6, fun w e w' h => ?_⟩
    rcases h with ⟨q, hn, hq, _⟩ | ⟨_, h⟩
    · exact absurd ⟨q, hq⟩ hf
    · exact h.three
end Go.Proofs.Ytknjcdlknnfhaaa
namespace Go.Proofs.Ytknjcdlknnfhaaa
open Go.RowKit Croft

/-- numbers of parties of which some are bent -/
structure Bent (N : Nat) (p : List F) (A : List Int) (Bd : List Int) : Prop where
  len : A.length = N
  nodup : Bd.Nodup
  who : ∀ b ∈ Bd, ∃ j : Nat, j < N ∧ b = (j : Int) + 1
  val : ∀ j : Nat, j < N → ∃ z, A[j]? = some (ofF z) ∧ (z = peval p (pt j) ↔ ((j : Int) + 1) ∉ Bd)
theorem Bent.start {N : Nat} (p : List F) : Bent N p (ofFs (deal N p)) [] := by
  refine ⟨by rw [ofFs_length, deal_length], by simp, by simp, fun j hj => ⟨peval p (pt j), ?_, by simp⟩⟩
  unfold ofFs
  rw [List.getElem?_map, get_co (by rw [deal_length]; exact hj), deal_co p hj]
  rfl
theorem Bent.step {N : Nat} {p : List F} {A Bd : List Int} (h : Bent N p A Bd) {k : Nat} (hk : k < N) {z y : F} (hz : A[k]? = some (ofF z)) (hn : ((k : Int) + 1) ∉ Bd) (hy : y ≠ 0) : Bent N p (A.set k (ofF (z + y))) (Bd ++ [(k : Int) + 1]) := by
  refine ⟨by rw [List.length_set, h.len], ?_, fun b hb => ?_, fun j hj => ?_⟩
  · rw [List.nodup_append]
    refine ⟨h.nodup, by simp, fun a ha b hb => ?_⟩
    simp at hb
    subst hb
    exact fun e => hn (by rw [← e]; exact ha)
  · rcases List.mem_append.1 hb with h1 | h1
    · exact h.who b h1
    · simp at h1; exact ⟨k, hk, h1⟩
  · by_cases hjk : j = k
    · subst hjk
      obtain ⟨z', h1, h2⟩ := h.val j hj
      have e : z' = z := ofF_inj (by rw [hz] at h1; injection h1 with h1; exact h1.symm)
      subst e
      have h3 := h2.2 hn
      refine ⟨z' + y, List.getElem?_set_self (by rw [h.len]; exact hj), ⟨fun e => absurd (show y = 0 by rw [← h3] at e; grind) hy, fun e => absurd (List.mem_append.2 (.inr (by simp))) e⟩⟩
    · obtain ⟨z', h1, h2⟩ := h.val j hj
      refine ⟨z', by rw [List.getElem?_set_ne (Ne.symm hjk)]; exact h1, h2.trans ⟨fun e hm => ?_, fun e hm => e (List.mem_append.2 (.inl hm))⟩⟩
      rcases List.mem_append.1 hm with h4 | h4
      · exact e h4
      · simp at h4; omega
theorem Bent.bad {N : Nat} {p : List F} {A Bd : List Int} (h : Bent N p A Bd) (hok : AtsOk (shL A) 2147483646) : (badL p (shL A)).Perm Bd := by
  have hnd : (badL p (shL A)).Nodup := by
    unfold badL
    exact hok.2.sublist (List.Sublist.map _ List.filter_sublist)
  refine (List.perm_ext_iff_of_nodup hnd h.nodup).2 fun a => ?_
  have key : ∀ j : Nat, j < N → (((j : Int) + 1) ∈ badL p (shL A) ↔ ((j : Int) + 1) ∈ Bd) := fun j hj => by
    obtain ⟨z, h1, h2⟩ := h.val j hj
    have h3 := shL_get h1
    have hpt : toF ((j : Int) + 1) = pt j := rfl
    constructor
    · intro hm
      unfold badL at hm
      obtain ⟨s, hs, hs2⟩ := List.mem_map.1 hm
      obtain ⟨hs3, hs4⟩ := List.mem_filter.1 hs
      obtain ⟨i, hi, hsi⟩ := List.mem_iff_getElem.1 hs3
      have hi2 : i < A.length := by rw [shL_length] at hi; exact hi
      have h5 := shL_get (List.getElem?_eq_getElem hi2)
      have e : s = ((i : Int) + 1, A[i]) := by
        rw [List.getElem?_eq_getElem hi] at h5
        injection h5 with h5
        rw [← hsi, h5]
      have hij : i = j := by
        rw [e] at hs2
        dsimp only at hs2
        omega
      subst hij
      have e2 : s.2 = ofF z := by
        rw [List.getElem?_eq_getElem hi2] at h1
        injection h1 with h1
        rw [e, h1]
      have hs5 : peval p (toF s.1) ≠ toF s.2 := by simpa using hs4
      rw [e2, toF_ofF, hs2, hpt] at hs5
      exact Classical.byContradiction fun hc => hs5 (h2.2 hc).symm
    · intro hm
      unfold badL
      refine List.mem_map.2 ⟨((j : Int) + 1, ofF z), List.mem_filter.2 ⟨List.mem_of_getElem? h3, ?_⟩, rfl⟩
      have : z ≠ peval p (pt j) := fun e => h2.1 e hm
      simp only [toF_ofF, hpt]
      simpa using fun e => this e.symm
  constructor
  · intro hm
    have hm' := hm
    unfold badL at hm'
    obtain ⟨s, hs, hs2⟩ := List.mem_map.1 hm'
    obtain ⟨hs3, _⟩ := List.mem_filter.1 hs
    obtain ⟨i, hi, hsi⟩ := List.mem_iff_getElem.1 hs3
    have hi2 : i < A.length := by rw [shL_length] at hi; exact hi
    have h5 := shL_get (List.getElem?_eq_getElem hi2)
    rw [List.getElem?_eq_getElem hi] at h5
    injection h5 with h5
    have e : a = (i : Int) + 1 := by rw [← hs2, ← hsi, h5]
    subst e
    exact (key i (by rw [← h.len]; exact hi2)).1 hm
  · intro hm
    obtain ⟨j, hj, rfl⟩ := h.who a hm
    exact (key j hj).2 hm
/-- what Open tells of them -/
theorem mends {N T : Nat} {p : List F} {A Bd : List Int} (h : Bent N p A Bd) (hb : Bd.length ≤ mostW T N) (hp : p.length ≤ T + 1) (hT : T ≤ 4) (hN : 2 * T + 1 ≤ N) (hN9 : N ≤ 9) (va : Value) (w : World) (h1 : IsShares w va (shL A)) :
    Calls Try.prog 35 #[.int .i64 T, va] w fun e w' => ∃ vb, e = .returned (.tuple #[.int .u64 (ofF (peval p 0)), vb, .int .i64 0]) ∧ OwnInts w' w.heap.size vb (srt Bd) ∧ Below w.heap.size w w' := by
  have hck : checkE T (shL A) = 0 := shL_ok hT (by rw [h.len]; omega) (by rw [h.len]; omega)
  obtain ⟨_, hok, hl⟩ := checkE_zero.1 hck
  have hlen : (shL A).length = N := by rw [shL_length, h.len]
  have hperm := h.bad hok.more
  have hf : Fits T (mostW T (shL A).length) (shL A) p := ⟨hp, by rw [hlen, hperm.length_eq]; exact hb⟩
  refine (dOpen_ok T va (shL A) w h1 hck).mono fun e w' hh => ?_
  rcases hh with ⟨q, hn, hq, vb, e1, e2, e3⟩ | ⟨hno, _⟩
  · have e : q = pnorm p := by rw [← hn]; exact hq.one hok.more (by rw [hlen]; unfold mostW; omega) hf
    subst e
    rw [pnorm_eval] at e1
    rw [badL_norm, srt_eq hperm] at e2
    exact ⟨vb, e1, e2, e3⟩
  · exact absurd hf (hno p)
def litM : List (Int × Int) := [(1, 5), (2, 6), (3, 5)]
theorem litM_bad : badL [5] litM = [2] := by decide +kernel
theorem litM_ok : AtsOk litM 9 := by unfold AtsOk litM; decide
theorem litM_ck : checkE (0 : Nat) litM = 0 := by decide +kernel
theorem litM_opens (va : Value) (w : World) (h1 : IsShares w va litM) : Calls Try.prog 35 #[.int .i64 0, va] w fun e w' => ∃ vb, e = .returned (.tuple #[.int .u64 5, vb, .int .i64 0]) ∧ OwnInts w' w.heap.size vb [2] ∧ Below w.heap.size w w' := by
  have hf : Fits 0 (mostW 0 litM.length) litM [5] := ⟨by decide, by rw [litM_bad]; decide⟩
  refine (dOpen_ok 0 va litM w h1 litM_ck).mono fun e w' hh => ?_
  rcases hh with ⟨q, hn, hq, vb, e1, e2, e3⟩ | ⟨hno, _⟩
  · have e : q = pnorm [5] := by rw [← hn]; exact hq.one litM_ok.more (by decide) hf
    subst e
    rw [pnorm_eval, peval_cons0] at e1
    rw [badL_norm, litM_bad, List.perm_singleton.1 (srt_perm [2])] at e2
    exact ⟨vb, e1, e2, e3⟩
  · exact absurd hf (hno [5])
end Go.Proofs.Ytknjcdlknnfhaaa
namespace Go.Proofs.Ytknjcdlknnfhaaa
open Go.RowKit Croft

theorem badL_count (Q : List F) (l : List (Int × Int)) : (badL Q l).length = l.countP fun s => decide (peval Q (toF s.1) ≠ toF s.2) := by
  unfold badL
  rw [List.length_map, List.countP_eq_length_filter]
theorem badL_set (Q : List F) {A : List Int} {r : Nat} (y : Int) (hr : r < A.length) : (badL Q (shL (A.set r y))).length ≤ (badL Q (shL A)).length + 1 := by
  rw [← shL_set (List.getElem?_eq_getElem hr), badL_count, badL_count, List.countP_set (by rw [shL_length]; exact hr)]
  split <;> split <;> omega
theorem shL_sorted (A : List Int) : ((shL A).map (·.1)).Pairwise (· ≤ ·) := by
  rw [shL_ats]
  unfold atsN
  rw [List.pairwise_map]
  exact List.Pairwise.imp (fun {a b} (h : a < b) => by omega) List.pairwise_lt_range
theorem srt_self {l : List Int} (h : l.Pairwise (· ≤ ·)) : srt l = l := by
  unfold srt
  exact List.mergeSort_of_pairwise (List.Pairwise.imp (fun {a b} h => decide_eq_true h) h)
theorem srt_bad (Q : List F) (A : List Int) : srt (badL Q (shL A)) = badL Q (shL A) :=
  srt_self ((shL_sorted A).sublist (List.Sublist.map _ List.filter_sublist))
theorem badL_start (N : Nat) (p : List F) (hN : N ≤ 9) : badL p (shL (ofFs (deal N p))) = [] := by
  rcases Nat.eq_zero_or_pos N with rfl | h
  · rfl
  have hl : (ofFs (deal N p)).length = N := by rw [ofFs_length, deal_length]
  have hck : checkE (0 : Nat) (shL (ofFs (deal N p))) = 0 := shL_ok (by omega) (by omega) (by omega)
  obtain ⟨_, hok, _⟩ := checkE_zero.1 hck
  exact List.Perm.eq_nil ((Bent.start p).bad hok.more)
/-- what Open tells of shares of which few are wrong -/
theorem mendsT {N T : Nat} {p : List F} {A : List Int} (hA : A.length = N) (hb : (badL p (shL A)).length ≤ mostW T N) (hp : p.length ≤ T + 1) (hT : T ≤ 4) (hN : 2 * T + 1 ≤ N) (hN9 : N ≤ 9) (va : Value) (w : World) (h1 : IsShares w va (shL A)) :
    Calls Try.prog 35 #[.int .i64 T, va] w fun e w' => ∃ vb, e = .returned (.tuple #[.int .u64 (ofF (peval p 0)), vb, .int .i64 0]) ∧ OwnInts w' w.heap.size vb (badL p (shL A)) ∧ Below w.heap.size w w' := by
  have hck : checkE T (shL A) = 0 := shL_ok hT (by omega) (by omega)
  obtain ⟨_, hok, hl⟩ := checkE_zero.1 hck
  have hlen : (shL A).length = N := by rw [shL_length, hA]
  have hf : Fits T (mostW T (shL A).length) (shL A) p := ⟨hp, by rw [hlen]; exact hb⟩
  refine (dOpen_ok T va (shL A) w h1 hck).mono fun e w' hh => ?_
  rcases hh with ⟨q, hn, hq, vb, e1, e2, e3⟩ | ⟨hno, _⟩
  · have e : q = pnorm p := by rw [← hn]; exact hq.one hok.more (by rw [hlen]; unfold mostW; omega) hf
    subst e
    rw [pnorm_eval] at e1
    rw [badL_norm, srt_bad] at e2
    exact ⟨vb, e1, e2, e3⟩
  · exact absurd hf (hno p)
end Go.Proofs.Ytknjcdlknnfhaaa
