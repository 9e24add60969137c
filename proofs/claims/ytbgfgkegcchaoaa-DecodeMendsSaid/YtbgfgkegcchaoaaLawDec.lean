/- The law DecodeSays, walked. -/
import Derived.Test.YtbgfgkegcchaoaaDecW
namespace Go.Proofs.Ytbgfgkegcchaoaa
open Go.RowKit Croft

theorem equali_any (v1 v2 : Value) (xs ys : List Int) (w : World) (h1 : IsInts w v1 xs) (h2 : IsInts w v2 ys) :
    Calls Try.prog 60 #[v1, v2] w fun e w' => e = .returned (.bool (decide (xs = ys))) ∧ ∃ n, w' = w.drewN n := by
  obtain ⟨A1, c1, rfl, hc1, hm1, hl1, hu1, hr1⟩ := h1
  obtain ⟨A2, c2, rfl, hc2, hm2, hl2, hu2, hr2⟩ := h2
  by_cases hlen : xs.length = ys.length
  · have hbn : ((xs.length : Int) != (ys.length : Int)) = false := by rw [bne_eq_false_iff_eq]; omega
    have HL := Lib.hid hlen
    have hle : ys.length ≤ xs.length := by omega
    have hle2 : xs.length ≤ ys.length := by omega
    clear hlen
    go_enter Try.func60, Try.ntmps60
    go_wp2_with fail
    go_loopw [13] (fun i wr => ∃ k n : Nat, k ≤ xs.length ∧ i = .int .i64 k ∧ wr = w.drewN n ∧ xs.take k = ys.take k) (fun i _ => xs.length - (intOf i).toNat)
    case atStart => exact ⟨0, 0, Nat.zero_le _, rfl, rfl, rfl⟩
    case round =>
      obtain ⟨k, n, hk, rfl, rfl, ht⟩ := hrel
      have HT := Lib.hid ht
      clear ht
      by_cases hlt : k < xs.length
      · have hlt2 : k < ys.length := by omega
        obtain ⟨b1, o1, x, rfl, hb1, hx, hux, hcx⟩ := ints_at hr1 hu1 hlt
        obtain ⟨b2, o2, y, rfl, hb2, hy, huy, hcy⟩ := ints_at hr2 hu2 hlt2
        have HX := Lib.hid hx
        have HY := Lib.hid hy
        clear hx hy hr1 hr2 hb1 hb2
        by_cases hxy : x = y
        · subst hxy
          go_wp2_with fail
          go_quiet (fail)
          go_wp2_with fail
          refine ⟨⟨k + 1, _, by omega, by go_num, rfl, (take_succ_eq HX.out HY.out HT.out).2 rfl⟩, by simp [intOf]; omega⟩
        · have hne : (x != y) = true := by rw [bne_iff_ne]; exact hxy
          have HN := Lib.hid hxy
          clear hxy
          go_wp2_with fail
          go_quiet (fail)
          go_wp2_with fail
          go_ret
          refine ⟨?_, n + nq, by rw [World.drewN_drewN]⟩
          have : xs ≠ ys := fun he => HN.out ((take_succ_eq HX.out HY.out HT.out).1 (by rw [he]))
          rw [decide_eq_false this]; rfl
      · go_wp2_with fail
        go_ret
        refine ⟨?_, _, rfl⟩
        have : xs = ys := by
          have h := HT.out
          rwa [List.take_of_length_le (by omega), List.take_of_length_le (by omega)] at h
        rw [decide_eq_true this]; rfl
  · have hbn : ((xs.length : Int) != (ys.length : Int)) = true := by rw [bne_iff_ne]; omega
    have HN := Lib.hid hlen
    clear hlen
    go_enter Try.func60, Try.ntmps60
    go_wp2_with fail
    go_ret
    refine ⟨?_, 0, rfl⟩
    have : xs ≠ ys := fun he => HN.out (by rw [he])
    rw [decide_eq_false this]; rfl
def Dec3 (w : World) (e : Ending) (w' : World) (P B : List Int) (E : Int) : Prop := ∃ vp vb, e = .returned (.tuple #[vp, vb, .int .i64 E]) ∧ OwnNums w' w.heap.size vp P ∧ OwnInts w' w.heap.size vb B ∧ Below w.heap.size w w'
def Opn3 (w : World) (e : Ending) (w' : World) (X : Int) (B : List Int) (E : Int) : Prop := ∃ vb, e = .returned (.tuple #[.int .u64 X, vb, .int .i64 E]) ∧ OwnInts w' w.heap.size vb B ∧ Below w.heap.size w w'
theorem DecErr.three {w w' : World} {e : Ending} {E : Int} (h : DecErr w e w' E) : Dec3 w e w' [] [] E := ⟨_, _, h.1, OwnNums.nil _ _, OwnInts.nil _ _, h.2⟩
theorem OpenErr.three {w w' : World} {e : Ending} {E : Int} (h : OpenErr w e w' E) : Opn3 w e w' 0 [] E := ⟨_, h.1, OwnInts.nil _ _, h.2⟩
theorem DecRes.three {t wq : Nat} {l : List (Int × Int)} (hok : AtsOk l 2147483646) (hl : t + 1 + 2 * wq ≤ l.length) : ∃ P B E, ∀ w e w', DecRes w e w' t wq l → Dec3 w e w' P B E := by
  by_cases hf : ∃ p, Fits t wq l p
  · obtain ⟨p, hp⟩ := hf
    refine ⟨fillL (ofFs (pnorm p)) (t + 1), srt (badL (pnorm p) l), 0, fun w e w' h => ?_⟩
    rcases h with ⟨q, hn, hq, vp, vb, h1, h2, h3, h4⟩ | ⟨hno, _⟩
    · have e : q = pnorm p := by rw [← hn]; exact hq.one hok hl hp
      subst e
      exact ⟨vp, vb, h1, h2, h3, h4⟩
    · exact absurd hp (hno p)
  · refine ⟨[], [], 6, fun w e w' h => ?_⟩
    rcases h with ⟨q, hn, hq, _⟩ | ⟨_, h⟩
    · exact absurd ⟨q, hq⟩ hf
    · exact h.three
theorem OpenRes.three {t wq : Nat} {l : List (Int × Int)} (hok : AtsOk l 2147483646) (hl : t + 1 + 2 * wq ≤ l.length) : ∃ X B E, ∀ w e w', OpenRes w e w' t wq l → Opn3 w e w' X B E := by
  by_cases hf : ∃ p, Fits t wq l p
  · obtain ⟨p, hp⟩ := hf
    refine ⟨ofF (peval (pnorm p) 0), srt (badL (pnorm p) l), 0, fun w e w' h => ?_⟩
    rcases h with ⟨q, hn, hq, vb, h1, h3, h4⟩ | ⟨hno, _⟩
    · have e : q = pnorm p := by rw [← hn]; exact hq.one hok hl hp
      subst e
      exact ⟨vb, h1, h3, h4⟩
    · exact absurd hp (hno p)
  · refine ⟨0, [], 6, fun w e w' h => ?_⟩
    rcases h with ⟨q, hn, hq, _⟩ | ⟨_, h⟩
    · exact absurd ⟨q, hq⟩ hf
    · exact h.three
theorem decodes (t wrong : Int) (l : List (Int × Int)) : ∃ (P B : List Int) (E : Int),
    (∀ (va : Value) (w : World), IsShares w va l → Calls Try.prog 56 #[.int .i64 t, .int .i64 wrong, va] w fun e w' => Dec3 w e w' P B E) ∧
    (∀ (va : Value) (w : World), IsShares w va l → Calls Try.prog 57 #[.int .i64 t, .int .i64 wrong, va] w fun e w' => Dec3 w e w' P B E) := by
  by_cases h : decE t wrong l = 0
  · obtain ⟨T, W, rfl, rfl, _, _, hok, hl, _⟩ := decE_zero h
    obtain ⟨P, B, E, hr⟩ := DecRes.three hok.more hl
    exact ⟨P, B, E, fun va w h1 => (dDecode_ok T W va l w h1 h).mono fun e w' hh => hr _ _ _ hh, fun va w h1 => (rDecode_ok T W va l w h1 h).mono fun e w' hh => hr _ _ _ hh⟩
  · exact ⟨[], [], _, fun va w h1 => (dDecode_bad t wrong va l w h1 h).mono fun e w' hh => hh.three, fun va w h1 => (rDecode_bad t wrong va l w h1 h).mono fun e w' hh => hh.three⟩
theorem robusts (t : Int) (l : List (Int × Int)) : ∃ (X : Int) (B : List Int) (E : Int),
    (∀ (va : Value) (w : World), IsShares w va l → Calls Try.prog 58 #[.int .i64 t, va] w fun e w' => Opn3 w e w' X B E) ∧
    (∀ (va : Value) (w : World), IsShares w va l → Calls Try.prog 59 #[.int .i64 t, va] w fun e w' => Opn3 w e w' X B E) := by
  by_cases h : checkE t l = 0
  · obtain ⟨⟨h1, h2⟩, hok, hl⟩ := checkE_zero.1 h
    obtain ⟨T, rfl⟩ := Int.eq_ofNat_of_zero_le h1
    obtain ⟨X, B, E, hr⟩ := OpenRes.three (t := T) (wq := mostW T l.length) hok.more (by unfold mostW; omega)
    exact ⟨X, B, E, fun va w h1 => (dOpen_ok T va l w h1 h).mono fun e w' hh => hr _ _ _ hh, fun va w h1 => (rRobust_ok T va l w h1 h).mono fun e w' hh => hr _ _ _ hh⟩
  · exact ⟨0, [], _, fun va w h1 => (dOpen_bad t va l w h1 h).mono fun e w' hh => hh.three, fun va w h1 => (rRobust_bad t va l w h1 h).mono fun e w' hh => hh.three⟩
set_option maxRecDepth 100000 in
set_option maxHeartbeats 2000000 in
theorem decodeSays_any (t wrong : Int) (va : Value) (l : List (Int × Int)) (w : World) (h1 : IsShares w va l) :
    Calls Try.prog 9 #[.int .i64 t, .int .i64 wrong, va] w fun e w' => e = .returned (.bool true) ∧ Below w.heap.size w w' := by
  have KA := Lib.hid h1
  obtain ⟨P, B, E, c1, c2⟩ := decodes t wrong l
  obtain ⟨X, B2, E2, c3, c4⟩ := robusts t l
  have C1 := Lib.hid c1
  have C2 := Lib.hid c2
  have C3 := Lib.hid c3
  have C4 := Lib.hid c4
  suffices hgoal : ∀ Post : Ending → World → Prop, (∀ w', Below w.heap.size w w' → Post (.returned (.bool true)) w') → Calls Try.prog 9 #[.int .i64 t, .int .i64 wrong, va] w Post from hgoal _ fun w' h => ⟨rfl, h⟩
  intro Post hpo
  have HP := Lib.hid hpo
  clear hpo h1 c1 c2 c3 c4
  go_enter Try.func9, Try.ntmps9
  go_wp2_with fail
  refine (C1.out _ _ KA.out).mono ?_
  rintro e W1 ⟨vp1, vb1, rfl, hp1, hb1, hbl⟩
  have P1 := Lib.hid hp1.is
  have Q1 := Lib.hid hb1.is
  have BEL := Lib.hid hbl
  clear hp1 hb1 hbl
  try dsimp only
  go_wp2_with fail
  refine (C2.out _ _ (KA.out.below BEL.out)).mono ?_
  rintro e W2 ⟨vp2, vb2, rfl, hp1, hb1, hbl⟩
  have P2 := Lib.hid hp1.is
  have Q2 := Lib.hid hb1.is
  replace P1 := Lib.hid (P1.out.below hbl)
  replace Q1 := Lib.hid (Q1.out.below hbl)
  replace BEL := Lib.hid (below_trans BEL.out hbl BEL.out.size)
  clear hp1 hb1 hbl
  try dsimp only
  go_wp2_with fail
  refine (C3.out _ _ (KA.out.below BEL.out)).mono ?_
  rintro e W3 ⟨vb3, rfl, hb1, hbl⟩
  have Q3 := Lib.hid hb1.is
  replace P1 := Lib.hid (P1.out.below hbl)
  replace Q1 := Lib.hid (Q1.out.below hbl)
  replace P2 := Lib.hid (P2.out.below hbl)
  replace Q2 := Lib.hid (Q2.out.below hbl)
  replace BEL := Lib.hid (below_trans BEL.out hbl BEL.out.size)
  clear hb1 hbl
  try dsimp only
  go_wp2_with fail
  refine (C4.out _ _ (KA.out.below BEL.out)).mono ?_
  rintro e W4 ⟨vb4, rfl, hb1, hbl⟩
  have Q4 := Lib.hid hb1.is
  replace P1 := Lib.hid (P1.out.below hbl)
  replace Q1 := Lib.hid (Q1.out.below hbl)
  replace P2 := Lib.hid (P2.out.below hbl)
  replace Q2 := Lib.hid (Q2.out.below hbl)
  replace Q3 := Lib.hid (Q3.out.below hbl)
  replace BEL := Lib.hid (below_trans BEL.out hbl BEL.out.size)
  clear hb1 hbl
  try dsimp only
  go_wp2_with fail
  refine (equal_any _ _ _ _ _ P1.out P2.out).mono ?_
  rintro e w' ⟨rfl, n1, rfl⟩
  rw [decide_eq_true (rfl : P = P)]
  try dsimp only
  go_wp2_with fail
  refine (equali_any _ _ _ _ _ (Q1.out.drewN n1) (Q2.out.drewN n1)).mono ?_
  rintro e w' ⟨rfl, n2, rfl⟩
  rw [decide_eq_true (rfl : B = B)]
  try dsimp only
  go_wp2_with fail
  refine (equali_any _ _ _ _ _ (Q3.out.drewN (n1 + n2)) (Q4.out.drewN (n1 + n2))).mono ?_
  rintro e w' ⟨rfl, n3, rfl⟩
  rw [decide_eq_true (rfl : B2 = B2)]
  try dsimp only
  go_wp2_with fail
  first
    | exact HP.out _ (below_drewN BEL.out _)
    | exact HP.out _ (by rw [World.drewN_drewN]; exact below_drewN BEL.out _)
end Go.Proofs.Ytbgfgkegcchaoaa
