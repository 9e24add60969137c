/- The law ShamirSays, walked. -/
import Derived.Test.YtoleaijjgaekcaaRefS
import Derived.Test.YtoleaijjgaekcaaWeiW
import Derived.Test.YtoleaijjgaekcaaHideR
namespace Go.Proofs.Ytoleaijjgaekcaa
open Go.RowKit Croft

/-- what Deal tells, and its error -/
def dealX (secret : Int) (ds : List Int) (n : Int) (ok : Bool) : List Int := if ok then ofFs (deal n.toNat (toFs (secret :: ds))) else []
def dealE (ok : Bool) : Int := if ok then 0 else 1
theorem sDeal_any (secret : Int) (vd : Value) (ds : List Int) (n : Int) (ok : Bool) (hok : ok = true ↔ dealOk ds n) (w : World) (hs : U64 secret) (h1 : IsNums w vd ds) :
    Calls Try.prog 46 #[.int .u64 secret, vd, .int .i64 n] w fun e w' => ListRes w e w' (dealX secret ds n ok) (dealE ok) := by
  cases ok with
  | false => exact sDeal_bad secret vd ds n w h1 fun h => absurd (hok.2 h) (by simp)
  | true =>
    obtain ⟨k1, k2, k3⟩ := hok.1 rfl
    obtain ⟨N, rfl⟩ := Int.eq_ofNat_of_zero_le (show 0 ≤ n by omega)
    exact sDeal_ok secret vd ds N w hs h1 k1 (by omega) (by omega)
theorem rDeal_any (secret : Int) (vd : Value) (ds : List Int) (n : Int) (ok : Bool) (hok : ok = true ↔ dealOk ds n) (w : World) (hs : U64 secret) (h1 : IsNums w vd ds) :
    Calls Try.prog 54 #[.int .u64 secret, vd, .int .i64 n] w fun e w' => ListRes w e w' (dealX secret ds n ok) (dealE ok) := by
  cases ok with
  | false => exact rDeal_bad secret vd ds n w h1 fun h => absurd (hok.2 h) (by simp)
  | true =>
    obtain ⟨k1, k2, k3⟩ := hok.1 rfl
    obtain ⟨N, rfl⟩ := Int.eq_ofNat_of_zero_le (show 0 ≤ n by omega)
    exact rDeal_ok secret vd ds N w hs h1 k1 (by omega) (by omega)
theorem opens (t : Int) (l : List (Int × Int)) : ∃ x e : Int,
    (∀ (va : Value) (w : World), IsShares w va l → Calls Try.prog 55 #[.int .i64 t, va] w fun en w' => NumRes w en w' x e) ∧
    (∀ (va : Value) (w : World), IsShares w va l → Calls Try.prog 56 #[.int .i64 t, va] w fun en w' => NumRes w en w' x e) := by
  by_cases h : checkE t l = 0
  · obtain ⟨Q, hQ⟩ := interp_ex (pts_nodup (checkE_zero.1 h).2.1.more)
    exact ⟨_, _, fun va w h1 => sOpen_ok t va l Q w h1 h hQ, fun va w h1 => rOpen_ok t va l Q w h1 h hQ⟩
  · exact ⟨_, _, fun va w h1 => sOpen_bad t va l w h1 h, fun va w h1 => rOpen_bad t va l w h1 h⟩
def weiX (ats : List Int) (ok : Bool) : List Int := if ok then wtL ats ats.length else []
def weiE (ok : Bool) : Int := if ok then 0 else 5
theorem sWeights_any (va : Value) (ats : List Int) (ok : Bool) (hok : ok = (partyB ats && decide (0 < ats.length))) (w : World) (h1 : IsInts w va ats) :
    Calls Try.prog 57 #[va] w fun e w' => ListRes w e w' (weiX ats ok) (weiE ok) := by
  cases ok with
  | false =>
    refine sWeights_bad va ats w h1 fun h => ?_
    have : decide (0 < ats.length) = true := decide_eq_true (List.length_pos_iff.2 h.1)
    rw [h.2, this] at hok
    exact absurd hok (by simp)
  | true =>
    have h := hok.symm
    rw [Bool.and_eq_true, decide_eq_true_eq] at h
    exact sWeights_ok va ats w h1 (List.length_pos_iff.1 h.2) h.1 (party_len h.1)
set_option maxRecDepth 100000 in
set_option maxHeartbeats 2000000 in
theorem shamirSays_any (secret n t : Int) (vd vl va : Value) (ds ats : List Int) (l : List (Int × Int)) (w : World) (hs : U64 secret) (h1 : IsNums w vd ds) (h2 : IsShares w vl l) (h3 : IsInts w va ats) :
    Calls Try.prog 8 #[.int .u64 secret, vd, .int .i64 n, .int .i64 t, vl, va] w fun e w' => e = .returned (.bool true) ∧ Below w.heap.size w w' := by
  have KD := Lib.hid h1
  have KL := Lib.hid h2
  have KA := Lib.hid h3
  have BEL := Lib.hid (Below.refl w.heap.size w)
  obtain ⟨dok, hdok⟩ : ∃ b : Bool, b = true ↔ dealOk ds n := by
    by_cases h : dealOk ds n
    · exact ⟨true, by simp [h]⟩
    · exact ⟨false, by simp [h]⟩
  obtain ⟨ox, oe, ho1, ho2⟩ := opens t l
  obtain ⟨wok, hwok⟩ : ∃ b : Bool, b = (partyB ats && decide (0 < ats.length)) := ⟨_, rfl⟩
  have HD := Lib.hid hdok
  have HO1 := Lib.hid ho1
  have HO2 := Lib.hid ho2
  have HW := Lib.hid hwok
  clear h1 h2 h3 hdok ho1 ho2 hwok
  suffices hgoal : ∀ Post : Ending → World → Prop, (∀ w', Below w.heap.size w w' → Post (.returned (.bool true)) w') → Calls Try.prog 8 #[.int .u64 secret, vd, .int .i64 n, .int .i64 t, vl, va] w Post from hgoal _ fun w' h => ⟨rfl, h⟩
  intro Post hpo
  have HP := Lib.hid hpo
  clear hpo
  go_enter Try.func8, Try.ntmps8
  go_wp2_with fail
  refine (sDeal_any secret vd ds n dok HD.out _ hs KD.out).mono ?_
  rintro e W1 ⟨v1, rfl, ho, hb⟩
  have K1 := Lib.hid ho.is
  replace KD := Lib.hid (KD.out.below hb)
  replace KL := Lib.hid (KL.out.below hb)
  replace KA := Lib.hid (KA.out.below hb)
  replace BEL := Lib.hid (below_trans BEL.out hb BEL.out.size)
  clear ho hb
  try dsimp only
  go_wp2_with fail
  refine (rDeal_any secret vd ds n dok HD.out _ hs KD.out).mono ?_
  rintro e W2 ⟨v2, rfl, ho, hb⟩
  have K2 := Lib.hid ho.is
  replace K1 := Lib.hid (K1.out.below hb)
  replace KL := Lib.hid (KL.out.below hb)
  replace KA := Lib.hid (KA.out.below hb)
  replace BEL := Lib.hid (below_trans BEL.out hb BEL.out.size)
  clear ho hb KD
  try dsimp only
  go_wp2_with fail
  refine (HO1.out _ _ KL.out).mono ?_
  rintro e W3 ⟨rfl, hb⟩
  replace K1 := Lib.hid (K1.out.below hb)
  replace K2 := Lib.hid (K2.out.below hb)
  replace KL := Lib.hid (KL.out.below hb)
  replace KA := Lib.hid (KA.out.below hb)
  replace BEL := Lib.hid (below_trans BEL.out hb BEL.out.size)
  clear hb
  try dsimp only
  go_wp2_with fail
  refine (HO2.out _ _ KL.out).mono ?_
  rintro e W4 ⟨rfl, hb⟩
  replace K1 := Lib.hid (K1.out.below hb)
  replace K2 := Lib.hid (K2.out.below hb)
  replace KL := Lib.hid (KL.out.below hb)
  replace KA := Lib.hid (KA.out.below hb)
  replace BEL := Lib.hid (below_trans BEL.out hb BEL.out.size)
  clear hb HO1 HO2
  try dsimp only
  go_wp2_with fail
  refine (sWeights_any va ats wok HW.out _ KA.out).mono ?_
  rintro e W5 ⟨v5, rfl, ho, hb⟩
  have K5 := Lib.hid ho.is
  replace K1 := Lib.hid (K1.out.below hb)
  replace K2 := Lib.hid (K2.out.below hb)
  replace KL := Lib.hid (KL.out.below hb)
  replace KA := Lib.hid (KA.out.below hb)
  replace BEL := Lib.hid (below_trans BEL.out hb BEL.out.size)
  clear ho hb
  try dsimp only
  go_wp2_with fail
  refine (rParties_any va ats _ KA.out).mono ?_
  rintro e w' ⟨rfl, nd, rfl⟩
  rw [← HW.out]
  obtain ⟨W6, hW6⟩ : ∃ W6, W6 = W5.drewN nd := ⟨_, rfl⟩
  rw [← hW6]
  replace K1 := Lib.hid (K1.out.drewn hW6)
  replace K2 := Lib.hid (K2.out.drewn hW6)
  replace K5 := Lib.hid (K5.out.drewn hW6)
  replace KL := Lib.hid (KL.out.drewn hW6)
  replace KA := Lib.hid (KA.out.drewn hW6)
  replace BEL := Lib.hid (show Below w.heap.size w W6 by rw [hW6]; exact below_drewN BEL.out nd)
  clear hW6
  have hx1 : decide (dealX secret ds n dok = dealX secret ds n dok) = true := by simp
  have hx2 : (dealE dok == dealE dok) = true := by simp
  have hx3 : (checkE t l == checkE t l) = true := by simp
  have hx4 : (ox == ox) = true := by simp
  have hx5 : (oe == oe) = true := by simp
  cases wok with
  | false =>
    have KE := Lib.hid (IsNums.nil W6)
    try dsimp only
    go_wp2_with fail
    refine (equal_any _ _ _ _ _ K1.out K2.out).mono ?_
    rintro e w' ⟨rfl, n1, rfl⟩
    rw [decide_eq_true (show dealX secret ds n dok = dealX secret ds n dok from rfl)]
    replace KL := Lib.hid (KL.out.drewn (n := n1) rfl)
    replace K5 := Lib.hid (K5.out.drewN n1)
    replace KE := Lib.hid (KE.out.drewN n1)
    replace BEL := Lib.hid (below_drewN BEL.out n1)
    try dsimp only
    go_wp2_with fail
    refine (sCheck_any _ _ _ _ KL.out).mono ?_
    rintro e W8 ⟨rfl, hb⟩
    replace KL := Lib.hid (KL.out.below hb)
    replace K5 := Lib.hid (K5.out.below hb)
    replace KE := Lib.hid (KE.out.below hb)
    replace BEL := Lib.hid (below_trans BEL.out hb BEL.out.size)
    clear hb
    try dsimp only
    go_wp2_with fail
    refine (rShares_any _ _ _ _ KL.out).mono ?_
    rintro e w' ⟨rfl, n2, rfl⟩
    replace K5 := Lib.hid (K5.out.drewN n2)
    replace KE := Lib.hid (KE.out.drewN n2)
    replace BEL := Lib.hid (below_drewN BEL.out n2)
    try dsimp only
    go_wp2_with fail
    refine (equal_any _ _ _ _ _ K5.out KE.out).mono ?_
    rintro e w' ⟨rfl, n3, rfl⟩
    rw [show decide (weiX ats false = []) = true by simp [weiX]]
    replace BEL := Lib.hid (below_drewN BEL.out n3)
    try dsimp only
    go_wp2_with fail
    exact HP.out _ (by rw [← World.drewN_drewN]; exact BEL.out)
  | true =>
    have hp := HW.out.symm
    rw [Bool.and_eq_true] at hp
    have HPP := Lib.hid hp.1
    clear hp
    try dsimp only
    go_wp2_with fail
    refine (rWeights_any _ _ _ KA.out HPP.out (party_len HPP.out)).mono ?_
    rintro e W7 ⟨v7, rfl, ho, hb⟩
    have KE := Lib.hid ho.is
    replace K1 := Lib.hid (K1.out.below hb)
    replace K2 := Lib.hid (K2.out.below hb)
    replace K5 := Lib.hid (K5.out.below hb)
    replace KL := Lib.hid (KL.out.below hb)
    replace BEL := Lib.hid (below_trans BEL.out hb BEL.out.size)
    clear ho hb
    try dsimp only
    go_wp2_with fail
    refine (equal_any _ _ _ _ _ K1.out K2.out).mono ?_
    rintro e w' ⟨rfl, n1, rfl⟩
    rw [decide_eq_true (show dealX secret ds n dok = dealX secret ds n dok from rfl)]
    replace KL := Lib.hid (KL.out.drewn (n := n1) rfl)
    replace K5 := Lib.hid (K5.out.drewN n1)
    replace KE := Lib.hid (KE.out.drewN n1)
    replace BEL := Lib.hid (below_drewN BEL.out n1)
    try dsimp only
    go_wp2_with fail
    refine (sCheck_any _ _ _ _ KL.out).mono ?_
    rintro e W8 ⟨rfl, hb⟩
    replace KL := Lib.hid (KL.out.below hb)
    replace K5 := Lib.hid (K5.out.below hb)
    replace KE := Lib.hid (KE.out.below hb)
    replace BEL := Lib.hid (below_trans BEL.out hb BEL.out.size)
    clear hb
    try dsimp only
    go_wp2_with fail
    refine (rShares_any _ _ _ _ KL.out).mono ?_
    rintro e w' ⟨rfl, n2, rfl⟩
    replace K5 := Lib.hid (K5.out.drewN n2)
    replace KE := Lib.hid (KE.out.drewN n2)
    replace BEL := Lib.hid (below_drewN BEL.out n2)
    try dsimp only
    go_wp2_with fail
    refine (equal_any _ _ _ _ _ K5.out KE.out).mono ?_
    rintro e w' ⟨rfl, n3, rfl⟩
    rw [show decide (weiX ats true = wtL ats ats.length) = true by simp [weiX]]
    replace BEL := Lib.hid (below_drewN BEL.out n3)
    try dsimp only
    go_wp2_with fail
    exact HP.out _ (by rw [← World.drewN_drewN]; exact BEL.out)
end Go.Proofs.Ytoleaijjgaekcaa
