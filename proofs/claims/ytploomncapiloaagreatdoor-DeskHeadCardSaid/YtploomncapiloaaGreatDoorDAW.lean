/- Parts of the proof, put together by a program: MendP RunE LawSham DeskQ DeskI DeskK. No condition. -/
import Derived.Test.YtploomncapiloaaGreatDoorDAV
namespace Go.Proofs.YtploomncapiloaaGreatDoor
open Go.RowKit Croft
def Opn3 (w : World) (e : Ending) (w' : World) (X : Int) (B : List Int) (E : Int) : Prop := ∃ vb, e = .returned (.tuple #[.int .u64 X, vb, .int .i64 E]) ∧ OwnInts w' w.heap.size vb B ∧ Below w.heap.size w w'
theorem OpenErr.three {w w' : World} {e : Ending} {E : Int} (h : OpenErr w e w' E) : Opn3 w e w' 0 [] E := ⟨_, h.1, OwnInts.nil _ _, h.2⟩
def runE2 (gs : List Gt) (os : List Int) (n t : Int) (li ld : Nat) : Int :=
  if crewE gs os n t = 0 then if li = (whoseL gs).length then if (ld : Int) = eNeedN gs os n t then 0 else 1 else 5 else crewE gs os n t
set_option maxRecDepth 100000 in
set_option maxHeartbeats 2000000 in
theorem eRun_bad (v vi vd : Value) (gs : List Gt) (os ins ds : List Int) (n t : Int) (w : World) (h : IsCirc w v gs os) (hi : IsNums w vi ins) (hd : IsNums w vd ds) (h0 : runE2 gs os n t ins.length ds.length ≠ 0) :
    Calls Tryz.prog 51 #[v, .int .i64 n, .int .i64 t, vi, vd] w fun e w' => e = .returned (.tuple #[.slice none 0 0, .slice none 0 0, .int .i64 (runE2 gs os n t ins.length ds.length)]) ∧ Below w.heap.size w w' := by
  have KC := Lib.hid h
  obtain ⟨vg, vo, rfl, hg, ho⟩ := h
  obtain ⟨A1, c1, rfl, hc1', hm1, hl1, hu1, hr1⟩ := hg
  obtain ⟨A2, c2, rfl, hc2', hm2, hl2, hu2, hr2⟩ := ho
  obtain ⟨A3, c3, rfl, hc3', hm3, hl3, hu3, hr3⟩ := hi
  obtain ⟨A4, c4, rfl, hc4', hm4, hl4, hu4, hr4⟩ := hd
  have BB := Lib.hid ((Below.refl w.heap.size w).alloc (Nat.le_refl _) (.cells #[.slice A1 gs.length c1, .slice A2 os.length c2] 85))
  have BX := Lib.hid (Box.new w 85 [.slice A1 gs.length c1, .slice A2 os.length c2])
  obtain ⟨R, hR⟩ : ∃ R, R = runE2 gs os n t ins.length ds.length := ⟨_, rfl⟩
  rw [← hR] at h0 ⊢
  suffices hgoal : ∀ Post : Ending → World → Prop, (∀ w', Below w.heap.size w w' → Post (.returned (.tuple #[.slice none 0 0, .slice none 0 0, .int .i64 R])) w') → Calls Tryz.prog 51 #[.agg #[.slice A1 gs.length c1, .slice A2 os.length c2], .int .i64 n, .int .i64 t, .slice A3 ins.length c3, .slice A4 ds.length c4] w Post from hgoal _ fun w' h => ⟨rfl, h⟩
  intro Post hp
  have HP := Lib.hid hp
  clear hp hu1 hr1 hm1 hu2 hr2 hm2 hu3 hr3 hm3 hu4 hr4 hm4
  obtain ⟨E, hE⟩ : ∃ E, E = crewE gs os n t := ⟨_, rfl⟩
  obtain ⟨K, hK⟩ : ∃ K, K = eNeedN gs os n t := ⟨_, rfl⟩
  have HE := Lib.hid hE
  have HK := Lib.hid hK
  by_cases hc : E = 0
  · have hck : circE gs os = 0 := by
      have := (crewE_zero.1 (hE.symm.trans hc)).1
      exact circE_zero.2 this
    have HC := Lib.hid hck
    have HI := Lib.hid (show inputsL gs os = whoseL gs from if_pos hck)
    have HR := Lib.hid (show R = if ins.length = (whoseL gs).length then if (ds.length : Int) = K then 0 else 1 else 5 by rw [hR]; unfold runE2; rw [if_pos (hE.symm.trans hc), ← hK])
    subst hc
    have H0 := Lib.hid h0
    clear hE hK hR h0 hck
    go_enter Tryz.func51, Tryz.ntmps51
    go_wp2_with fail
    refine (eNeed_any _ gs os n t _ (KC.out.below BB.out)).mono ?_
    rintro e W1 ⟨rfl, hb1⟩
    rw [← HE.out, ← HK.out]
    have B1 := Lib.hid (below_trans BB.out hb1 BB.out.size)
    have BX1 := Lib.hid (BX.out.below hb1)
    clear hb1
    try dsimp only
    have hc0 := BX1.out.cell (i := 0) rfl
    have hc0b := BX1.out.cell (i := 1) rfl
    go_wp2_with fail
    refine (cInputs_any _ gs os _ (KC.out.below B1.out)).mono ?_
    rintro e W2 ⟨v, rfl, ho1, hb2⟩
    rw [HI.out] at ho1
    rw [HC.out]
    obtain ⟨Aw, cw', hv, _, _⟩ := own_form ho1.1
    subst hv
    have B2 := Lib.hid (below_trans B1.out hb2 B1.out.size)
    clear hb2 ho1 hc0 hc0b
    try dsimp only
    by_cases h1 : ins.length = (whoseL gs).length
    · have hbi : ((ins.length : Int) != ((whoseL gs).length : Int)) = false := by rw [bne_eq_false_iff_eq]; omega
      have H1 := Lib.hid h1
      clear h1
      have hne : ¬ (ds.length : Int) = K := fun e => H0.out (by rw [HR.out, if_pos H1.out, if_pos e])
      have hbd : ((ds.length : Int) != K) = true := by rw [bne_iff_ne]; exact hne
      have HR1 := Lib.hid (show R = 1 by rw [HR.out, if_pos H1.out, if_neg hne])
      clear hne
      go_wp2_with fail
      go_ret3
      have hp := HP.out
      rw [HR1.out] at hp
      exact hp _ B2.out
    · have hbi : ((ins.length : Int) != ((whoseL gs).length : Int)) = true := by rw [bne_iff_ne]; omega
      have HR1 := Lib.hid (show R = 5 by rw [HR.out, if_neg h1])
      clear h1
      go_wp2_with fail
      go_ret3
      have hp := HP.out
      rw [HR1.out] at hp
      exact hp _ B2.out
  · have hb : (E != 0) = true := by rw [bne_iff_ne]; exact hc
    have HR := Lib.hid (show R = E by rw [hR]; unfold runE2; rw [if_neg (by rw [← hE]; exact hc), hE])
    rw [HR.out] at HP
    clear hE hK hR h0 hc
    go_enter Tryz.func51, Tryz.ntmps51
    go_wp2_with fail
    refine (eNeed_any _ gs os n t _ (KC.out.below BB.out)).mono ?_
    rintro e W1 ⟨rfl, hb1⟩
    rw [← HE.out]
    have B1 := Lib.hid (below_trans BB.out hb1 BB.out.size)
    clear hb1
    try dsimp only
    go_wp2_with fail
    go_ret3
    exact HP.out _ B1.out
def dealX (secret : Int) (ds : List Int) (n : Int) (ok : Bool) : List Int := if ok then ofFs (deal n.toNat (toFs (secret :: ds))) else []
def dealE (ok : Bool) : Int := if ok then 0 else 1
theorem sDeal_any (secret : Int) (vd : Value) (ds : List Int) (n : Int) (ok : Bool) (hok : ok = true ↔ dealOk ds n) (w : World) (hs : U64 secret) (h1 : IsNums w vd ds) :
    Calls Tryz.prog 56 #[.int .u64 secret, vd, .int .i64 n] w fun e w' => ListRes w e w' (dealX secret ds n ok) (dealE ok) := by
  cases ok with
  | false => exact sDeal_bad secret vd ds n w h1 fun h => absurd (hok.2 h) (by simp)
  | true =>
    obtain ⟨k1, k2, k3⟩ := hok.1 rfl
    obtain ⟨N, rfl⟩ := Int.eq_ofNat_of_zero_le (show 0 ≤ n by omega)
    exact sDeal_ok secret vd ds N w hs h1 k1 (by omega) (by omega)
structure Keep where
  n : Nat
  t : Nat
  last : Nat
  sz : Nat
  S : Int → Option (List Int)
structure Bench where
  tx : List UInt8
  ks : Option Keep
def Keep.Ok (m : Nat) (k : Keep) : Prop := k.t ≤ 4 ∧ k.n ≤ 9 ∧ 2 * k.t + 1 ≤ k.n ∧ k.last ≤ m ∧ ∃ X, AllShared k.n k.t k.S X
def Bench.Ok (m : Nat) (b : Bench) : Prop := b.tx.length ≤ 2048 ∧ ∀ k, b.ks = some k → k.Ok m
def bench0 : Bench := ⟨[], none⟩
def wCircuit : List UInt8 := [99, 105, 114, 99, 117, 105, 116]
def wWork : List UInt8 := [119, 111, 114, 107]
def wDeal : List UInt8 := [100, 101, 97, 108]
def wOpen : List UInt8 := [111, 112, 101, 110]
def wClear : List UInt8 := [99, 108, 101, 97, 114]
def wShow : List UInt8 := [115, 104, 111, 119]
def wRun : List UInt8 := [114, 117, 110]
def wKeys : List UInt8 := [107, 101, 121, 115]
def wGen : List UInt8 := [103, 101, 110]
def wRefresh : List UInt8 := [114, 101, 102, 114, 101, 115, 104]
def wTweak : List UInt8 := [116, 119, 101, 97, 107]
def wCombine : List UInt8 := [99, 111, 109, 98, 105, 110, 101]
def wMultiply : List UInt8 := [109, 117, 108, 116, 105, 112, 108, 121]
def wKey : List UInt8 := [107, 101, 121]
def wDrop : List UInt8 := [100, 114, 111, 112]
def newA (k : Keep) (l : List Int) : List UInt8 × Keep :=
  if k.sz = 8 then (errT 2, k) else (toldT [((k.last + 1 : Nat) : Int)] 0, ⟨k.n, k.t, k.last + 1, k.sz + 1, upd k.S (k.last + 1 : Nat) (some l)⟩)
def genA (ds : List Int) (k : Keep) : List UInt8 × Keep := if ds.length = k.n * (k.t + 1) then newA k (ofFs (sumD k.n (genP k.t ds) k.n)) else (errT 1, k)
def refreshA (h : Int) (ds : List Int) (k : Keep) : List UInt8 × Keep := match k.S h with
  | none => (errT 4, k)
  | some l => if ds.length = k.n * k.t then (okT, ⟨k.n, k.t, k.last, k.sz, upd k.S h (some (ofFs (List.zipWith (· + ·) (toFs l) (sumD k.n (refP k.t ds) k.n))))⟩) else (errT 1, k)
def tweakA (h x : Int) (k : Keep) : List UInt8 × Keep := match k.S h with
  | none => (errT 4, k)
  | some l => newA k (l.map fun y => ofF (toF y + toF x))
def combineA (g h x y : Int) (k : Keep) : List UInt8 × Keep := match k.S g, k.S h with
  | some l, some m => newA k (zipS (· + ·) (l.map fun z => ofF (toF z * toF x)) (m.map fun z => ofF (toF z * toF y)))
  | _, _ => (errT 4, k)
def multiplyA (g h : Int) (ds : List Int) (k : Keep) : List UInt8 × Keep := match k.S g, k.S h with
  | some l, some m => if ds.length = k.n * k.t then newA k (ofFs (mulOut k.n k.t (toFs l) (toFs m) (toFs ds))) else (errT 1, k)
  | _, _ => (errT 4, k)
open Classical in
noncomputable def keptX (n t : Nat) (l : List Int) : Int := if h : ∃ x, Shared n t (toFs l) x then ofF (Classical.choose h) else 0
noncomputable def keyA (h : Int) (k : Keep) : List UInt8 × Keep := match k.S h with
  | none => (errT 4, k)
  | some l => (toldT [keptX k.n k.t l] 0, k)
def dropA (h : Int) (k : Keep) : List UInt8 × Keep := match k.S h with
  | none => (errT 4, k)
  | some _ => (okT, ⟨k.n, k.t, k.last, k.sz - 1, upd k.S h none⟩)
def onKeep (b : Bench) (f : Keep → List UInt8 × Keep) : List UInt8 × Bench := match b.ks with
  | none => (errT 4, b)
  | some k => ((f k).1, ⟨b.tx, some (f k).2⟩)
def pairL : List Int → List (Int × Int)
  | x :: y :: l => (x, y) :: pairL l
  | _ => []
open Classical in
noncomputable def robR (t : Int) (l : List (Int × Int)) : Int × List Int × Int :=
  if checkE t l = 0 then (if h : ∃ p, Fits t.toNat (mostW t.toNat l.length) l p then (ofF (peval (pnorm (Classical.choose h)) 0), srt (badL (pnorm (Classical.choose h)) l), 0) else (0, [], 6)) else (0, [], checkE t l)
open Classical in
theorem robusts2 (t : Int) (l : List (Int × Int)) :
    (∀ (va : Value) (w : World), IsShares w va l → Calls Tryz.prog 111 #[.int .i64 t, va] w fun e w' => Opn3 w e w' (robR t l).1 (robR t l).2.1 (robR t l).2.2) ∧
    (∀ (va : Value) (w : World), IsShares w va l → Calls Tryz.prog 39 #[.int .i64 t, va] w fun e w' => Opn3 w e w' (robR t l).1 (robR t l).2.1 (robR t l).2.2) := by
  unfold robR
  by_cases h : checkE t l = 0
  · rw [if_pos h]
    obtain ⟨⟨h1, h2⟩, hok, hl⟩ := checkE_zero.1 h
    obtain ⟨T, rfl⟩ := Int.eq_ofNat_of_zero_le h1
    have hl2 : T + 1 + 2 * mostW T l.length ≤ l.length := by unfold mostW; omega
    rw [Int.toNat_natCast]
    have hr : ∀ w e w', OpenRes w e w' T (mostW T l.length) l → Opn3 w e w' (if h : ∃ p, Fits T (mostW T l.length) l p then ((ofF (peval (pnorm (Classical.choose h)) 0), srt (badL (pnorm (Classical.choose h)) l), 0) : Int × List Int × Int) else (0, [], 6)).1 (if h : ∃ p, Fits T (mostW T l.length) l p then ((ofF (peval (pnorm (Classical.choose h)) 0), srt (badL (pnorm (Classical.choose h)) l), 0) : Int × List Int × Int) else (0, [], 6)).2.1 (if h : ∃ p, Fits T (mostW T l.length) l p then ((ofF (peval (pnorm (Classical.choose h)) 0), srt (badL (pnorm (Classical.choose h)) l), 0) : Int × List Int × Int) else (0, [], 6)).2.2 := by
      intro w e w' hh
      by_cases hf : ∃ p, Fits T (mostW T l.length) l p
      · rw [dif_pos hf]
        rcases hh with ⟨q, hn, hq, vb, e1, e3, e4⟩ | ⟨hno, _⟩
        · have e : q = pnorm (Classical.choose hf) := by rw [← hn]; exact hq.one hok.more hl2 (Classical.choose_spec hf)
          subst e
          exact ⟨vb, e1, e3, e4⟩
        · exact absurd (Classical.choose_spec hf) (hno _)
      · rw [dif_neg hf]
        rcases hh with ⟨q, hn, hq, _⟩ | ⟨_, hh⟩
        · exact absurd ⟨q, hq⟩ hf
        · exact hh.three
    exact ⟨fun va w h1 => (dOpen_ok T va l w h1 h).mono fun e w' hh => hr _ _ _ hh, fun va w h1 => (rRobust_ok T va l w h1 h).mono fun e w' hh => hr _ _ _ hh⟩
  · rw [if_neg h]
    exact ⟨fun va w h1 => (dOpen_bad t va l w h1 h).mono fun e w' hh => hh.three, fun va w h1 => (rRobust_bad t va l w h1 h).mono fun e w' hh => hh.three⟩
noncomputable def openA (n : List Int) : List UInt8 := toldT ((robR (n.headD 0) (pairL n.tail)).1 :: (robR (n.headD 0) (pairL n.tail)).2.1) (robR (n.headD 0) (pairL n.tail)).2.2
def dealB (ds : List Int) (n : Int) : Bool := decide (ds.length ≤ 4 ∧ (ds.length : Int) + 1 ≤ n ∧ n ≤ 9)
def dealA (n : List Int) : List UInt8 := toldT (dealX (n.getD 1 0) (n.drop 2) (n.getD 0 0) (dealB (n.drop 2) (n.getD 0 0))) (dealE (dealB (n.drop 2) (n.getD 0 0)))
def netA (tx : List UInt8) (f : List Gt → List Int → List UInt8) : List UInt8 := if (parseT tx).e = 0 then f (parseT tx).gs (parseT tx).os else errT (parseT tx).e ++ 32 :: numL (parseT tx).at_
def showF (gs : List Gt) (os : List Int) : List UInt8 := circT gs os ++ okT
def runF (n : List Int) (gs : List Gt) (os : List Int) : List UInt8 := toldT (runL gs os n) (runE gs os n)
def workF (n ds : List Int) (gs : List Gt) (os : List Int) : List UInt8 :=
  toldT (ofFs (couts gs os (toFs (n.drop 2)))) (runE2 gs os (n.getD 0 0) (n.getD 1 0) (n.drop 2).length ds.length)
def idxL (x : List UInt8) : List (List UInt8) → Nat
  | [] => 0
  | y :: l => if x = y then 0 else idxL x l + 1
def workA (tx : List UInt8) (ws : List (List UInt8)) : List UInt8 :=
  let i := idxL [47] ws
  if i < ws.length then (if numsOk (ws.take i) = true ∧ numsOk (ws.drop (i + 1)) = true ∧ 2 ≤ i then netA tx (workF ((ws.take i).map numR) ((ws.drop (i + 1)).map numR)) else errT 3) else errT 3
def keysA (b : Bench) (n t : Int) : List UInt8 × Bench := if 0 ≤ t ∧ t ≤ 4 ∧ 1 ≤ n ∧ n ≤ 9 ∧ 2 * t + 1 ≤ n then (okT, ⟨b.tx, some ⟨n.toNat, t.toNat, 0, 0, fun _ => none⟩⟩) else (errT 1, b)
noncomputable def keyedK (v : List UInt8) (n : List Int) : Option (Keep → List UInt8 × Keep) :=
  if v = wGen then some (genA n)
  else if v = wRefresh then (if 1 ≤ n.length then some (refreshA (n.getD 0 0) (n.drop 1)) else none)
  else if v = wTweak then (if n.length = 2 then some (tweakA (n.getD 0 0) (n.getD 1 0)) else none)
  else if v = wCombine then (if n.length = 4 then some (combineA (n.getD 0 0) (n.getD 1 0) (n.getD 2 0) (n.getD 3 0)) else none)
  else if v = wMultiply then (if 2 ≤ n.length then some (multiplyA (n.getD 0 0) (n.getD 1 0) (n.drop 2)) else none)
  else if v = wKey then (if n.length = 1 then some (keyA (n.getD 0 0)) else none)
  else if v = wDrop then (if n.length = 1 then some (dropA (n.getD 0 0)) else none)
  else none
noncomputable def keyedA (b : Bench) (v : List UInt8) (n : List Int) : List UInt8 × Bench := match keyedK v n with
  | none => (errT 3, b)
  | some f => onKeep b f
noncomputable def plainA (b : Bench) (v : List UInt8) (n : List Int) : Option (List UInt8 × Bench) :=
  if v = wDeal then (if 2 ≤ n.length then some (dealA n, b) else none)
  else if v = wOpen then (if 1 ≤ n.length then some (if n.length % 2 = 0 then errT 3 else openA n, b) else none)
  else if v = wClear then (if n.length = 0 then some (okT, ⟨[], b.ks⟩) else none)
  else if v = wShow then (if n.length = 0 then some (netA b.tx showF, b) else none)
  else if v = wRun then some (netA b.tx (runF n), b)
  else if v = wKeys then (if n.length = 2 then some (keysA b (n.getD 0 0) (n.getD 1 0)) else none)
  else none
noncomputable def stepA (b : Bench) (v : List UInt8) (ws : List (List UInt8)) : List UInt8 × Bench :=
  if v = wCircuit then ((moreA b.tx ws).1, ⟨(moreA b.tx ws).2, b.ks⟩)
  else if v = wWork then (workA b.tx ws, b)
  else if numsOk ws = true then (plainA b v (ws.map numR)).getD (keyedA b v (ws.map numR))
  else (errT 3, b)
theorem Keep.Ok.more {m : Nat} {k : Keep} (h : k.Ok m) : k.Ok (m + 1) := ⟨h.1, h.2.1, h.2.2.1, by have := h.2.2.2.1; omega, h.2.2.2.2⟩
theorem Bench.Ok.more {m : Nat} {b : Bench} (h : b.Ok m) : b.Ok (m + 1) := ⟨h.1, fun k hk => (h.2 k hk).more⟩
theorem newA_ok {m : Nat} {k : Keep} (h : k.Ok m) {l : List Int} {x : F} (hl : Shared k.n k.t (toFs l) x) : (newA k l).2.Ok (m + 1) := by
  unfold newA
  split
  · exact h.more
  · obtain ⟨h1, h2, h3, h4, X, h5⟩ := h
    exact ⟨h1, h2, h3, by dsimp only; omega, _, h5.put hl⟩
theorem genA_ok {m : Nat} {k : Keep} (h : k.Ok m) (ds : List Int) : (genA ds k).2.Ok (m + 1) := by
  unfold genA
  split
  · exact newA_ok h (genP_shared ds)
  · exact h.more
theorem refreshA_ok {m : Nat} {k : Keep} (h : k.Ok m) (z : Int) (ds : List Int) : (refreshA z ds k).2.Ok (m + 1) := by
  unfold refreshA
  split
  · exact h.more
  · next l hl =>
    split
    · obtain ⟨h1, h2, h3, h4, X, h5⟩ := h
      exact ⟨h1, h2, h3, by dsimp only; omega, X, h5.turn (refP_shared ds l (h5 _ _ hl))⟩
    · exact h.more
theorem tweakA_ok {m : Nat} {k : Keep} (h : k.Ok m) (z x : Int) : (tweakA z x k).2.Ok (m + 1) := by
  unfold tweakA
  split
  · exact h.more
  · next l hl =>
    obtain ⟨X, h5⟩ := h.2.2.2.2
    exact newA_ok h (tweak_shared l (toF x) (h5 _ _ hl))
theorem combineA_ok {m : Nat} {k : Keep} (h : k.Ok m) (g z x y : Int) : (combineA g z x y k).2.Ok (m + 1) := by
  unfold combineA
  split
  · next l q hl hq =>
    obtain ⟨X, h5⟩ := h.2.2.2.2
    exact newA_ok h (combine_shared l q x y (h5 _ _ hl) (h5 _ _ hq))
  · exact h.more
theorem multiplyA_ok {m : Nat} {k : Keep} (h : k.Ok m) (g z : Int) (ds : List Int) : (multiplyA g z ds k).2.Ok (m + 1) := by
  unfold multiplyA
  split
  · next l q hl hq =>
    split
    · obtain ⟨X, h5⟩ := h.2.2.2.2
      exact newA_ok h (multiply_shared l q ds (h5 _ _ hl) (h5 _ _ hq) h.2.2.1 h.2.1)
    · exact h.more
  · exact h.more
theorem keyA_ok {m : Nat} {k : Keep} (h : k.Ok m) (z : Int) : (keyA z k).2.Ok (m + 1) := by
  unfold keyA
  split <;> exact h.more
theorem dropA_ok {m : Nat} {k : Keep} (h : k.Ok m) (z : Int) : (dropA z k).2.Ok (m + 1) := by
  unfold dropA
  split
  · exact h.more
  · obtain ⟨h1, h2, h3, h4, X, h5⟩ := h
    exact ⟨h1, h2, h3, by dsimp only; omega, X, h5.drop⟩
theorem onKeep_ok {m : Nat} {b : Bench} (h : b.Ok m) {f : Keep → List UInt8 × Keep} (hf : ∀ k, k.Ok m → (f k).2.Ok (m + 1)) : (onKeep b f).2.Ok (m + 1) := by
  unfold onKeep
  split
  · exact h.more
  · next k hk =>
    refine ⟨h.1, fun q hq => ?_⟩
    cases hq
    exact hf k (h.2 k hk)
theorem keyedK_ok {m : Nat} (v : List UInt8) (n : List Int) {f : Keep → List UInt8 × Keep} (hf : keyedK v n = some f) {k : Keep} (hk : k.Ok m) : (f k).2.Ok (m + 1) := by
  unfold keyedK at hf
  split at hf
  · cases hf; exact genA_ok hk _
  split at hf
  · split at hf <;> cases hf; exact refreshA_ok hk _ _
  split at hf
  · split at hf <;> cases hf; exact tweakA_ok hk _ _
  split at hf
  · split at hf <;> cases hf; exact combineA_ok hk _ _ _ _
  split at hf
  · split at hf <;> cases hf; exact multiplyA_ok hk _ _ _
  split at hf
  · split at hf <;> cases hf; exact keyA_ok hk _
  split at hf
  · split at hf <;> cases hf; exact dropA_ok hk _
  cases hf
theorem keyedA_ok {m : Nat} {b : Bench} (h : b.Ok m) (v : List UInt8) (n : List Int) : (keyedA b v n).2.Ok (m + 1) := by
  unfold keyedA
  split
  · exact h.more
  · next f hf => exact onKeep_ok h fun k hk => keyedK_ok v n hf hk
theorem keysA_ok {m : Nat} {b : Bench} (h : b.Ok m) (n t : Int) : (keysA b n t).2.Ok (m + 1) := by
  unfold keysA
  split
  · next hc =>
    refine ⟨h.1, fun k hk => ?_⟩
    cases hk
    exact ⟨by dsimp only; omega, by dsimp only; omega, by dsimp only; omega, by dsimp only; omega, fun _ => 0, fun z zs hz => by cases hz⟩
  · exact h.more
theorem plainA_ok {m : Nat} {b : Bench} (h : b.Ok m) (v : List UInt8) (n : List Int) {r : List UInt8 × Bench} (hr : plainA b v n = some r) : r.2.Ok (m + 1) := by
  unfold plainA at hr
  split at hr
  · split at hr
    · cases hr; exact h.more
    · cases hr
  split at hr
  · split at hr
    · cases hr; exact h.more
    · cases hr
  split at hr
  · split at hr
    · cases hr; exact ⟨by simp, h.more.2⟩
    · cases hr
  split at hr
  · split at hr
    · cases hr; exact h.more
    · cases hr
  split at hr
  · cases hr; exact h.more
  split at hr
  · split at hr
    · cases hr; exact keysA_ok h _ _
    · cases hr
  cases hr
theorem moreA_len {tx : List UInt8} (h : tx.length ≤ 2048) (ws : List (List UInt8)) : (moreA tx ws).2.length ≤ 2048 := by
  unfold moreA
  split
  · exact h
  · split
    · exact h
    · simp only [List.length_append, List.length_singleton]; omega
theorem stepA_ok {m : Nat} {b : Bench} (h : b.Ok m) (v : List UInt8) (ws : List (List UInt8)) : (stepA b v ws).2.Ok (m + 1) := by
  unfold stepA
  split
  · exact ⟨moreA_len h.1 ws, h.more.2⟩
  split
  · exact h.more
  split
  · cases hp : plainA b v (ws.map numR) with
    | none => exact keyedA_ok h _ _
    | some r => exact plainA_ok h _ _ hp
  · exact h.more
theorem numsOk_nonneg {ws : List (List UInt8)} (h : numsOk ws = true) : ∀ z ∈ ws.map numR, 0 ≤ z := fun z hz => by
  obtain ⟨x, hx, rfl⟩ := List.mem_map.1 hz
  unfold numsOk at h
  rw [List.all_eq_true] at h
  exact of_decide_eq_true (h x hx)
theorem numbersL_ok {ws : List (List UInt8)} (h : numsOk ws = true) : numbersL ws = ws.map numR := if_pos h
end Go.Proofs.YtploomncapiloaaGreatDoor
namespace Go.Proofs.YtploomncapiloaaGreatDoor
open Go.RowKit Go.Sort Croft
structure Left (base db : Nat) (w w' : World) : Prop where
  os : w'.os = w.os
  tape : w'.tape = w.tape
  output : w'.output = w.output
  size : w.heap.size ≤ w'.heap.size
  block : ∀ k, k < w.heap.size → k ≠ db → (k < base ∨ ∃ cs fr, w.heap[k]? = some (.cells cs 5 fr)) → w'.heap[k]? = w.heap[k]?
section
variable {base db : Nat} {w w1 w' : World}
theorem Left.trans (h : Left base db w w1) (k : Left base db w1 w') : Left base db w w' :=
  ⟨k.os.trans h.os, k.tape.trans h.tape, k.output.trans h.output, Nat.le_trans h.size k.size, fun i hi hd hc => by
    have e := h.block i hi hd hc
    refine (k.block i (Nat.lt_of_lt_of_le hi h.size) hd ?_).trans e
    rcases hc with hc | ⟨cs, fr, hc⟩
    · exact .inl hc
    · exact .inr ⟨cs, fr, e.trans hc⟩⟩
theorem Left.of_below (h : Below w.heap.size w w') : Left base db w w' := ⟨h.os, h.tape, h.output, h.size, fun k hk _ _ => h.block k hk⟩
theorem Left.below (h : Left base db w w1) (k : Below w1.heap.size w1 w') : Left base db w w' := h.trans (.of_below k)
theorem Left.of_grown (h : w.grownBy w' (some db)) : Left base db w w' := ⟨h.os, h.tape, h.output, h.size, fun k hk hd _ => h.block k hk (fun e => hd (by injection e))⟩
theorem Left.low (h : Left base db w w') {B : Nat} (h1 : B ≤ base) (h2 : B ≤ db) (h3 : B ≤ w.heap.size) : Below B w w' := ⟨h.os, h.tape, h.output, h.size, fun k hk => h.block k (by omega) (by omega) (.inl (by omega))⟩
theorem cells_ne {a b : Option Obj} {cs cs' : Array Value} {T e : TypeId} {fr fr' : Nat × Nat} (h1 : a = some (.cells cs T fr)) (h2 : b = some (.cells cs' e fr')) (hne : T ≠ e) : a ≠ b := fun he => by
  rw [h1, h2] at he
  injection he with he
  injection he with _ he _
  exact hne he
theorem Left.of_keys {kb mb n t last sz : Nat} {S : Int → Option (List Int)} {V : Int → Value} (hk : KeysIs w base kb mb n t last sz S V) (h : Near kb mb w w') : Left base db w w' :=
  ⟨h.os, h.tape, h.output, h.size, fun k hlt _ hc => h.block k hlt (fun e => by
    subst e
    rcases hc with hc | ⟨cs, fr, hc⟩
    · have := hk.le; omega
    · exact cells_ne hk.cell hc (by decide) rfl) (fun e => by
    subst e
    rcases hc with hc | ⟨cs, fr, hc⟩
    · have := hk.store.le; omega
    · exact hk.mb_type _ _ _ hc)⟩
theorem StoreIs.less {base' mb sz : Nat} {S : Int → Option (List Int)} {V : Int → Value} (h : StoreIs w base mb sz S V) (hb : base' ≤ base) : StoreIs w base' mb sz S V :=
  ⟨h.map, fun z zs hz => (h.rows z zs hz).less hb, Nat.le_trans hb h.le⟩
theorem KeysIs.less {base' kb mb n t last sz : Nat} {S : Int → Option (List Int)} {V : Int → Value} (h : KeysIs w base kb mb n t last sz S V) (hb : base' ≤ base) : KeysIs w base' kb mb n t last sz S V :=
  ⟨h.cell, h.store.less hb, Nat.le_trans hb h.le, h.len, h.sz8⟩
theorem StoreIs.others {bb mb sz : Nat} {S : Int → Option (List Int)} {V : Int → Value} (h : StoreIs w base mb sz S V) (ho : Lib.OthersKept 5 (some bb) w w') (hbb : bb < base) : StoreIs w' base mb sz S V := by
  obtain ⟨D, ⟨es, clock, hblk, F⟩, h3⟩ := h.map
  have hle := h.le
  refine ⟨⟨D, ⟨es, clock, ho mb _ hblk (by simp; omega) (fun _ _ e => by cases e), F⟩, h3⟩, fun z zs hz => ?_, hle⟩
  have hr := h.rows z zs hz
  refine ⟨⟨hr.1.1, ?_⟩, hr.2⟩
  rcases hr.1.2 with h1 | ⟨g, cap, cur, hv, hg, hc, r⟩
  · exact .inl h1
  · exact .inr ⟨g, cap, cur, hv, hg, ho g _ hc (by simp; omega) (fun _ _ e => by injection e with _ e; exact absurd e (by decide)), r⟩
theorem KeysIs.others {bb kb mb n t last sz : Nat} {S : Int → Option (List Int)} {V : Int → Value} (h : KeysIs w base kb mb n t last sz S V) (ho : Lib.OthersKept 5 (some bb) w w') (hbb : bb < base) : KeysIs w' base kb mb n t last sz S V := by
  have hle := h.le
  exact ⟨ho kb _ h.cell (by simp; omega) (fun _ _ e => by injection e with _ e; exact absurd e (by decide)), h.store.others ho hbb, hle, h.len, h.sz8⟩
def KeepIs (w : World) (base : Nat) (kp : Value) : Option Keep → Prop
  | none => kp = .pointer none
  | some k => ∃ kb mb V, kp = .pointer (some ⟨kb, 0, none⟩) ∧ KeysIs w base kb mb k.n k.t k.last k.sz k.S V
theorem KeepIs.below {kp : Value} {o : Option Keep} (h : KeepIs w base kp o) (hb : Below w.heap.size w w') : KeepIs w' base kp o := by
  cases o with
  | none => exact h
  | some k => obtain ⟨kb, mb, V, h1, h2⟩ := h; exact ⟨kb, mb, V, h1, h2.below hb⟩
def DeskIs (w : World) (base db : Nat) (b : Bench) : Prop := ∃ kp, Box w db 32 [.string (bs b.tx), kp] ∧ KeepIs w base kp b.ks
theorem DeskIs.below {b : Bench} (h : DeskIs w base db b) (hb : Below w.heap.size w w') : DeskIs w' base db b := by
  obtain ⟨kp, h1, h2⟩ := h
  exact ⟨kp, h1.below hb, h2.below hb⟩
theorem DeskIs.lt {b : Bench} (h : DeskIs w base db b) : db < w.heap.size := by
  obtain ⟨kp, h1, _⟩ := h
  exact h1.lt
theorem DeskIs.others {bb : Nat} {b : Bench} (h : DeskIs w base db b) (ho : Lib.OthersKept 5 (some bb) w w') (hbb : bb < base) (hne : db ≠ bb) : DeskIs w' base db b := by
  obtain ⟨kp, h1, h2⟩ := h
  refine ⟨kp, ho db _ h1 (by simp; omega) (fun _ _ e => by injection e with _ e; exact absurd e (by decide)), ?_⟩
  cases hk : b.ks with
  | none => rw [hk] at h2; exact h2
  | some k =>
    rw [hk] at h2
    obtain ⟨kb, mb, V, h3, h4⟩ := h2
    exact ⟨kb, mb, V, h3, h4.others ho hbb⟩
theorem KeepIs.grown {kp : Value} {o : Option Keep} (h : KeepIs w base kp o) (hg : w.grownBy w' (some db)) (hd : db < base) : KeepIs w' base kp o := by
  cases o with
  | none => exact h
  | some k =>
    obtain ⟨kb, mb, V, h1, h2⟩ := h
    have hle := h2.le
    have hle2 := h2.store.le
    refine ⟨kb, mb, V, h1, (hg.block kb h2.lt (by simp; omega)).trans h2.cell, ⟨?_, fun z zs hz => ?_, hle2⟩, hle, h2.len, h2.sz8⟩
    · obtain ⟨D, ⟨es, clock, hblk, F⟩, h3⟩ := h2.store.map
      exact ⟨D, ⟨es, clock, (hg.block mb h2.store.lt (by simp; omega)).trans hblk, F⟩, h3⟩
    · have hr := h2.store.rows z zs hz
      refine ⟨⟨hr.1.1, ?_⟩, hr.2⟩
      rcases hr.1.2 with h1 | ⟨g, cap, cur, hv, hgb, hc, r⟩
      · exact .inl h1
      · exact .inr ⟨g, cap, cur, hv, hgb, (hg.block g (Array.getElem?_eq_some_iff.1 hc).1 (by simp; omega)).trans hc, r⟩
def BldF (w : World) (b : Nat) (l : List UInt8) : Prop := Lib.IsBuilderF 36 5 b b (Lib.byteCells l) w
theorem BldF.left {b : Nat} {l : List UInt8} (h : BldF w b l) (hl : Left base db w w') (hb : b < base) (hne : b ≠ db) (hd : ∀ cs fr, w.heap[db]? ≠ some (.cells cs 5 fr)) : BldF w' b l := by
  have key : ∀ p, Lib.BuilderAtF 36 5 b b p (Lib.byteCells l) w → Lib.BuilderAtF 36 5 b b p (Lib.byteCells l) w' := fun p hp => by
    obtain ⟨h1, v, h2, h3, h4⟩ := hp
    refine ⟨h1, v, (hl.block b (Array.getElem?_eq_some_iff.1 h2).1 hne (.inl hb)).trans h2, ⟨h3.1, ?_⟩, h4⟩
    rcases h3.2 with h5 | ⟨g, cap, cur, fz, hv, hgb, hc, r⟩
    · exact .inl h5
    · exact .inr ⟨g, cap, cur, fz, hv, hgb, (hl.block g (Array.getElem?_eq_some_iff.1 hc).1 (fun e => by subst e; exact hd _ _ hc) (.inr ⟨_, _, hc⟩)).trans hc, r⟩
  rcases h with h | h
  · exact .inl (key _ h)
  · exact .inr (key _ h)
theorem DeskIs.type {b : Bench} (h : DeskIs w base db b) (cs : Array Value) (fr : Nat × Nat) : w.heap[db]? ≠ some (.cells cs 5 fr) := fun e => by
  obtain ⟨kp, h1, _⟩ := h
  exact cells_ne h1 e (by decide) rfl
end
def HanP (KI : World → Keep → Prop) (kb mb : Nat) (r : List UInt8 × Keep) (w : World) (e : Ending) (w' : World) : Prop :=
  ∃ z E : Int, e = .returned (.tuple #[.int .i64 z, .int .i64 E]) ∧ r.1 = toldT [z] E ∧ (0 ≤ z ∧ z ≤ 9223372036854775807) ∧ (0 ≤ E ∧ E ≤ 1000) ∧ KI w' r.2 ∧ Near kb mb w w'
def DonP (KI : World → Keep → Prop) (kb mb : Nat) (r : List UInt8 × Keep) (w : World) (e : Ending) (w' : World) : Prop :=
  ∃ E : Int, e = .returned (.int .i64 E) ∧ r.1 = doneT E ∧ (0 ≤ E ∧ E ≤ 1000) ∧ KI w' r.2 ∧ Near kb mb w w'
def NumP (r : List UInt8 × Keep) (k : Keep) (w : World) (e : Ending) (w' : World) : Prop :=
  ∃ z E : Int, e = .returned (.tuple #[.int .u64 z, .int .i64 E]) ∧ r = (toldT [z] E, k) ∧ U64 z ∧ (0 ≤ E ∧ E ≤ 1000) ∧ Below w.heap.size w w'
def KI (base kb mb : Nat) (w : World) (k : Keep) : Prop := ∃ V, KeysIs w base kb mb k.n k.t k.last k.sz k.S V
theorem KI.below {base kb mb : Nat} {w w' : World} {k : Keep} (h : KI base kb mb w k) (hb : Below w.heap.size w w') : KI base kb mb w' k := by
  obtain ⟨V, h⟩ := h; exact ⟨V, h.below hb⟩
section
variable {base kb mb : Nat} {k : Keep} {w w' : World} {e : Ending}
theorem newA_keys {l : List Int} (h : NewKey w base kb mb k.n k.t k.last k.sz k.S l e w') (hl : k.last ≤ 1000) : HanP (KI base kb mb) kb mb (newA k l) w e w' := by
  unfold NewKey at h
  unfold newA
  split at h
  · next h8 => rw [if_pos h8]; exact ⟨0, 2, h.1, rfl, by omega, by omega, h.2.1, h.2.2⟩
  · next h8 => rw [if_neg h8]; exact ⟨_, 0, h.1, rfl, by omega, by omega, h.2.1, h.2.2⟩
theorem HanP.err {Q : World → Keep → Prop} {E : Int} {r : List UInt8 × Keep} (hr : r = (errT E, k)) (hE : 1 ≤ E) (hE2 : E ≤ 1000) (he : e = .returned (.tuple #[.int .i64 0, .int .i64 E])) (hq : Q w' k) (hb : Below w.heap.size w w') : HanP Q kb mb r w e w' :=
  ⟨0, E, he, by rw [hr]; exact (if_neg (by omega)).symm, by omega, by omega, by rw [hr]; exact hq, .of_below hb⟩
theorem DonP.err {Q : World → Keep → Prop} {E : Int} {r : List UInt8 × Keep} (hr : r = (errT E, k)) (hE : 1 ≤ E) (hE2 : E ≤ 1000) (he : e = .returned (.int .i64 E)) (hq : Q w' k) (hb : Below w.heap.size w w') : DonP Q kb mb r w e w' :=
  ⟨E, he, by rw [hr]; exact (if_neg (by omega)).symm, by omega, by rw [hr]; exact hq, .of_below hb⟩
theorem not_some {S : Int → Option (List Int)} {z : Int} (h : S z = none) : ¬ (S z).isSome = true := by rw [h]; simp
theorem genA_keys (vd : Value) (ds : List Int) (w : World) (hk : KI base kb mb w k) (h1 : IsNums w vd ds) (ho : k.Ok 1000) :
    Calls Tryz.prog 65 #[.pointer (some ⟨kb, 0, none⟩), vd] w fun e w' => HanP (KI base kb mb) kb mb (genA ds k) w e w' := by
  obtain ⟨h4, h9, h2, hl, _⟩ := ho
  obtain ⟨V, hv⟩ := id hk
  by_cases hd : ds.length = k.n * (k.t + 1)
  · rw [show genA ds k = _ from if_pos hd]
    exact (kGen_new vd ds w hv h1 hd h4 h9 (by omega) (by omega)).mono fun e w' h => newA_keys h hl
  · exact (kGen_bad vd ds w hv h1 hd h4 h9).mono fun e w' h => .err (if_neg hd) (by omega) (by omega) h.1 (hk.below h.2) h.2
theorem refreshA_keys (h : Int) (vd : Value) (ds : List Int) (w : World) (hk : KI base kb mb w k) (hi : I64 h) (h1 : IsNums w vd ds) (ho : k.Ok 1000) :
    Calls Tryz.prog 67 #[.pointer (some ⟨kb, 0, none⟩), .int .i64 h, vd] w fun e w' => DonP (KI base kb mb) kb mb (refreshA h ds k) w e w' := by
  obtain ⟨h4, h9, h2, hl, _⟩ := ho
  obtain ⟨V, hv⟩ := id hk
  cases hs : k.S h with
  | none =>
    obtain ⟨A1, c1, rfl, _⟩ := h1
    exact (kRefresh_none h A1 _ c1 w hv hi (not_some hs)).mono fun e w' q => .err (by unfold refreshA; rw [hs]) (by omega) (by omega) q.1 (hk.below q.2) q.2
  | some l0 =>
    by_cases hd : ds.length = k.n * k.t
    · rw [show refreshA h ds k = (okT, ⟨k.n, k.t, k.last, k.sz, upd k.S h (some (ofFs (List.zipWith (· + ·) (toFs l0) (sumD k.n (refP k.t ds) k.n))))⟩) by unfold refreshA; rw [hs]; exact if_pos hd]
      exact (kRefresh_ok h vd ds l0 w hv hi hs h1 hd h4 (by omega) h9).mono fun e w' q => ⟨0, q.1, rfl, by omega, q.2.1, q.2.2⟩
    · exact (kRefresh_bad h vd ds l0 w hv hi hs h1 hd h4 h9).mono fun e w' q => .err (by unfold refreshA; rw [hs]; exact if_neg hd) (by omega) (by omega) q.1 (hk.below q.2) q.2
theorem tweakA_keys (h x : Int) (w : World) (hk : KI base kb mb w k) (hi : I64 h) (hx : U64 x) (ho : k.Ok 1000) :
    Calls Tryz.prog 69 #[.pointer (some ⟨kb, 0, none⟩), .int .i64 h, .int .u64 x] w fun e w' => HanP (KI base kb mb) kb mb (tweakA h x k) w e w' := by
  obtain ⟨h4, h9, h2, hl, _⟩ := ho
  obtain ⟨V, hv⟩ := id hk
  cases hs : k.S h with
  | none => exact (kTweak_none h x w hv hi (not_some hs)).mono fun e w' q => .err (by unfold tweakA; rw [hs]) (by omega) (by omega) q.1 (hk.below q.2) q.2
  | some l0 =>
    rw [show tweakA h x k = newA k (l0.map fun y => ofF (toF y + toF x)) by unfold tweakA; rw [hs]]
    exact (kTweak_ok h x l0 w hv hi hs hx (by omega) h9 (by omega)).mono fun e w' q => newA_keys q hl
theorem combineA_keys (g h x y : Int) (w : World) (hk : KI base kb mb w k) (hi : I64 g) (hj : I64 h) (hx : U64 x) (hy : U64 y) (ho : k.Ok 1000) :
    Calls Tryz.prog 71 #[.pointer (some ⟨kb, 0, none⟩), .int .i64 g, .int .i64 h, .int .u64 x, .int .u64 y] w fun e w' => HanP (KI base kb mb) kb mb (combineA g h x y k) w e w' := by
  obtain ⟨h4, h9, h2, hl, _⟩ := ho
  obtain ⟨V, hv⟩ := id hk
  cases hs : k.S g with
  | none => exact (kCombine_none g h x y w hv hi hj (fun q => not_some hs q.1)).mono fun e w' q => .err (by unfold combineA; rw [hs]) (by omega) (by omega) q.1 (hk.below q.2) q.2
  | some l0 =>
    cases hs2 : k.S h with
    | none => exact (kCombine_none g h x y w hv hi hj (fun q => not_some hs2 q.2)).mono fun e w' q => .err (by unfold combineA; rw [hs, hs2]) (by omega) (by omega) q.1 (hk.below q.2) q.2
    | some l1 =>
      rw [show combineA g h x y k = newA k (zipS (· + ·) (l0.map fun z => ofF (toF z * toF x)) (l1.map fun z => ofF (toF z * toF y))) by unfold combineA; rw [hs, hs2]]
      exact (kCombine_ok g h x y l0 l1 w hv hi hj hs hs2 hx hy (by omega) h9 (by omega)).mono fun e w' q => newA_keys q hl
theorem multiplyA_keys (g h : Int) (vd : Value) (ds : List Int) (w : World) (hk : KI base kb mb w k) (hi : I64 g) (hj : I64 h) (h1 : IsNums w vd ds) (ho : k.Ok 1000) :
    Calls Tryz.prog 73 #[.pointer (some ⟨kb, 0, none⟩), .int .i64 g, .int .i64 h, vd] w fun e w' => HanP (KI base kb mb) kb mb (multiplyA g h ds k) w e w' := by
  obtain ⟨h4, h9, h2, hl, _⟩ := ho
  obtain ⟨V, hv⟩ := id hk
  cases hs : k.S g with
  | none => exact (kMultiply_none g h vd w hv hi hj (fun q => not_some hs q.1)).mono fun e w' q => .err (by unfold multiplyA; rw [hs]) (by omega) (by omega) q.1 (hk.below q.2) q.2
  | some l0 =>
    cases hs2 : k.S h with
    | none => exact (kMultiply_none g h vd w hv hi hj (fun q => not_some hs2 q.2)).mono fun e w' q => .err (by unfold multiplyA; rw [hs, hs2]) (by omega) (by omega) q.1 (hk.below q.2) q.2
    | some l1 =>
      by_cases hd : ds.length = k.n * k.t
      · rw [show multiplyA g h ds k = newA k (ofFs (mulOut k.n k.t (toFs l0) (toFs l1) (toFs ds))) by unfold multiplyA; rw [hs, hs2]; exact if_pos hd]
        exact (kMultiply_ok g h vd ds l0 l1 w hv hi hj hs hs2 h1 hd h4 h2 h9 (by omega)).mono fun e w' q => newA_keys q hl
      · exact (kMultiply_bad g h vd ds l0 l1 w hv hi hj hs hs2 h1 hd h4 h2 h9).mono fun e w' q => .err (by unfold multiplyA; rw [hs, hs2]; exact if_neg hd) (by omega) (by omega) q.1 (hk.below q.2) q.2
theorem kept_is {l0 : List Int} {h : Int} (hs : k.S h = some l0) {m : Nat} (ho : k.Ok m) : ∃ x, Shared k.n k.t (toFs l0) x ∧ keptX k.n k.t l0 = ofF x := by
  obtain ⟨X, hX⟩ := ho.2.2.2.2
  have hx : ∃ x, Shared k.n k.t (toFs l0) x := ⟨_, hX _ _ hs⟩
  exact ⟨_, Classical.choose_spec hx, dif_pos hx⟩
theorem keyA_keys (h : Int) (w : World) (hk : KI base kb mb w k) (hi : I64 h) (ho : k.Ok 1000) :
    Calls Tryz.prog 75 #[.pointer (some ⟨kb, 0, none⟩), .int .i64 h] w fun e w' => NumP (keyA h k) k w e w' := by
  obtain ⟨V, hv⟩ := id hk
  cases hs : k.S h with
  | none => exact (kOpen_none h w hv hi (not_some hs)).mono fun e w' q => ⟨0, 4, q.1, by unfold keyA; rw [hs]; rfl, ⟨by omega, by omega⟩, by omega, q.2⟩
  | some l0 =>
    obtain ⟨x, hx, he⟩ := kept_is hs ho
    obtain ⟨h4, h9, h2, hl, _⟩ := ho
    exact (kOpen_ok h l0 x w hv hi hs hx h4 (by omega) h9).mono fun e w' q => ⟨_, 0, q.1, by unfold keyA; rw [hs]; dsimp only; rw [he], U64.of_ofF _, by omega, q.2⟩
theorem dropA_keys (h : Int) (w : World) (hk : KI base kb mb w k) (hi : I64 h) :
    Calls Tryz.prog 77 #[.pointer (some ⟨kb, 0, none⟩), .int .i64 h] w fun e w' => DonP (KI base kb mb) kb mb (dropA h k) w e w' := by
  obtain ⟨V, hv⟩ := id hk
  cases hs : k.S h with
  | none => exact (kDrop_none h w hv hi (not_some hs)).mono fun e w' q => .err (by unfold dropA; rw [hs]) (by omega) (by omega) q.1 (hk.below q.2) q.2
  | some l0 =>
    rw [show dropA h k = (okT, ⟨k.n, k.t, k.last, k.sz - 1, upd k.S h none⟩) by unfold dropA; rw [hs]]
    exact (kDrop_ok h l0 w hv hi hs).mono fun e w' q => ⟨0, q.1, rfl, by omega, ⟨_, q.2.1⟩, q.2.2⟩
end
end Go.Proofs.YtploomncapiloaaGreatDoor
