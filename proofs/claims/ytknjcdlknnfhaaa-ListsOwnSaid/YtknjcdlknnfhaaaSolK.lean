/- Package solve's helpers: what they return. -/
import Derived.Test.YtknjcdlknnfhaaaGridP
import Derived.Test.YtknjcdlknnfhaaaTailM
import Derived.Test.YtknjcdlknnfhaaaJoin
import Derived.Test.YtknjcdlknnfhaaaThroughW
import Derived.Lib.SliceRun
namespace Go.Proofs.Ytknjcdlknnfhaaa
open Go.RowKit Croft

set_option maxRecDepth 100000 in
theorem nClone_any (va : Value) (l : List Int) (w : World) (h1 : IsNums w va l) (hp : 0 < l.length) :
    Calls Try.prog 19 #[va] w fun e w' => ∃ v, e = .returned v ∧ OwnNums w' w.heap.size v l ∧ Below w.heap.size w w' := by
  have KA := Lib.hid h1
  obtain ⟨A1, c1, rfl, hc1, hm1, hl1, hu1, hr1⟩ := h1
  obtain ⟨b, o, rfl, hb, _⟩ := hr1.at_ (j := 0) (by rw [u64s_length]; omega)
  have KO := Lib.hid (lit_own w w.heap.size [] (by simp) (by simp) (Nat.le_refl _))
  have hnil : ∀ W, (binOp .eql 26 (.slice (some ⟨b, o, none⟩) l.length c1) (.slice none 0 0)).run Try.prog W = .ok (.bool false) W := fun W => Lib.run_eql_slice_nil W _ _ _ _ _ _ _ Try.underlying26
  clear hu1 hr1 hm1 hb
  go_enter Try.func19, Try.ntmps19
  go_wp2_with (at_builtin; go_loud (refine wpList_join rfl _ _ rfl w.heap.size _ _ [] l rfl KO.out rfl (KA.out.below ((Below.refl _ _).alloc (Nat.le_refl _) _)) (by simp; omega) (by rw [size_alloc]; omega) ?_))
  intro v' w' ho hb
  have K := Lib.hid (show OwnNums w' w.heap.size v' l from ho)
  have B := Lib.hid (((Below.refl w.heap.size w).alloc (Nat.le_refl _) (.cells (u64s []).toArray 39)).trans hb)
  clear ho hb
  go_wp2_with fail
  go_ret
  exact ⟨_, rfl, K.out, B.out⟩
/-- a row less another one, so many times -/
def clrL (r b : List Int) (t : Int) : List Int := List.zipWith (fun u v => ofF (toF u - toF t * toF v)) r b
theorem clrL_length {r b : List Int} (t : Int) (h : r.length = b.length) : (clrL r b t).length = r.length := by unfold clrL; rw [List.length_zipWith, h, Nat.min_self]
theorem clrL_get {r b : List Int} (t : Int) {j : Nat} {u v : Int} (hu : r[j]? = some u) (hv : b[j]? = some v) : (clrL r b t)[j]? = some (ofF (toF u - toF t * toF v)) := by
  unfold clrL
  rw [List.getElem?_zipWith, hu, hv]
def partL (T r : List Int) (j : Nat) : List Int := T.take j ++ r.drop j
theorem partL_length {T r : List Int} (h : T.length = r.length) (j : Nat) : (partL T r j).length = r.length := by unfold partL; simp; omega
theorem partL_get {T r : List Int} (h : T.length = r.length) {j : Nat} (hj : j < r.length) : (partL T r j)[j]? = r[j]? := by
  unfold partL
  rw [List.getElem?_append_right (by simp; omega), List.length_take, Nat.min_eq_left (by omega), Nat.sub_self, List.getElem?_drop, Nat.add_zero]
theorem partL_set {T r : List Int} (h : T.length = r.length) {j : Nat} {z : Int} (hz : T[j]? = some z) : (partL T r j).set j z = partL T r (j + 1) := by
  have hj : j < T.length := (List.getElem?_eq_some_iff.1 hz).1
  unfold partL
  have e : (r.drop j).set 0 z = z :: r.drop (j + 1) := by
    rw [List.drop_eq_getElem_cons (show j < r.length by omega)]; rfl
  rw [List.set_append_right _ _ (by simp; omega), List.length_take, Nat.min_eq_left (by omega), Nat.sub_self, List.take_add_one, hz, e]
  simp
theorem set_self {α : Type} {l : List α} {i : Nat} {a : α} (h : l[i]? = some a) : l.set i a = l := by
  apply List.ext_getElem?
  intro k
  by_cases hk : k = i
  · subst hk
    rw [List.getElem?_set_self (List.getElem?_eq_some_iff.1 h).1, h]
  · rw [List.getElem?_set_ne (Ne.symm hk)]
theorem partL_start (T r : List Int) : partL T r 0 = r := by simp [partL]
theorem partL_end {T r : List Int} (h : T.length = r.length) : partL T r r.length = T := by
  unfold partL
  rw [List.take_of_length_le (by omega), List.drop_length, List.append_nil]
theorem set_get_same {α : Type} {l : List α} {i : Nat} {a b : α} (h : l[i]? = some a) : (l.set i b)[i]? = some b := List.getElem?_set_self (List.getElem?_eq_some_iff.1 h).1
set_option maxRecDepth 100000 in
set_option maxHeartbeats 2000000 in
theorem sClear_any (w : World) (base : Nat) (vg x y : Value) (vs : List Value) (rows : List (List Int)) (i a : Nat) (r b : List Int) (times : Int) (hG : Grid w base vg vs rows)
    (hx : vs[i]? = some x) (hy : vs[a]? = some y) (hr : rows[i]? = some r) (hb : rows[a]? = some b) (hia : i ≠ a) (hl : r.length = b.length) (hp : 0 < r.length) (hp2 : r.length ≤ 1000) (ht : 0 ≤ times) :
    Calls Try.prog 120 #[x, y, .int .u64 times] w fun e w' => e = .returned (.tuple #[]) ∧ Grid w' base vg vs (rows.set i (clrL r b times)) ∧ Below base w w' ∧ w.grownBy w' x.ownBlock := by
  obtain ⟨g, c, hv1, _, _, _, hg1, hg2⟩ := hG.at_ hr hp
  obtain ⟨q, d, hv2, _, _, _, hq1, hq2⟩ := hG.at_ hb (by omega)
  obtain rfl := Option.some.inj (hx.symm.trans hv1)
  obtain rfl := Option.some.inj (hy.symm.trans hv2)
  clear hv1 hv2
  obtain ⟨n, hn⟩ : ∃ n, n = r.length := ⟨_, rfl⟩
  rw [← hl, ← hn] at hy ⊢
  rw [← hn] at hx
  have HG := Lib.hid hG
  have HX := Lib.hid hx
  have HY := Lib.hid hy
  have HR := Lib.hid hr
  have HB := Lib.hid hb
  have HN := Lib.hid hn
  have HL := Lib.hid hl
  have HTL := Lib.hid (clrL_length times hl)
  rw [← hn] at hp hp2
  clear hG hx hy hr hb hn hl
  go_enter Try.func120, Try.ntmps120
  go_wp2_with fail
  go_loopw [9] (fun idx wr => ∃ j : Nat, j ≤ n ∧ idx = .int .i64 j ∧ Grid wr base vg vs (rows.set i (partL (clrL r b times) r j)) ∧ Below base w wr ∧ w.grownBy wr (some g)) (fun idx _ => n - (intOf idx).toNat)
  case atStart => exact ⟨0, Nat.zero_le _, rfl, by rw [partL_start, set_self HR.out]; exact HG.out, Below.refl _ _, ⟨rfl, rfl, rfl, Nat.le_refl _, fun _ _ _ => rfl⟩⟩
  case round =>
    obtain ⟨j, hj, rfl, hgr, hbel, hgw⟩ := hrel
    have KG := Lib.hid hgr
    have BEL := Lib.hid hbel
    have GW := Lib.hid hgw
    clear hgr hbel hgw
    by_cases hlt : j < n
    · have hdj : decide ((j : Int) < (n : Int)) = true := by simp; omega
      have hjr : j < r.length := by rw [← HN.out]; exact hlt
      have hjb : j < b.length := by rw [← HL.out]; exact hjr
      have hu : r[j]? = some r[j] := List.getElem?_eq_getElem hjr
      have hv : b[j]? = some b[j] := List.getElem?_eq_getElem hjb
      obtain ⟨u, hue⟩ : ∃ u, u = r[j] := ⟨_, rfl⟩
      obtain ⟨v, hve⟩ : ∃ v, v = b[j] := ⟨_, rfl⟩
      rw [← hue] at hu
      rw [← hve] at hv
      clear hue hve
      have hri := set_get_same (b := partL (clrL r b times) r j) HR.out
      have hrow := KG.out.row i _ _ HX.out hri
      have hrow2 := KG.out.row a _ b HY.out (by rw [List.getElem?_set_ne hia]; exact HB.out)
      have hcu := hrow.cell (show (partL (clrL r b times) r j)[j]? = some u by rw [partL_get HTL.out hjr]; exact hu)
      have hfu := hrow.frozen j
      have hcv := hrow2.cell hv
      have hu0 := ((hrow.2.2 u (List.mem_of_getElem? (show (partL (clrL r b times) r j)[j]? = some u by rw [partL_get HTL.out hjr]; exact hu)))).1
      have hv0 := (hrow2.2.2 v (List.mem_of_getElem? hv)).1
      have HSET := Lib.hid (partL_set HTL.out (clrL_get times hu hv))
      have HRI := Lib.hid hri
      have HU := Lib.hid (show U64 (ofF (toF u - toF times * toF v)) from U64.of_ofF _)
      clear hu hv hri hrow hrow2
      go_wp2_with fail
      refine wp_region_quiet_mask [true, true, false, false, false, false, false, false, false, false, false, false, false] (by kernel_rfl) (by kernel_rfl) (fun _ _ _ _ _ h => h) ?_
      simp only [List.length_cons, List.length_nil, Nat.zero_add, Nat.reduceAdd, List.take_succ_cons, List.take_zero, List.drop_succ_cons, List.drop_zero, pickT, pickF, putAll, moved]
      simp [Act.put, Act.eval]
      repeat (go_big_quiet_step ((first | exact quietL (fMul_any _ _ _ ht hv0) | exact quietL (fSub_any _ _ _ hu0 (ofF_nonneg _)))))
      refine wpQuiet_nil ?_
      intro nq
      have KG2 := Lib.hid ((KG.out.drewN nq).setNum HX.out HRI.out j HU.out)
      have BE2 := Lib.hid ((below_drewN BEL.out nq).setCell (p := ⟨g, j, none⟩) hg1 (.int .u64 (ofF (toF u - toF times * toF v))))
      have GW2 := Lib.hid ((GW.out.trans (show wr.grownBy (wr.drewN nq) (some g) from ⟨rfl, rfl, rfl, Nat.le_refl _, fun _ _ _ => rfl⟩)).trans (set_grown (wr.drewN nq) g j (.int .u64 (ofF (toF u - toF times * toF v)))))
      go_wp2_with fail
      simp only [toF_ofF]
      refine ⟨⟨j + 1, by omega, by go_num, ?_, BE2.out, GW2.out⟩, by simp [intOf] <;> omega⟩
      have h := KG2.out
      rw [List.set_set, HSET.out] at h
      exact h
    · obtain rfl : n = j := by omega
      have HE := Lib.hid (show partL (clrL r b times) r n = clrL r b times by rw [HN.out]; exact partL_end HTL.out)
      rw [HE.out] at KG
      go_wp2_with fail
      refine bodyPost_end (results_none rfl _ _ _) rfl ?_
      exact ⟨rfl, KG.out, BEL.out, GW.out⟩
end Go.Proofs.Ytknjcdlknnfhaaa
