/- How lists lie in memory: numbers in a slice. -/
import Derived.Test.YtljpangeodgbkaaDoorFieldW
import Derived.Test.YtljpangeodgbkaaDoorTail
namespace Go.Proofs.YtljpangeodgbkaaDoor
open Go.RowKit Croft

theorem add_addr (b o j : Nat) : (⟨b, o, none⟩ : Addr).add j = ⟨b, o + j, none⟩ := by unfold Addr.add; split <;> simp_all
/-- a contract that leaves the world alone, met in a region that draws -/
theorem quietL {P : Program} {f : FuncId} {args : Array Value} {w : World} {n : Nat} {v : Value} (h : Calls P f args (w.drewN n) fun e w' => e = .returned v ∧ w.drewN n = w') :
    Calls P f args (w.drewN n) fun e w'' => e = .returned v ∧ ∃ m, w'' = w.drewN m := h.mono fun _ _ ⟨he, hm⟩ => ⟨he, n, hm.symm⟩
/-- cells from an address on -/
def Cells (w : World) (A : Option Addr) (cs : List Value) : Prop :=
  cs = [] ∨ ∃ b o, A = some ⟨b, o, none⟩ ∧ b < w.heap.size ∧ ∀ j, j < cs.length → w.cell? ⟨b, o + j, none⟩ = cs[j]?
theorem Cells.nil (w : World) (A : Option Addr) : Cells w A [] := .inl rfl
theorem Cells.at_ {w : World} {A : Option Addr} {cs : List Value} (h : Cells w A cs) {j : Nat} (hj : j < cs.length) :
    ∃ b o, A = some ⟨b, o, none⟩ ∧ b < w.heap.size ∧ ∀ j, j < cs.length → w.cell? ⟨b, o + j, none⟩ = cs[j]? := by
  rcases h with rfl | h
  · simp at hj
  · exact h
theorem Cells.keep {w w' : World} {A : Option Addr} {cs : List Value} (h : Cells w A cs) (hk : ∀ b o, b < w.heap.size → w'.cell? ⟨b, o, none⟩ = w.cell? ⟨b, o, none⟩) (hs : w.heap.size ≤ w'.heap.size) : Cells w' A cs := by
  rcases h with rfl | ⟨b, o, rfl, hb, hc⟩
  · exact .inl rfl
  · exact .inr ⟨b, o, rfl, by omega, fun j hj => (hk b _ hb).trans (hc j hj)⟩
theorem Cells.below {w w' : World} {A : Option Addr} {cs : List Value} (h : Cells w A cs) (hb : Below w.heap.size w w') : Cells w' A cs :=
  h.keep (fun b o hbb => hb.cell (p := ⟨b, o, none⟩) hbb) hb.size
theorem Cells.drewN {w : World} {A : Option Addr} {cs : List Value} (h : Cells w A cs) (n : Nat) : Cells (w.drewN n) A cs := h
theorem Cells.drewn {w wr : World} {A : Option Addr} {cs : List Value} {n : Nat} (h : Cells w A cs) (hw : wr = w.drewN n) : Cells wr A cs := by subst hw; exact h
theorem Cells.of_own {w : World} {base : Nat} {e : TypeId} {size n c : Nat} {A : Option Addr} {xs : List Value} (h : w.ownsRow base e size (.slice A n c) n xs) : Cells w A xs := by
  rcases h.2 with ⟨hv, h0⟩ | ⟨g, cap, cur, hv, hb, hg, hn, hc, hs, ht⟩
  · subst h0
    have := h.1
    exact .inl (List.eq_nil_of_length_eq_zero (by simpa using this))
  · have hA : A = some ⟨g, 0, none⟩ := by injection hv
    subst hA
    refine .inr ⟨g, 0, rfl, (Array.getElem?_eq_some_iff.1 hg).1, fun j hj => ?_⟩
    have hu : xs[j]? = some xs[j] := List.getElem?_eq_getElem hj
    rw [hu, ← add_addr]
    exact h.cells (g := g) rfl j _ hu

def u64s (zs : List Int) : List Value := zs.map (Value.int .u64)
theorem u64s_length (zs : List Int) : (u64s zs).length = zs.length := by simp [u64s]
theorem u64s_get (zs : List Int) (j : Nat) : (u64s zs)[j]? = (zs[j]?).map (Value.int .u64) := by simp [u64s]
theorem u64s_one (zs : List Int) : ∀ u ∈ u64s zs, u.oneCell' = true := by
  intro u hu
  obtain ⟨z, _, rfl⟩ := List.mem_map.1 hu
  rfl
/-- a slice value that holds these numbers -/
def IsNums (w : World) (v : Value) (zs : List Int) : Prop :=
  ∃ A cap, v = .slice A zs.length cap ∧ zs.length ≤ cap ∧ cap ≤ maxLen ∧ zs.length ≤ 17592186043904 ∧ (∀ z ∈ zs, U64 z) ∧ Cells w A (u64s zs)
theorem IsNums.below {w w' : World} {v : Value} {zs : List Int} (h : IsNums w v zs) (hb : Below w.heap.size w w') : IsNums w' v zs := by
  obtain ⟨A, cap, h1, h2, h3, h4, h5, h6⟩ := h
  exact ⟨A, cap, h1, h2, h3, h4, h5, h6.below hb⟩
theorem IsNums.drewN {w : World} {v : Value} {zs : List Int} (h : IsNums w v zs) (n : Nat) : IsNums (w.drewN n) v zs := h
theorem below_drewN {B : Nat} {a w : World} (h : Below B a w) (n : Nat) : Below B a (w.drewN n) := ⟨h.os, h.tape, h.output, h.size, h.block⟩
theorem IsNums.drewn {w wr : World} {v : Value} {zs : List Int} {n : Nat} (h : IsNums w v zs) (hw : wr = w.drewN n) : IsNums wr v zs := by subst hw; exact h
theorem drewn_more {w wr : World} {n : Nat} (hw : wr = w.drewN n) (m : Nat) : wr.drewN m = w.drewN (n + m) := by subst hw; rw [World.drewN_drewN]
theorem IsNums.alloc {w : World} {v : Value} {zs : List Int} (h : IsNums w v zs) (o : Obj) : IsNums (w.alloc o) v zs :=
  h.below ((Below.refl _ _).alloc (Nat.le_refl _) o)
theorem IsNums.u64 {w : World} {v : Value} {zs : List Int} (h : IsNums w v zs) : ∀ z ∈ zs, U64 z := by
  obtain ⟨A, cap, h1, h2, h3, h4, h5, h6⟩ := h
  exact h5
theorem IsNums.nil (w : World) : IsNums w (.slice none 0 0) [] := ⟨none, 0, rfl, Nat.le_refl _, by simp [maxLen], by simp, by simp, .inl rfl⟩
/-- a number of the list, and its cell -/
theorem nums_at {w : World} {A : Option Addr} {zs : List Int} (h : Cells w A (u64s zs)) (h5 : ∀ z ∈ zs, U64 z) {k : Nat} (hk : k < zs.length) :
    ∃ b o z, A = some ⟨b, o, none⟩ ∧ b < w.heap.size ∧ zs[k]? = some z ∧ U64 z ∧ w.cell? ⟨b, o + k, none⟩ = some (.int .u64 z) := by
  obtain ⟨b, o, rfl, hb, hc⟩ := h.at_ (j := k) (by rw [u64s_length]; exact hk)
  refine ⟨b, o, zs[k], rfl, hb, List.getElem?_eq_getElem hk, h5 _ (List.getElem_mem hk), ?_⟩
  rw [hc k (by rw [u64s_length]; exact hk), u64s_get, List.getElem?_eq_getElem hk]
  rfl
/-- what a call has built -/
def OwnNums (w : World) (base : Nat) (v : Value) (zs : List Int) : Prop :=
  w.ownsRow base 46 1 v zs.length (u64s zs) ∧ zs.length ≤ 17592186043904 ∧ (∀ z ∈ zs, U64 z)
theorem own_form {w : World} {base : Nat} {e : TypeId} {size n : Nat} {v : Value} {xs : List Value} (h : w.ownsRow base e size v n xs) : ∃ A cap, v = .slice A n cap ∧ n ≤ cap ∧ cap ≤ maxLen := by
  rcases h.2 with ⟨rfl, rfl⟩ | ⟨g, cap, cur, rfl, hb, hg, hn, hc, hs, ht⟩
  · exact ⟨none, 0, rfl, Nat.le_refl _, by simp [maxLen]⟩
  · exact ⟨_, _, rfl, hn, hc⟩
theorem OwnNums.is {w : World} {base : Nat} {v : Value} {zs : List Int} (h : OwnNums w base v zs) : IsNums w v zs := by
  obtain ⟨h1, h2, h3⟩ := h
  obtain ⟨A, cap, rfl, h4, h5⟩ := own_form h1
  exact ⟨A, cap, rfl, h4, h5, h2, h3, Cells.of_own h1⟩
theorem ofF_u64s (l : List F) : ∀ z ∈ l.map ofF, U64 z := by
  intro z hz
  obtain ⟨a, _, rfl⟩ := List.mem_map.1 hz
  exact U64.of_ofF a
theorem uinfo : (Tryd.prog.info? 46).map (fun i => (i.zero, i.size, i.bytes)) = some (some (.int .u64 0), 1, 8) := by kernel_rfl

theorem below_trans {B : Nat} {a b c : World} (h : Below B a b) (k : Below b.heap.size b c) (hB : B ≤ b.heap.size) : Below B a c := h.trans (k.mono hB)
theorem OwnNums.nil (w : World) (base : Nat) : OwnNums w base (.slice none 0 0) [] := ⟨World.ownsRow_nil _ _ _ _, by simp, by simp⟩
theorem OwnNums.alloc {w : World} {base : Nat} {v : Value} {zs : List Int} (h : OwnNums w base v zs) (o : Obj) : OwnNums (w.alloc o) base v zs := ⟨h.1.alloc o, h.2⟩
theorem OwnNums.drewN {w : World} {base : Nat} {v : Value} {zs : List Int} (h : OwnNums w base v zs) (n : Nat) : OwnNums (w.drewN n) base v zs := h
theorem OwnNums.drewn {w wr : World} {base : Nat} {v : Value} {zs : List Int} {n : Nat} (h : OwnNums w base v zs) (hw : wr = w.drewN n) : OwnNums wr base v zs := by subst hw; exact h
theorem below_drewn {w wr : World} {B n : Nat} (hw : wr = w.drewN n) : Below B w wr := by subst hw; exact below_drewN (Below.refl _ _) n
theorem own_kept {w w' : World} {base : Nat} {e : TypeId} {size n : Nat} {v : Value} {xs : List Value} (h : w.ownsRow base e size v n xs) (hb : Below w.heap.size w w') : w'.ownsRow base e size v n xs := by
  refine h.kept (row := none) ⟨hb.os, hb.tape, hb.output, hb.size, fun k hk _ => hb.block k hk⟩ ?_
  cases hv : v.ownBlock <;> simp
theorem OwnNums.below {w w' : World} {base : Nat} {v : Value} {zs : List Int} (h : OwnNums w base v zs) (hb : Below w.heap.size w w') : OwnNums w' base v zs := ⟨own_kept h.1 hb, h.2⟩
theorem OwnNums.less {w : World} {base base' : Nat} {v : Value} {zs : List Int} (h : OwnNums w base v zs) (hb : base' ≤ base) : OwnNums w base' v zs := by
  refine ⟨⟨h.1.1, ?_⟩, h.2⟩
  rcases h.1.2 with h1 | ⟨g, cap, cur, hv, hg, r⟩
  · exact .inl h1
  · exact .inr ⟨g, cap, cur, hv, by omega, r⟩
theorem new_cell (w : World) (x : Value) (t : TypeId) : (w.alloc (.cells #[x] t)).cell? ⟨w.heap.size, 0, none⟩ = some x := by
  rw [cell_of_row _ _ 0 #[x] t (0, 0) (heap_alloc_new w _)]; rfl
/-- append of one number, to what the call has built -/
theorem wpList_push {ops : Array Oper} {rest : List Oper} {o : Oper} {a : Act} {Q : Exit → Act → World → Prop} {w : World} (hgd : o.guard = none) (s x : Operand)
    (ho : o.op = .call { callee := .builtin .append, args := #[s, x], argTypes := #[35, 35] })
    (base : Nat) (v : Value) (zs : List Int) (z : Int) (g c : Nat) (hs : a.eval s = v) (hown : OwnNums w base v zs) (hx : a.eval x = .slice (some ⟨g, 0, none⟩) 1 c)
    (hc : w.cell? ⟨g, 0, none⟩ = some (.int .u64 z)) (hz : U64 z) (hl : zs.length + 1 ≤ 17592186043904) (hb : base ≤ w.heap.size)
    (h : ∀ v' w', OwnNums w' base v' (zs ++ [z]) → Below base w w' → wpList Tryd.prog ops Q rest (a.put o.dst v') w') : wpList Tryd.prog ops Q (o :: rest) a w := by
  obtain ⟨i0, hi, hz0, hz1, hz2⟩ := info_parts uinfo
  refine wpList_append_own w hgd s x 35 ho base 46 i0 (.int .u64 0) 1 8 Tryd.underlying35 hi hz0 hz1 hz2 rfl (by decide) v zs.length (u64s zs) hs hown.1 ⟨g, 0, none⟩ 1 c [.int .u64 z] hx rfl ?_ ?_ ?_ ?_ hb ?_
  · intro j u hu
    match j, hu with
    | 0, hu =>
      simp at hu
      subst hu
      rw [add_addr]; exact hc
  · intro u hu
    simp at hu
    subst hu; rfl
  · unfold maxLen; omega
  · omega
  · intro v' w' h1 h2 _
    refine h v' w' ⟨?_, ?_, ?_⟩ ((Below.refl _ _).grown h2 hb (fun k hk => (hown.1.lt k hk).1))
    · have e : (zs ++ [z]).length = zs.length + 1 := by simp
      have e2 : u64s (zs ++ [z]) = u64s zs ++ [.int .u64 z] := by simp [u64s]
      rw [e, e2]; exact h1
    · simpa using hl
    · intro y hy
      rcases List.mem_append.1 hy with h3 | h3
      · exact hown.2.2 y h3
      · simp at h3; subst h3; exact hz
section
variable {w : World} {base g n c : Nat} {zs : List Int}
theorem OwnNums.len (h : OwnNums w base (.slice (some ⟨g, 0, none⟩) n c) zs) : n = zs.length := by
  rcases h.1.2 with ⟨hv, _⟩ | ⟨g', cap, cur, hv, _⟩
  · simp at hv
  · injection hv
theorem OwnNums.cell (h : OwnNums w base (.slice (some ⟨g, 0, none⟩) n c) zs) {j : Nat} {z : Int} (hj : zs[j]? = some z) : w.cell? ⟨g, j, none⟩ = some (.int .u64 z) := by
  have hn := h.len
  subst hn
  obtain ⟨hlt, hz⟩ := List.getElem?_eq_some_iff.1 hj
  rw [h.1.cellAt j (by omega), u64s_get, hj]; rfl
theorem OwnNums.frozen (h : OwnNums w base (.slice (some ⟨g, 0, none⟩) n c) zs) (j : Nat) : w.frozen? ⟨g, j, none⟩ = false := by
  have hn := h.len
  subst hn
  exact h.1.frozenAt j
theorem OwnNums.base_le (h : OwnNums w base (.slice (some ⟨g, 0, none⟩) n c) zs) : base ≤ g ∧ g < w.heap.size := h.1.lt g rfl
theorem OwnNums.set_ (h : OwnNums w base (.slice (some ⟨g, 0, none⟩) n c) zs) (j : Nat) {x : Int} (hx : U64 x) : OwnNums (w.setCell ⟨g, j, none⟩ (.int .u64 x)) base (.slice (some ⟨g, 0, none⟩) n c) (zs.set j x) := by
  have hn := h.len
  subst hn
  refine ⟨?_, by simpa using h.2.1, ?_⟩
  · have h1 := (h.1.stored j (.int .u64 x)).1
    have e : u64s (zs.set j x) = (u64s zs).set j (.int .u64 x) := by simp [u64s, List.map_set]
    rw [List.length_set, e]; exact h1
  · intro y hy
    rcases List.mem_or_eq_of_mem_set hy with h1 | h1
    · exact h.2.2 y h1
    · subst h1; exact hx
end
theorem u64_zero : U64 0 := ⟨by omega, by omega⟩
/-- make([]uint64, m) -/
theorem wpList_make_nums {ops : Array Oper} {rest : List Oper} {o : Oper} {a : Act} {Q : Exit → Act → World → Prop} {w : World} (hgd : o.guard = none) (l c : Operand)
    (ho : o.op = Op.makeSlice 35 l c) (base : Nat) (L : Int) (m : Nat) (hl : a.eval l = .int .i64 L) (hc : a.eval c = .int .i64 L) (hL : L = (m : Int)) (hm : m ≤ 17592186043904) (hb : base ≤ w.heap.size)
    (h : ∀ w', OwnNums w' base (.slice (some ⟨w.heap.size, 0, none⟩) m m) (List.replicate m 0) → Below base w w' → wpList Tryd.prog ops Q rest (a.put o.dst (.slice (some ⟨w.heap.size, 0, none⟩) m m)) w') : wpList Tryd.prog ops Q (o :: rest) a w := by
  obtain ⟨i0, hi, hz0, hz1, hz2⟩ := info_parts uinfo
  refine wpList_make_full w hgd l c 35 ho base 46 i0 (.int .u64 0) 1 Tryd.underlying35 hi hz0 hz1 .i64 .i64 L L m hl hc hL hL (by rw [hz2]; omega) (by unfold maxLen; omega) hb ?_
  intro w' h1 h2
  refine h w' ⟨?_, by simpa using hm, ?_⟩ ((Below.refl _ _).grown h2 hb (fun k hk => by cases hk))
  · have e : (madeCells (Value.cells (.int .u64 0)) (m * 1)).toList = u64s (List.replicate m 0) := by
      apply List.ext_getElem
      · simp [madeCells, u64s]
      · intro j h1 h2
        simp [madeCells, Value.cells, u64s, Nat.mod_one]
    rw [List.length_replicate, ← e]
    exact h1
  · intro y hy
    rw [List.eq_of_mem_replicate hy]; exact u64_zero
theorem take_succ_eq {xs ys : List Int} {k : Nat} {x y : Int} (hx : xs[k]? = some x) (hy : ys[k]? = some y) (h : xs.take k = ys.take k) : (xs.take (k + 1) = ys.take (k + 1)) ↔ x = y := by
  rw [List.take_add_one, List.take_add_one, hx, hy, h]
  simp
theorem equal_any (v1 v2 : Value) (xs ys : List Int) (w : World) (h1 : IsNums w v1 xs) (h2 : IsNums w v2 ys) :
    Calls Tryd.prog 16 #[v1, v2] w fun e w' => e = .returned (.bool (decide (xs = ys))) ∧ ∃ n, w' = w.drewN n := by
  obtain ⟨A1, c1, rfl, hc1, hm1, hl1, hu1, hr1⟩ := h1
  obtain ⟨A2, c2, rfl, hc2, hm2, hl2, hu2, hr2⟩ := h2
  by_cases hlen : xs.length = ys.length
  · have hbn : ((xs.length : Int) != (ys.length : Int)) = false := by rw [bne_eq_false_iff_eq]; omega
    have HL := Lib.hid hlen
    have hle : ys.length ≤ xs.length := by omega
    have hle2 : xs.length ≤ ys.length := by omega
    clear hlen
    go_enter Tryd.func16, Tryd.ntmps16
    go_wp2_with fail
    go_loopw [13] (fun i wr => ∃ k n : Nat, k ≤ xs.length ∧ i = .int .i64 k ∧ wr = w.drewN n ∧ xs.take k = ys.take k) (fun i _ => xs.length - (intOf i).toNat)
    case atStart => exact ⟨0, 0, Nat.zero_le _, rfl, rfl, rfl⟩
    case round =>
      obtain ⟨k, n, hk, rfl, rfl, ht⟩ := hrel
      have HT := Lib.hid ht
      clear ht
      by_cases hlt : k < xs.length
      · have hlt2 : k < ys.length := by omega
        obtain ⟨b1, o1, x, rfl, hb1, hx, hux, hcx⟩ := nums_at hr1 hu1 hlt
        obtain ⟨b2, o2, y, rfl, hb2, hy, huy, hcy⟩ := nums_at hr2 hu2 hlt2
        have HX := Lib.hid hx
        have HY := Lib.hid hy
        clear hx hy hr1 hr2 hb1 hb2
        by_cases hxy : x = y
        · subst hxy
          go_wp2_with fail
          go_quiet (fail)
          go_wp2_with fail
          refine ⟨⟨k + 1, _, by omega, by go_num, rfl, (take_succ_eq HX.out HY.out HT.out).2 rfl⟩, by simp [intOf]; omega⟩
        · have hne : (x != y) = true := by rw [bne_iff_ne]; exact hxy
          have HN := Lib.hid hxy
          clear hxy
          go_wp2_with fail
          go_quiet (fail)
          go_wp2_with fail
          go_ret
          refine ⟨?_, n + nq, by rw [World.drewN_drewN]⟩
          have : xs ≠ ys := fun he => HN.out ((take_succ_eq HX.out HY.out HT.out).1 (by rw [he]))
          rw [decide_eq_false this]; rfl
      · go_wp2_with fail
        go_ret
        refine ⟨?_, _, rfl⟩
        have : xs = ys := by
          have h := HT.out
          rwa [List.take_of_length_le (by omega), List.take_of_length_le (by omega)] at h
        rw [decide_eq_true this]; rfl
  · have hbn : ((xs.length : Int) != (ys.length : Int)) = true := by rw [bne_iff_ne]; omega
    have HN := Lib.hid hlen
    clear hlen
    go_enter Tryd.func16, Tryd.ntmps16
    go_wp2_with fail
    go_ret
    refine ⟨?_, 0, rfl⟩
    have : xs ≠ ys := fun he => HN.out (by rw [he])
    rw [decide_eq_false this]; rfl
end Go.Proofs.YtljpangeodgbkaaDoor
