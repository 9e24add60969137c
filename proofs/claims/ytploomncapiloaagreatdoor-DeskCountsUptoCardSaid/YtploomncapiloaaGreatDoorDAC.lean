/- Parts of the proof, put together by a program: Lists PolyW PolyV. No condition. -/
import Derived.Test.YtploomncapiloaaGreatDoorDAB
namespace Go.Proofs.YtploomncapiloaaGreatDoor
open Go.RowKit Croft
theorem add_addr (b o j : Nat) : (⟨b, o, none⟩ : Addr).add j = ⟨b, o + j, none⟩ := by unfold Addr.add; split <;> simp_all
theorem quietL {P : Program} {f : FuncId} {args : Array Value} {w : World} {n : Nat} {v : Value} (h : Calls P f args (w.drewN n) fun e w' => e = .returned v ∧ w.drewN n = w') :
    Calls P f args (w.drewN n) fun e w'' => e = .returned v ∧ ∃ m, w'' = w.drewN m := h.mono fun _ _ ⟨he, hm⟩ => ⟨he, n, hm.symm⟩
def Cells (w : World) (A : Option Addr) (cs : List Value) : Prop :=
  cs = [] ∨ ∃ b o, A = some ⟨b, o, none⟩ ∧ b < w.heap.size ∧ ∀ j, j < cs.length → w.cell? ⟨b, o + j, none⟩ = cs[j]?
theorem Cells.at_ {w : World} {A : Option Addr} {cs : List Value} (h : Cells w A cs) {j : Nat} (hj : j < cs.length) :
    ∃ b o, A = some ⟨b, o, none⟩ ∧ b < w.heap.size ∧ ∀ j, j < cs.length → w.cell? ⟨b, o + j, none⟩ = cs[j]? := by
  rcases h with rfl | h
  · simp at hj
  · exact h
theorem Cells.keep {w w' : World} {A : Option Addr} {cs : List Value} (h : Cells w A cs) (hk : ∀ b o, b < w.heap.size → w'.cell? ⟨b, o, none⟩ = w.cell? ⟨b, o, none⟩) (hs : w.heap.size ≤ w'.heap.size) : Cells w' A cs := by
  rcases h with rfl | ⟨b, o, rfl, hb, hc⟩
  · exact .inl rfl
  · exact .inr ⟨b, o, rfl, by omega, fun j hj => (hk b _ hb).trans (hc j hj)⟩
theorem Cells.below {w w' : World} {A : Option Addr} {cs : List Value} (h : Cells w A cs) (hb : Below w.heap.size w w') : Cells w' A cs :=
  h.keep (fun b o hbb => hb.cell (p := ⟨b, o, none⟩) hbb) hb.size
theorem Cells.drewn {w wr : World} {A : Option Addr} {cs : List Value} {n : Nat} (h : Cells w A cs) (hw : wr = w.drewN n) : Cells wr A cs := by subst hw; exact h
theorem Cells.of_own {w : World} {base : Nat} {e : TypeId} {size n c : Nat} {A : Option Addr} {xs : List Value} (h : w.ownsRow base e size (.slice A n c) n xs) : Cells w A xs := by
  rcases h.2 with ⟨hv, h0⟩ | ⟨g, cap, cur, hv, hb, hg, hn, hc, hs, ht⟩
  · subst h0
    have := h.1
    exact .inl (List.eq_nil_of_length_eq_zero (by simpa using this))
  · have hA : A = some ⟨g, 0, none⟩ := by injection hv
    subst hA
    refine .inr ⟨g, 0, rfl, (Array.getElem?_eq_some_iff.1 hg).1, fun j hj => ?_⟩
    have hu : xs[j]? = some xs[j] := List.getElem?_eq_getElem hj
    rw [hu, ← add_addr]
    exact h.cells (g := g) rfl j _ hu
def u64s (zs : List Int) : List Value := zs.map (Value.int .u64)
theorem u64s_length (zs : List Int) : (u64s zs).length = zs.length := by simp [u64s]
theorem u64s_get (zs : List Int) (j : Nat) : (u64s zs)[j]? = (zs[j]?).map (Value.int .u64) := by simp [u64s]
theorem u64s_one (zs : List Int) : ∀ u ∈ u64s zs, u.oneCell' = true := by
  intro u hu
  obtain ⟨z, _, rfl⟩ := List.mem_map.1 hu
  rfl
def IsNums (w : World) (v : Value) (zs : List Int) : Prop :=
  ∃ A cap, v = .slice A zs.length cap ∧ zs.length ≤ cap ∧ cap ≤ maxLen ∧ zs.length ≤ 17592186043904 ∧ (∀ z ∈ zs, U64 z) ∧ Cells w A (u64s zs)
theorem IsNums.below {w w' : World} {v : Value} {zs : List Int} (h : IsNums w v zs) (hb : Below w.heap.size w w') : IsNums w' v zs := by
  obtain ⟨A, cap, h1, h2, h3, h4, h5, h6⟩ := h
  exact ⟨A, cap, h1, h2, h3, h4, h5, h6.below hb⟩
theorem IsNums.drewN {w : World} {v : Value} {zs : List Int} (h : IsNums w v zs) (n : Nat) : IsNums (w.drewN n) v zs := h
theorem below_drewN {B : Nat} {a w : World} (h : Below B a w) (n : Nat) : Below B a (w.drewN n) := ⟨h.os, h.tape, h.output, h.size, h.block⟩
theorem drewn_more {w wr : World} {n : Nat} (hw : wr = w.drewN n) (m : Nat) : wr.drewN m = w.drewN (n + m) := by subst hw; rw [World.drewN_drewN]
theorem IsNums.alloc {w : World} {v : Value} {zs : List Int} (h : IsNums w v zs) (o : Obj) : IsNums (w.alloc o) v zs :=
  h.below ((Below.refl _ _).alloc (Nat.le_refl _) o)
theorem IsNums.u64 {w : World} {v : Value} {zs : List Int} (h : IsNums w v zs) : ∀ z ∈ zs, U64 z := by
  obtain ⟨A, cap, h1, h2, h3, h4, h5, h6⟩ := h
  exact h5
theorem nums_at {w : World} {A : Option Addr} {zs : List Int} (h : Cells w A (u64s zs)) (h5 : ∀ z ∈ zs, U64 z) {k : Nat} (hk : k < zs.length) :
    ∃ b o z, A = some ⟨b, o, none⟩ ∧ b < w.heap.size ∧ zs[k]? = some z ∧ U64 z ∧ w.cell? ⟨b, o + k, none⟩ = some (.int .u64 z) := by
  obtain ⟨b, o, rfl, hb, hc⟩ := h.at_ (j := k) (by rw [u64s_length]; exact hk)
  refine ⟨b, o, zs[k], rfl, hb, List.getElem?_eq_getElem hk, h5 _ (List.getElem_mem hk), ?_⟩
  rw [hc k (by rw [u64s_length]; exact hk), u64s_get, List.getElem?_eq_getElem hk]
  rfl
def OwnNums (w : World) (base : Nat) (v : Value) (zs : List Int) : Prop :=
  w.ownsRow base 67 1 v zs.length (u64s zs) ∧ zs.length ≤ 17592186043904 ∧ (∀ z ∈ zs, U64 z)
theorem own_form {w : World} {base : Nat} {e : TypeId} {size n : Nat} {v : Value} {xs : List Value} (h : w.ownsRow base e size v n xs) : ∃ A cap, v = .slice A n cap ∧ n ≤ cap ∧ cap ≤ maxLen := by
  rcases h.2 with ⟨rfl, rfl⟩ | ⟨g, cap, cur, rfl, hb, hg, hn, hc, hs, ht⟩
  · exact ⟨none, 0, rfl, Nat.le_refl _, by simp [maxLen]⟩
  · exact ⟨_, _, rfl, hn, hc⟩
theorem OwnNums.is {w : World} {base : Nat} {v : Value} {zs : List Int} (h : OwnNums w base v zs) : IsNums w v zs := by
  obtain ⟨h1, h2, h3⟩ := h
  obtain ⟨A, cap, rfl, h4, h5⟩ := own_form h1
  exact ⟨A, cap, rfl, h4, h5, h2, h3, Cells.of_own h1⟩
theorem ofF_u64s (l : List F) : ∀ z ∈ l.map ofF, U64 z := by
  intro z hz
  obtain ⟨a, _, rfl⟩ := List.mem_map.1 hz
  exact U64.of_ofF a
theorem uinfo : (Tryz.prog.info? 67).map (fun i => (i.zero, i.size, i.bytes)) = some (some (.int .u64 0), 1, 8) := by kernel_rfl
theorem below_trans {B : Nat} {a b c : World} (h : Below B a b) (k : Below b.heap.size b c) (hB : B ≤ b.heap.size) : Below B a c := h.trans (k.mono hB)
theorem OwnNums.nil (w : World) (base : Nat) : OwnNums w base (.slice none 0 0) [] := ⟨World.ownsRow_nil _ _ _ _, by simp, by simp⟩
theorem OwnNums.alloc {w : World} {base : Nat} {v : Value} {zs : List Int} (h : OwnNums w base v zs) (o : Obj) : OwnNums (w.alloc o) base v zs := ⟨h.1.alloc o, h.2⟩
theorem OwnNums.drewN {w : World} {base : Nat} {v : Value} {zs : List Int} (h : OwnNums w base v zs) (n : Nat) : OwnNums (w.drewN n) base v zs := h
theorem OwnNums.drewn {w wr : World} {base : Nat} {v : Value} {zs : List Int} {n : Nat} (h : OwnNums w base v zs) (hw : wr = w.drewN n) : OwnNums wr base v zs := by subst hw; exact h
theorem below_drewn {w wr : World} {B n : Nat} (hw : wr = w.drewN n) : Below B w wr := by subst hw; exact below_drewN (Below.refl _ _) n
theorem own_kept {w w' : World} {base : Nat} {e : TypeId} {size n : Nat} {v : Value} {xs : List Value} (h : w.ownsRow base e size v n xs) (hb : Below w.heap.size w w') : w'.ownsRow base e size v n xs := by
  refine h.kept (row := none) ⟨hb.os, hb.tape, hb.output, hb.size, fun k hk _ => hb.block k hk⟩ ?_
  cases hv : v.ownBlock <;> simp
theorem OwnNums.below {w w' : World} {base : Nat} {v : Value} {zs : List Int} (h : OwnNums w base v zs) (hb : Below w.heap.size w w') : OwnNums w' base v zs := ⟨own_kept h.1 hb, h.2⟩
theorem OwnNums.less {w : World} {base base' : Nat} {v : Value} {zs : List Int} (h : OwnNums w base v zs) (hb : base' ≤ base) : OwnNums w base' v zs := by
  refine ⟨⟨h.1.1, ?_⟩, h.2⟩
  rcases h.1.2 with h1 | ⟨g, cap, cur, hv, hg, r⟩
  · exact .inl h1
  · exact .inr ⟨g, cap, cur, hv, by omega, r⟩
theorem new_cell (w : World) (x : Value) (t : TypeId) : (w.alloc (.cells #[x] t)).cell? ⟨w.heap.size, 0, none⟩ = some x := by
  rw [cell_of_row _ _ 0 #[x] t (0, 0) (heap_alloc_new w _)]; rfl
theorem wpList_push {ops : Array Oper} {rest : List Oper} {o : Oper} {a : Act} {Q : Exit → Act → World → Prop} {w : World} (hgd : o.guard = none) (s x : Operand)
    (ho : o.op = .call { callee := .builtin .append, args := #[s, x], argTypes := #[64, 64] })
    (base : Nat) (v : Value) (zs : List Int) (z : Int) (g c : Nat) (hs : a.eval s = v) (hown : OwnNums w base v zs) (hx : a.eval x = .slice (some ⟨g, 0, none⟩) 1 c)
    (hc : w.cell? ⟨g, 0, none⟩ = some (.int .u64 z)) (hz : U64 z) (hl : zs.length + 1 ≤ 17592186043904) (hb : base ≤ w.heap.size)
    (h : ∀ v' w', OwnNums w' base v' (zs ++ [z]) → Below base w w' → wpList Tryz.prog ops Q rest (a.put o.dst v') w') : wpList Tryz.prog ops Q (o :: rest) a w := by
  obtain ⟨i0, hi, hz0, hz1, hz2⟩ := info_parts uinfo
  refine wpList_append_own w hgd s x 64 ho base 67 i0 (.int .u64 0) 1 8 Tryz.underlying64 hi hz0 hz1 hz2 rfl (by decide) v zs.length (u64s zs) hs hown.1 ⟨g, 0, none⟩ 1 c [.int .u64 z] hx rfl ?_ ?_ ?_ ?_ hb ?_
  · intro j u hu
    match j, hu with
    | 0, hu =>
      simp at hu
      subst hu
      rw [add_addr]; exact hc
  · intro u hu
    simp at hu
    subst hu; rfl
  · unfold maxLen; omega
  · omega
  · intro v' w' h1 h2 _
    refine h v' w' ⟨?_, ?_, ?_⟩ ((Below.refl _ _).grown h2 hb (fun k hk => (hown.1.lt k hk).1))
    · have e : (zs ++ [z]).length = zs.length + 1 := by simp
      have e2 : u64s (zs ++ [z]) = u64s zs ++ [.int .u64 z] := by simp [u64s]
      rw [e, e2]; exact h1
    · simpa using hl
    · intro y hy
      rcases List.mem_append.1 hy with h3 | h3
      · exact hown.2.2 y h3
      · simp at h3; subst h3; exact hz
section
variable {w : World} {base g n c : Nat} {zs : List Int}
theorem OwnNums.len (h : OwnNums w base (.slice (some ⟨g, 0, none⟩) n c) zs) : n = zs.length := by
  rcases h.1.2 with ⟨hv, _⟩ | ⟨g', cap, cur, hv, _⟩
  · simp at hv
  · injection hv
theorem OwnNums.cell (h : OwnNums w base (.slice (some ⟨g, 0, none⟩) n c) zs) {j : Nat} {z : Int} (hj : zs[j]? = some z) : w.cell? ⟨g, j, none⟩ = some (.int .u64 z) := by
  have hn := h.len
  subst hn
  obtain ⟨hlt, hz⟩ := List.getElem?_eq_some_iff.1 hj
  rw [h.1.cellAt j (by omega), u64s_get, hj]; rfl
theorem OwnNums.frozen (h : OwnNums w base (.slice (some ⟨g, 0, none⟩) n c) zs) (j : Nat) : w.frozen? ⟨g, j, none⟩ = false := by
  have hn := h.len
  subst hn
  exact h.1.frozenAt j
theorem OwnNums.base_le (h : OwnNums w base (.slice (some ⟨g, 0, none⟩) n c) zs) : base ≤ g ∧ g < w.heap.size := h.1.lt g rfl
theorem OwnNums.set_ (h : OwnNums w base (.slice (some ⟨g, 0, none⟩) n c) zs) (j : Nat) {x : Int} (hx : U64 x) : OwnNums (w.setCell ⟨g, j, none⟩ (.int .u64 x)) base (.slice (some ⟨g, 0, none⟩) n c) (zs.set j x) := by
  have hn := h.len
  subst hn
  refine ⟨?_, by simpa using h.2.1, ?_⟩
  · have h1 := (h.1.stored j (.int .u64 x)).1
    have e : u64s (zs.set j x) = (u64s zs).set j (.int .u64 x) := by simp [u64s, List.map_set]
    rw [List.length_set, e]; exact h1
  · intro y hy
    rcases List.mem_or_eq_of_mem_set hy with h1 | h1
    · exact h.2.2 y h1
    · subst h1; exact hx
end
theorem u64_zero : U64 0 := ⟨by omega, by omega⟩
theorem wpList_make_nums {ops : Array Oper} {rest : List Oper} {o : Oper} {a : Act} {Q : Exit → Act → World → Prop} {w : World} (hgd : o.guard = none) (l c : Operand)
    (ho : o.op = Op.makeSlice 64 l c) (base : Nat) (L : Int) (m : Nat) (hl : a.eval l = .int .i64 L) (hc : a.eval c = .int .i64 L) (hL : L = (m : Int)) (hm : m ≤ 17592186043904) (hb : base ≤ w.heap.size)
    (h : ∀ w', OwnNums w' base (.slice (some ⟨w.heap.size, 0, none⟩) m m) (List.replicate m 0) → Below base w w' → wpList Tryz.prog ops Q rest (a.put o.dst (.slice (some ⟨w.heap.size, 0, none⟩) m m)) w') : wpList Tryz.prog ops Q (o :: rest) a w := by
  obtain ⟨i0, hi, hz0, hz1, hz2⟩ := info_parts uinfo
  refine wpList_make_full w hgd l c 64 ho base 67 i0 (.int .u64 0) 1 Tryz.underlying64 hi hz0 hz1 .i64 .i64 L L m hl hc hL hL (by rw [hz2]; omega) (by unfold maxLen; omega) hb ?_
  intro w' h1 h2
  refine h w' ⟨?_, by simpa using hm, ?_⟩ ((Below.refl _ _).grown h2 hb (fun k hk => by cases hk))
  · have e : (madeCells (Value.cells (.int .u64 0)) (m * 1)).toList = u64s (List.replicate m 0) := by
      apply List.ext_getElem
      · simp [madeCells, u64s]
      · intro j h1 h2
        simp [madeCells, Value.cells, u64s, Nat.mod_one]
    rw [List.length_replicate, ← e]
    exact h1
  · intro y hy
    rw [List.eq_of_mem_replicate hy]; exact u64_zero
theorem peval_nil' (l : List F) (x : F) : ofF (peval (l.drop l.length) x) = 0 := by rw [List.drop_length]; rfl
theorem pAt_any (va : Value) (zs : List Int) (x : Int) (w : World) (h1 : IsNums w va zs) (hx : 0 ≤ x) :
    Calls Tryz.prog 110 #[va, .int .u64 x] w fun e w' => e = .returned (.int .u64 (ofF (peval (toFs zs) (toF x)))) ∧ ∃ n, w' = w.drewN n := by
  obtain ⟨A1, c1, rfl, hc1, hm1, hl1, hu1, hr1⟩ := h1
  go_enter Tryz.func110, Tryz.ntmps110
  go_wp2_with fail
  go_loopw [5, 6] (fun o i wr => ∃ (ii : Int) (n : Nat), -1 ≤ ii ∧ ii < zs.length ∧ i = .int .i64 ii ∧ o = .int .u64 (ofF (peval ((toFs zs).drop (ii + 1).toNat) (toF x))) ∧ wr = w.drewN n) (fun _ i _ => (intOf i + 1).toNat)
  case atStart =>
    refine ⟨(zs.length : Int) - 1, 0, by omega, by omega, rfl, ?_, rfl⟩
    rw [show ((zs.length : Int) - 1 + 1).toNat = zs.length by omega, ← toFs_length zs, peval_nil']
  case round =>
    obtain ⟨ii, n, hi1, hi2, rfl, rfl, hw⟩ := hrel
    have hr := hr1.drewn hw
    have HW := Lib.hid hw
    clear hw hr1
    by_cases h0 : 0 ≤ ii
    · obtain ⟨j, rfl⟩ := Int.eq_ofNat_of_zero_le h0
      have hlt : j < zs.length := by omega
      obtain ⟨b1, o1, z, rfl, hb1, hz, huz, hcz⟩ := nums_at hr hu1 hlt
      have HZ := Lib.hid hz
      have hz0 := huz.1
      have e1 : ((j : Int) + 1).toNat = j + 1 := by omega
      have HD := Lib.hid (peval_drop (toFs_get hz) (toF x))
      rw [e1]
      clear hz hr hb1 e1
      go_wp2_with fail
      go_quiet ((first | exact quietL (fMul_any _ _ _ (ofF_nonneg _) hx) | exact quietL (fAdd_any _ _ _ (ofF_nonneg _) hz0)))
      go_wp2_with fail
      simp only [toF_ofF]
      refine ⟨⟨(j : Int) - 1, _, by omega, by omega, by go_num, ?_, drewn_more HW.out _⟩, by simp [intOf] <;> omega⟩
      rw [show ((j : Int) - 1 + 1).toNat = j by omega, HD.out]
      congr 2; grind
    · go_wp2_with fail
      go_ret
      obtain rfl : ii = -1 := by omega
      exact ⟨rfl, n, HW.out⟩
theorem co_toFs {zs : List Int} {j : Nat} {z : Int} (h : zs[j]? = some z) : co (toFs zs) j = toF z := co_get (toFs_get h)
theorem ofF_ne {a : F} (h : a ≠ 0) : (ofF a != 0) = true := by rw [bne_iff_ne]; exact fun e => h (ofF_eq_zero.1 e)
theorem ofF_ne' {a : F} (h : a ≠ 0) : (ofF a == 0) = false := by rw [beq_eq_false_iff_ne]; exact fun e => h (ofF_eq_zero.1 e)
theorem ofFs_take {zs : List Int} {k : Nat} {z : Int} (h : zs[k]? = some z) : ofFs ((toFs zs).take (k + 1)) = ofFs ((toFs zs).take k) ++ [ofF (toF z)] := by
  rw [List.take_add_one, toFs_get h]
  simp [ofFs]
theorem ofFs_u64 (l : List F) : ∀ z ∈ ofFs l, U64 z := ofF_u64s l
theorem pNormal_any (va : Value) (zs : List Int) (w : World) (h1 : IsNums w va zs) :
    Calls Tryz.prog 183 #[va] w fun e w' => ∃ v, e = .returned v ∧ OwnNums w' w.heap.size v (ofFs (pnorm (toFs zs))) ∧ Below w.heap.size w w' := by
  obtain ⟨A1, c1, rfl, hc1, hm1, hl1, hu1, hr1⟩ := h1
  have hm1' : c1 ≤ 9223372036854775807 := by unfold maxLen at hm1; exact hm1
  go_enter Tryz.func183, Tryz.ntmps183
  go_wp2_with fail
  go_loop [3] (fun i => ∃ m : Nat, m ≤ zs.length ∧ i = .int .i64 m ∧ (∀ j, m ≤ j → co (toFs zs) j = 0)) (fun i => (intOf i).toNat)
  case atStart => exact ⟨zs.length, Nat.le_refl _, rfl, fun j hj => co_of_le (by rw [toFs_length]; exact hj)⟩
  case round =>
    obtain ⟨m, hm, rfl, hz⟩ := hrel
    have HZ := Lib.hid hz
    clear hz
    have fin : (m = 0 ∨ co (toFs zs) (m - 1) ≠ 0) → pnorm (toFs zs) = (toFs zs).take m := fun h => pnorm_cut _ m (by rw [toFs_length]; exact hm) HZ.out h
    by_cases h0 : m = 0
    · have FIN := Lib.hid (fin (.inl h0))
      clear fin
      subst h0
      go_wp2_with fail
      go_loopw [4, 26] (fun v i wr => i = .int .i64 0 ∧ v = .slice none 0 0 ∧ wr = w) (fun _ _ _ => 0)
      case atStart => exact ⟨rfl, rfl, rfl⟩
      case round =>
        obtain ⟨rfl, rfl, rfl⟩ := hrel
        go_wp2_with fail
        go_ret
        exact ⟨_, rfl, by rw [FIN.out]; exact OwnNums.nil _ _, Below.refl _ _⟩
    · obtain ⟨j, rfl⟩ : ∃ j, m = j + 1 := ⟨m - 1, by omega⟩
      obtain ⟨b1, o1, z, rfl, hb1, hz, huz, hcz⟩ := nums_at hr1 hu1 (show j < zs.length by omega)
      have hz0 := huz.1
      by_cases hz1 : toF z = 0
      · have hzz : ofF (toF z) = 0 := by rw [hz1]; rfl
        have HZ2 := Lib.hid (show ∀ i, j ≤ i → co (toFs zs) i = 0 from fun i hi => by
          rcases Nat.lt_or_ge j i with h | h
          · exact HZ.out i h
          · obtain rfl : i = j := by omega
            rw [co_toFs hz, hz1])
        clear hz1 hz fin h0 hr1
        go_wp2_with fail
        refine (fNorm_any _ _ hz0).mono ?_
        rintro e w' ⟨rfl, rfl⟩
        rw [hzz]
        go_wp2_with fail
        refine ⟨⟨j, by omega, by go_num, HZ2.out⟩, by simp [intOf] <;> omega⟩
      · have hne := ofF_ne' hz1
        have FIN := Lib.hid (fin (.inr (by rw [show j + 1 - 1 = j by omega, co_toFs hz]; exact hz1)))
        clear fin hz1 hz h0
        go_wp2_with fail
        refine (fNorm_any _ _ hz0).mono ?_
        rintro e w' ⟨rfl, rfl⟩
        clear hcz huz hz0
        go_wp2_with fail
        go_loopw [4, 26] (fun v i wr => ∃ k : Nat, k ≤ j + 1 ∧ i = .int .i64 k ∧ OwnNums wr w.heap.size v (ofFs ((toFs zs).take k)) ∧ Below w.heap.size w wr) (fun _ i _ => j + 1 - (intOf i).toNat)
        case atStart => exact ⟨0, Nat.zero_le _, rfl, OwnNums.nil _ _, Below.refl _ _⟩
        case round =>
          obtain ⟨k, hk, rfl, hown, hbel⟩ := hrel
          have hsz := hbel.size
          by_cases hlt : k < j + 1
          · obtain ⟨b2, o2, y, hA, hb2, hy, huy, hcy⟩ := nums_at (hr1.below hbel) hu1 (show k < zs.length by omega)
            injection hA with hA
            injection hA with hA1 hA2
            subst hA1 hA2
            have hy0 := huy.1
            have HO := Lib.hid hown
            have HBE := Lib.hid hbel
            have HT := Lib.hid (ofFs_take hy)
            clear hy hr1 hb2 hown hbel
            go_wp2_with fail
            refine (fNorm_any _ _ hy0).mono ?_
            rintro e w' ⟨rfl, rfl⟩
            go_wp2_with (at_builtin; refine wpList_push rfl _ _ rfl w.heap.size _ _ (ofF (toF y)) wr.heap.size 1 rfl (HO.out.alloc _) rfl (new_cell _ _ _) (U64.of_ofF _) (by rw [ofFs_length]; simp only [List.length_take, toFs_length]; omega) (by simp; omega) ?_)
            intro v' w' hown' hbel'
            go_wp2_with fail
            refine ⟨⟨k + 1, by omega, by go_num, by rw [HT.out]; exact hown', (HBE.out.alloc hsz _).trans hbel'⟩, by simp [intOf] <;> omega⟩
          · go_wp2_with fail
            go_ret
            obtain rfl : k = j + 1 := by omega
            exact ⟨_, rfl, by rw [FIN.out]; exact hown, hbel⟩
theorem rNormal_any (va : Value) (zs : List Int) (w : World) (h1 : IsNums w va zs) :
    Calls Tryz.prog 202 #[va] w fun e w' => ∃ v, e = .returned v ∧ OwnNums w' w.heap.size v (ofFs (pnorm (toFs zs))) ∧ Below w.heap.size w w' := by
  obtain ⟨A1, c1, rfl, hc1, hm1, hl1, hu1, hr1⟩ := h1
  go_enter Tryz.func202, Tryz.ntmps202
  go_wp2_with fail
  go_loop [3, 4] (fun l i => ∃ k m : Nat, k ≤ zs.length ∧ m ≤ k ∧ i = .int .i64 k ∧ l = .int .i64 ((m : Int) - 1) ∧ (∀ j, m ≤ j → j < k → co (toFs zs) j = 0) ∧ (m = 0 ∨ co (toFs zs) (m - 1) ≠ 0)) (fun _ i => zs.length - (intOf i).toNat)
  case atStart => exact ⟨0, 0, Nat.zero_le _, Nat.le_refl _, rfl, rfl, fun j _ h => by omega, .inl rfl⟩
  case round =>
    obtain ⟨k, m, hk, hm, rfl, rfl, hz, hl⟩ := hrel
    have HZ := Lib.hid hz
    have HL := Lib.hid hl
    clear hz hl
    by_cases hlt : k < zs.length
    · obtain ⟨b1, o1, z, rfl, hb1, hz, huz, hcz⟩ := nums_at hr1 hu1 hlt
      by_cases hz1 : toF z = 0
      · have hzz : ofF (toF z) = 0 := by rw [hz1]; rfl
        have HC := Lib.hid (show co (toFs zs) k = 0 by rw [co_toFs hz, hz1])
        clear hz1 hz hr1
        go_wp2_with fail
        refine (rNorm_any _ _ huz).mono ?_
        rintro e w' ⟨rfl, rfl⟩
        rw [hzz]
        try dsimp only
        go_wp2_with fail
        refine ⟨⟨k + 1, m, by omega, by omega, by go_num, rfl, fun i hi hi2 => ?_, HL.out⟩, by simp [intOf] <;> omega⟩
        rcases Nat.lt_or_ge i k with h | h
        · exact HZ.out i hi h
        · obtain rfl : i = k := by omega
          exact HC.out
      · have hne := ofF_ne hz1
        have HC := Lib.hid (show co (toFs zs) k ≠ 0 by rw [co_toFs hz]; exact hz1)
        clear hz1 hz hr1
        go_wp2_with fail
        refine (rNorm_any _ _ huz).mono ?_
        rintro e w' ⟨rfl, rfl⟩
        try dsimp only
        go_wp2_with fail
        exact ⟨⟨k + 1, k + 1, by omega, by omega, by go_num, by go_num, fun i hi hi2 => by omega, .inr HC.out⟩, by simp [intOf] <;> omega⟩
    · obtain rfl : k = zs.length := by omega
      have FIN := Lib.hid (show pnorm (toFs zs) = (toFs zs).take m from pnorm_cut _ m (by rw [toFs_length]; exact hm) (fun j hj => by
        rcases Nat.lt_or_ge j zs.length with h | h
        · exact HZ.out j hj h
        · exact co_of_le (by rw [toFs_length]; exact h)) HL.out)
      clear HZ HL
      go_wp2_with fail
      go_loopw [5, 6] (fun v i wr => ∃ k : Nat, k ≤ m ∧ i = .int .i64 k ∧ OwnNums wr w.heap.size v (ofFs ((toFs zs).take k)) ∧ Below w.heap.size w wr) (fun _ i _ => m - (intOf i).toNat)
      case atStart => exact ⟨0, Nat.zero_le _, rfl, OwnNums.nil _ _, Below.refl _ _⟩
      case round =>
        obtain ⟨k, hk, rfl, hown, hbel⟩ := hrel
        have hsz := hbel.size
        by_cases hlt : k < m
        · obtain ⟨b2, o2, y, rfl, hb2, hy, huy, hcy⟩ := nums_at (hr1.below hbel) hu1 (show k < zs.length by omega)
          have HO := Lib.hid hown
          have HBE := Lib.hid hbel
          have HT := Lib.hid (ofFs_take hy)
          clear hy hr1 hb2 hown hbel
          go_wp2_with fail
          refine (rNorm_any _ _ huy).mono ?_
          rintro e w' ⟨rfl, rfl⟩
          go_wp2_with (at_builtin; refine wpList_push rfl _ _ rfl w.heap.size _ _ (ofF (toF y)) wr.heap.size 1 rfl (HO.out.alloc _) rfl (new_cell _ _ _) (U64.of_ofF _) (by rw [ofFs_length]; simp only [List.length_take, toFs_length]; omega) (by simp; omega) ?_)
          intro v' w' hown' hbel'
          go_wp2_with fail
          refine ⟨⟨k + 1, by omega, by go_num, by rw [HT.out]; exact hown', (HBE.out.alloc hsz _).trans hbel'⟩, by simp [intOf] <;> omega⟩
        · go_wp2_with fail
          go_ret
          obtain rfl : k = m := by omega
          exact ⟨_, rfl, by rw [FIN.out]; exact hown, hbel⟩
def powN (x : F) (k : Nat) : F := x ^ k
theorem rEval_any (va : Value) (zs : List Int) (x : Int) (w : World) (h1 : IsNums w va zs) (hx : U64 x) :
    Calls Tryz.prog 127 #[va, .int .u64 x] w fun e w' => e = .returned (.int .u64 (ofF (peval (toFs zs) (toF x)))) ∧ w = w' := by
  obtain ⟨A1, c1, rfl, hc1, hm1, hl1, hu1, hr1⟩ := h1
  go_enter Tryz.func127, Tryz.ntmps127
  go_wp2_with fail
  go_loop [5, 6, 7] (fun o q i => ∃ k : Nat, k ≤ zs.length ∧ i = .int .i64 k ∧ o = .int .u64 (ofF (peval ((toFs zs).take k) (toF x))) ∧ q = .int .u64 (ofF (powN (toF x) k))) (fun _ _ i => zs.length - (intOf i).toNat)
  case atStart => exact ⟨0, Nat.zero_le _, rfl, rfl, by unfold powN; rw [Croft.pow_zero]; rfl⟩
  case round =>
    obtain ⟨k, hk, rfl, rfl, rfl⟩ := hrel
    by_cases hlt : k < zs.length
    · obtain ⟨b1, o1, z, rfl, hb1, hz, huz, hcz⟩ := nums_at hr1 hu1 hlt
      have HT := Lib.hid (peval_take (toFs_get hz) (toF x))
      clear hz hr1
      go_wp2_with fail
      refine (rMul_any _ _ _ huz (U64.of_ofF _)).mono ?_
      rintro e w' ⟨rfl, rfl⟩
      try dsimp only
      go_wp2_with fail
      refine (rAdd_any _ _ _ (U64.of_ofF _) (U64.of_ofF _)).mono ?_
      rintro e w' ⟨rfl, rfl⟩
      try dsimp only
      go_wp2_with fail
      refine (rMul_any _ _ _ (U64.of_ofF _) hx).mono ?_
      rintro e w' ⟨rfl, rfl⟩
      try dsimp only
      go_wp2_with fail
      simp only [toF_ofF]
      refine ⟨⟨k + 1, by omega, by go_num, by rw [HT.out]; rfl, by unfold powN; rw [Croft.pow_succ]⟩, by simp [intOf] <;> omega⟩
    · go_wp2_with fail
      go_ret
      obtain rfl : k = zs.length := by omega
      exact ⟨ret_int (by rw [← toFs_length zs, List.take_length]), rfl⟩
theorem fsum_stop (A B : List F) (k i : Nat) (hi : A.length ≤ i) (h : i ≤ k + 1) : fsum i (fun p => co A p * co B (k - p)) = co (pmulS A B) k := by
  rw [co_mulS]
  symm
  exact fsum_more h (fun p hp _ => by rw [co_of_le (l := A) (by omega), F_zm])
theorem fsum_stop' (A B : List F) (k i : Nat) (h : i = k + 1) : fsum i (fun p => co A p * co B (k - p)) = co (pmulS A B) k := by rw [co_mulS, h]
theorem pmulS_take_next (A B : List F) {k : Nat} (hk : k < (pmulS A B).length) : ofFs ((pmulS A B).take (k + 1)) = ofFs ((pmulS A B).take k) ++ [ofF (co (pmulS A B) k)] := by
  rw [List.take_add_one, get_co hk]
  simp [ofFs]
set_option maxRecDepth 100000 in
theorem rProduct_any (va vb : Value) (xs ys : List Int) (w : World) (h1 : IsNums w va xs) (h2 : IsNums w vb ys) (hx : xs.length ≤ 1000000) (hy : ys.length ≤ 1000000) :
    Calls Tryz.prog 190 #[va, vb] w fun e w' => ∃ v, e = .returned v ∧ OwnNums w' w.heap.size v (ofFs (pmulS (pnorm (toFs xs)) (pnorm (toFs ys)))) ∧ Below w.heap.size w w' := by
  have KB := Lib.hid h2
  have hlx := pnorm_length (toFs xs)
  have hly := pnorm_length (toFs ys)
  rw [toFs_length] at hlx hly
  obtain ⟨A, hA⟩ : ∃ A, pnorm (toFs xs) = A := ⟨_, rfl⟩
  obtain ⟨B, hB⟩ : ∃ B, pnorm (toFs ys) = B := ⟨_, rfl⟩
  rw [hA] at hlx ⊢
  rw [hB] at hly ⊢
  have EA := Lib.hid hA
  have EB := Lib.hid hB
  clear hA hB
  go_enter Tryz.func190, Tryz.ntmps190
  go_wp2_with fail
  refine (rNormal_any _ _ _ h1).mono ?_
  rintro e w1 ⟨v1, rfl, ho1, hb1⟩
  replace KB := Lib.hid (KB.out.below hb1)
  rw [EA.out] at ho1
  have HO1 := Lib.hid ho1
  have HB1 := Lib.hid hb1
  clear ho1 hb1 h1 h2
  go_wp2_with fail
  refine (rNormal_any _ _ _ KB.out).mono ?_
  rintro e w2 ⟨v2, rfl, ho2, hb2⟩
  rw [EB.out] at ho2
  have HA := (HO1.out.is).below hb2
  have HBb := ho2.is
  have HB := Lib.hid (below_trans HB1.out hb2 HB1.out.size)
  clear HO1 HB1 KB ho2 hb2
  obtain ⟨A1, c1, rfl, hc1, hm1, hl1, hu1, hr1⟩ := HA
  obtain ⟨A2, c2, rfl, hc2, hm2, hl2, hu2, hr2⟩ := HBb
  rw [ofFs_length] at hc1 hl1 hc2 hl2
  rw [ofFs_length, ofFs_length]
  have hsz0 := HB.out.size
  by_cases ha : A.length = 0
  · have HE := Lib.hid (show pmulS A B = [] by unfold pmulS; rw [if_pos (.inl (List.eq_nil_of_length_eq_zero ha))])
    have he1 : ((A.length : Int) == 0) = true := by rw [beq_iff_eq]; omega
    clear ha
    go_wp2_with fail
    go_ret
    exact ⟨_, rfl, by rw [HE.out]; exact OwnNums.nil _ _, HB.out⟩
  by_cases hb : B.length = 0
  · have HE := Lib.hid (show pmulS A B = [] by unfold pmulS; rw [if_pos (.inr (List.eq_nil_of_length_eq_zero hb))])
    have he1 : ((A.length : Int) == 0) = false := by rw [beq_eq_false_iff_ne]; omega
    have he2 : ((B.length : Int) == 0) = true := by rw [beq_iff_eq]; omega
    clear ha hb
    go_wp2_with fail
    go_ret
    exact ⟨_, rfl, by rw [HE.out]; exact OwnNums.nil _ _, HB.out⟩
  have HL := Lib.hid (show (pmulS A B).length = A.length + B.length - 1 by
    rw [pmulS_length, if_neg (by rintro (h | h) <;> (subst h; simp at *))])
  have he1 : ((A.length : Int) == 0) = false := by rw [beq_eq_false_iff_ne]; omega
  have he2 : ((B.length : Int) == 0) = false := by rw [beq_eq_false_iff_ne]; omega
  have ha1 : 1 ≤ A.length := by omega
  have hb1 : 1 ≤ B.length := by omega
  clear ha hb
  go_wp2_with fail
  go_loopw [5, 6] (fun v i wr => ∃ k : Nat, k ≤ A.length + B.length - 1 ∧ i = .int .i64 k ∧ OwnNums wr w2.heap.size v (ofFs ((pmulS A B).take k)) ∧ Below w2.heap.size w2 wr) (fun _ i _ => A.length + B.length - 1 - (intOf i).toNat)
  case atStart => exact ⟨0, Nat.zero_le _, rfl, OwnNums.nil _ _, Below.refl _ _⟩
  case round =>
    obtain ⟨k, hk, rfl, hown, hbel2⟩ := hrel
    have k1 := hr1.below hbel2
    have k2 := hr2.below hbel2
    have HO := Lib.hid hown
    have HBE2 := Lib.hid hbel2
    have hsz2 := hbel2.size
    clear hown hbel2 hr1 hr2
    by_cases hlt : k < A.length + B.length - 1
    · have hk1 : (k : Int) < (A.length : Int) + (B.length : Int) - 1 := by omega
      obtain ⟨wo, hwo⟩ : ∃ wo, wo = wr := ⟨_, rfl⟩
      subst hwo
      go_wp2_with fail
      go_loopw [7, 8] (fun n i wr => ∃ (p nd : Nat), p ≤ A.length ∧ p ≤ k + 1 ∧ i = .int .i64 p ∧ n = .int .u64 (ofF (fsum p (fun q => co A q * co B (k - q)))) ∧ wr = wo.drewN nd) (fun _ i _ => k + 1 - (intOf i).toNat)
      case atStart => exact ⟨0, 0, Nat.zero_le _, Nat.zero_le _, rfl, rfl, rfl⟩
      case round =>
        obtain ⟨p, nd, hp1, hp2, rfl, rfl, hw⟩ := hrel
        have j1 := k1.drewn hw
        have j2 := k2.drewn hw
        have HW := Lib.hid hw
        clear hw k1 k2
        by_cases hpk : p ≤ k
        · by_cases hpa : p < A.length
          · by_cases hkb : k - p < B.length
            · obtain ⟨b1, o1, x, rfl, hb1, hx, hux, hcx⟩ := nums_at j1 hu1 (show p < (ofFs A).length by rw [ofFs_length]; exact hpa)
              obtain ⟨b2, o2, y, rfl, hb2, hy, huy, hcy⟩ := nums_at j2 hu2 (show k - p < (ofFs B).length by rw [ofFs_length]; exact hkb)
              have HX := Lib.hid (show co A p = toF x by have := co_toFs hx; rwa [toFs_ofFs] at this)
              have HY := Lib.hid (show co B (k - p) = toF y by have := co_toFs hy; rwa [toFs_ofFs] at this)
              have e1 : ((k : Int) - (p : Int)).toNat = k - p := by omega
              have hkb2 : (k : Int) - (p : Int) < (B.length : Int) := by omega
              have hkb3 : 0 ≤ (k : Int) - (p : Int) := by omega
              clear hx hy j1 j2 hb1 hb2
              go_wp2_with fail
              go_quiet ((first | exact quietL (rMul_any _ _ _ hux huy) | exact quietL (rAdd_any _ _ _ (U64.of_ofF _) (U64.of_ofF _))))
              go_wp2_with fail
              simp only [toF_ofF]
              refine ⟨⟨p + 1, _, by omega, by omega, by go_num, ?_, drewn_more HW.out _⟩, by simp [intOf] <;> omega⟩
              rw [fsum, HX.out, HY.out]
            · have hkb2 : ¬ (k : Int) - (p : Int) < (B.length : Int) := by omega
              have HY := Lib.hid (show co B (k - p) = 0 from co_of_le (by omega))
              clear j1 j2 hkb
              go_wp2_with fail
              refine ⟨⟨p + 1, _, by omega, by omega, by go_num, ?_, HW.out⟩, by simp [intOf] <;> omega⟩
              rw [fsum, HY.out, F_mz, F_az]
          · have HK := Lib.hid (fsum_stop A B k p (by omega) hp2)
            clear j1 j2
            have HOr := Lib.hid (HO.out.drewn HW.out)
            have hszr : wo.heap.size ≤ wr.heap.size := (below_drewn (B := 0) HW.out).size
            go_wp2_with (at_builtin; refine wpList_push rfl _ _ rfl w2.heap.size _ _ (ofF (fsum p (fun q => co A q * co B (k - q)))) wr.heap.size 1 rfl (HOr.out.alloc _) rfl (new_cell _ _ _) (U64.of_ofF _) (by rw [ofFs_length]; simp only [List.length_take]; omega) (by simp; omega) ?_)
            intro v' w' hown' hbel'
            go_wp2_with fail
            refine ⟨⟨k + 1, by omega, by go_num, ?_, ((HBE2.out.trans (below_drewn HW.out)).alloc (by omega) _).trans hbel'⟩, by simp [intOf] <;> omega⟩
            rw [pmulS_take_next A B (by rw [HL.out]; exact hlt), ← HK.out]; exact hown'
        · have HK := Lib.hid (fsum_stop' A B k p (by omega))
          clear j1 j2
          have HOr := Lib.hid (HO.out.drewn HW.out)
          have hszr : wo.heap.size ≤ wr.heap.size := (below_drewn (B := 0) HW.out).size
          go_wp2_with (at_builtin; refine wpList_push rfl _ _ rfl w2.heap.size _ _ (ofF (fsum p (fun q => co A q * co B (k - q)))) wr.heap.size 1 rfl (HOr.out.alloc _) rfl (new_cell _ _ _) (U64.of_ofF _) (by rw [ofFs_length]; simp only [List.length_take]; omega) (by simp; omega) ?_)
          intro v' w' hown' hbel'
          go_wp2_with fail
          refine ⟨⟨k + 1, by omega, by go_num, ?_, ((HBE2.out.trans (below_drewn HW.out)).alloc (by omega) _).trans hbel'⟩, by simp [intOf] <;> omega⟩
          rw [pmulS_take_next A B (by rw [HL.out]; exact hlt), ← HK.out]; exact hown'
    · have hk1 : ¬ (k : Int) < (A.length : Int) + (B.length : Int) - 1 := by omega
      go_wp2_with fail
      go_ret
      have e : k = (pmulS A B).length := by rw [HL.out]; omega
      exact ⟨_, rfl, by have := HO.out.less HB.out.size; rwa [e, List.take_length] at this, below_trans HB.out HBE2.out HB.out.size⟩
end Go.Proofs.YtploomncapiloaaGreatDoor
