/- Parts of the proof, put together by a program: ShelfZ DeskV DeskT Grid DeskM. No condition. -/
import Derived.Test.YtploomncapiloaaGreatDoorDAI
import Derived.Maps.AppendAt
import Derived.Shelf.Strings.Builder2
import Derived.Shelf.Strings.Builder2Cap
import Derived.Shelf.Strings.BuilderCap
import Derived.Shelf.Strings.OnBuilder
import Derived.Shelf.Strings.Prefix
namespace Go.Proofs.YtploomncapiloaaGreatDoor
open Go.Proofs
open Go.Shelf
def sh_lays156_ren : Go.Shelf.Ren := ⟨fun | 156 => 48 | 165 => 103 | 166 => 15 | 169 => 17 | 240 => 26 | 241 => 141 | 276 => 47 | 277 => 173 | n => n, fun | 31 => 24 | 9 => 9 | 3 => 3 | 4 => 4 | 0 => 0 | 20 => 20 | 72 => 36 | 76 => 40 | 70 => 33 | 37 => 34 | 75 => 39 | 127 => 61 | 164 => 79 | 5 => 5 | 80 => 43 | n => n, fun | n => n⟩
theorem sh_lays156 : Go.Proofs.Lays.n156 Tryz.prog sh_lays156_ren := {
  mixed := by kernel_rfl
  f156 := Tryz.func48.trans (congrArg some (by kernel_rfl))
  f165 := Tryz.func103.trans (congrArg some (by kernel_rfl))
  f166 := Tryz.func15.trans (congrArg some (by kernel_rfl))
  f169 := Tryz.func17.trans (congrArg some (by kernel_rfl))
  f240 := Tryz.func26.trans (congrArg some (by kernel_rfl))
  f241 := Tryz.func141.trans (congrArg some (by kernel_rfl))
  f276 := Tryz.func47.trans (congrArg some (by kernel_rfl))
  f277 := Tryz.func173.trans (congrArg some (by kernel_rfl))
  t0 := Tryz.underlying0
  a0 := Tryz.isAgg0
  z0 := Tryz.sizeOf0
  v0 := Tryz.zeroValue0
  t3 := Tryz.underlying3
  a3 := Tryz.isAgg3
  z3 := Tryz.sizeOf3
  v3 := Tryz.zeroValue3
  t4 := Tryz.underlying4
  a4 := Tryz.isAgg4
  z4 := Tryz.sizeOf4
  v4 := Tryz.zeroValue4
  t9 := Tryz.underlying9
  a9 := Tryz.isAgg9
  z9 := Tryz.sizeOf9
  v9 := Tryz.zeroValue9
  t20 := Tryz.underlying20
  a20 := Tryz.isAgg20
  z20 := Tryz.sizeOf20
  v20 := Tryz.zeroValue20
  t31 := Tryz.underlying24
  a31 := Tryz.isAgg24
  z31 := Tryz.sizeOf24
  v31 := Tryz.zeroValue24
  t37 := Tryz.underlying34
  a37 := Tryz.isAgg34
  z37 := Tryz.sizeOf34
  v37 := Tryz.zeroValue34
  t70 := Tryz.underlying33
  a70 := Tryz.isAgg33
  z70 := Tryz.sizeOf33
  v70 := Tryz.zeroValue33
  t72 := Tryz.underlying36
  a72 := Tryz.isAgg36
  z72 := Tryz.sizeOf36
  v72 := Tryz.zeroValue36
  t75 := Tryz.underlying39
  a75 := Tryz.isAgg39
  z75 := Tryz.sizeOf39
  v75 := Tryz.zeroValue39
  t76 := Tryz.underlying40
  a76 := Tryz.isAgg40
  z76 := Tryz.sizeOf40
  v76 := Tryz.zeroValue40
  t127 := Tryz.underlying61
  a127 := Tryz.isAgg61
  z127 := Tryz.sizeOf61
  v127 := Tryz.zeroValue61
  t164 := Tryz.underlying79
  a164 := Tryz.isAgg79
  z164 := Tryz.sizeOf79
  v164 := Tryz.zeroValue79 }
theorem sh_Builder_Extra_156 : Builder.Extra Tryz.prog sh_lays156_ren := {
  sizeBuilder := by kernel_rfl
  liesBuilder := by kernel_rfl
  t5 := Tryz.underlying5
  a5 := Tryz.isAgg5
  z5 := Tryz.sizeOf5
  v5 := Tryz.zeroValue5
  infoByte := by kernel_rfl
  cellsByte := by kernel_rfl
  sizeByte := by kernel_rfl
  neB5 := by decide }
open Go.RowKit in
theorem sh_strings_Join_none (a : Option Addr) (c : Nat) (sep : ByteArray) (w : World) :
    Calls Tryz.prog 48 #[.slice a 0 c, .string sep] w fun e w' => e = .returned (.string ⟨#[]⟩) ∧ w' = w := Any.strings_Join_none sh_lays156 sh_Builder_Extra_156 a c sep w
open Go.RowKit in
theorem sh_strings_Join (bk o c : Nat) (xs : List ByteArray) (sep : ByteArray) (w : World) (hcells : ∀ (j : Nat) x, xs[j]? = some x → w.cell? ⟨bk, o + j, none⟩ = some (.string x)) (hbk : bk < w.heap.size) (hN : xs.length ≤ 140737488355328) (hcap : xs.length ≤ c) (hlen : (Lib.join (xs.map (·.data.toList)) sep.data.toList).length ≤ 140737488355328) :
    Calls Tryz.prog 48 #[.slice (some ⟨bk, o, none⟩) xs.length c, .string sep] w fun e w' => e = .returned (.string ⟨(Lib.join (xs.map (·.data.toList)) sep.data.toList).toArray⟩) ∧ Below w.heap.size w w' := Any.strings_Join sh_lays156 sh_Builder_Extra_156 bk o c xs sep w hcells hbk hN hcap hlen
def sh_lays99_ren : Go.Shelf.Ren := ⟨fun | 99 => 11 | 206 => 23 | n => n, fun | 9 => 9 | 4 => 4 | 3 => 3 | n => n, fun | n => n⟩
theorem sh_lays99 : Go.Proofs.Lays.n99 Tryz.prog sh_lays99_ren := {
  mixed := by kernel_rfl
  f99 := Tryz.func11.trans (congrArg some (by kernel_rfl))
  f206 := Tryz.func23.trans (congrArg some (by kernel_rfl))
  t3 := Tryz.underlying3
  a3 := Tryz.isAgg3
  z3 := Tryz.sizeOf3
  v3 := Tryz.zeroValue3
  t4 := Tryz.underlying4
  a4 := Tryz.isAgg4
  z4 := Tryz.sizeOf4
  v4 := Tryz.zeroValue4
  t9 := Tryz.underlying9
  a9 := Tryz.isAgg9
  z9 := Tryz.sizeOf9
  v9 := Tryz.zeroValue9 }
open Go.RowKit Go.Lib in
theorem sh_strings_HasPrefix (s p : ByteArray) (w : World) :
    Calls Tryz.prog 11 #[.string s, .string p] w fun e w' => e = .returned (.bool (Lib.hasPrefix s.data.toList p.data.toList)) ∧ w' = w := Any.strings_HasPrefix sh_lays99 s p w
def sh_lays102_ren : Go.Shelf.Ren := ⟨fun | 102 => 14 | 209 => 25 | 207 => 46 | n => n, fun | 9 => 9 | 4 => 4 | 3 => 3 | n => n, fun | n => n⟩
theorem sh_lays102 : Go.Proofs.Lays.n102 Tryz.prog sh_lays102_ren := {
  mixed := by kernel_rfl
  f102 := Tryz.func14.trans (congrArg some (by kernel_rfl))
  f207 := Tryz.func46.trans (congrArg some (by kernel_rfl))
  f209 := Tryz.func25.trans (congrArg some (by kernel_rfl))
  t3 := Tryz.underlying3
  a3 := Tryz.isAgg3
  z3 := Tryz.sizeOf3
  v3 := Tryz.zeroValue3
  t4 := Tryz.underlying4
  a4 := Tryz.isAgg4
  z4 := Tryz.sizeOf4
  v4 := Tryz.zeroValue4
  t9 := Tryz.underlying9
  a9 := Tryz.isAgg9
  z9 := Tryz.sizeOf9
  v9 := Tryz.zeroValue9 }
open Go.RowKit Go.Lib in
theorem sh_strings_TrimSuffix (s p : ByteArray) (w : World) (hs : s.size ≤ 9223372036854775807) :
    Calls Tryz.prog 14 #[.string s, .string p] w fun e w' => e = .returned (.string ⟨(Lib.trimSuffix s.data.toList p.data.toList).toArray⟩) ∧ w' = w := Any.strings_TrimSuffix sh_lays102 s p w hs
end Go.Proofs.YtploomncapiloaaGreatDoor
namespace Go.Proofs.YtploomncapiloaaGreatDoor
open Go.RowKit Go.Sort Go.PlainAid Croft
theorem join_joinT : ∀ (l : List (List UInt8)), Lib.join l [32] = joinT l
  | [] => rfl
  | [x] => Lib.join_one x _
  | x :: y :: l => by
    have ih := join_joinT (y :: l)
    rw [Lib.join_cons] at ih ⊢
    rw [joinT_cons x (y :: l) (by simp), ← ih]
    simp [Lib.joinTail]
theorem bs_datas (l : List (List UInt8)) : (l.map bs).map (·.data.toList) = l := by
  rw [List.map_map]
  conv => rhs; rw [← List.map_id l]
  apply List.map_congr_left
  intro x _
  simp [bs]
theorem join_any (v : Value) (l : List (List UInt8)) (w : World) (h : IsStrs w v l) (hlen : (joinT l).length ≤ 100000000) :
    Calls Tryz.prog 48 #[v, .string ⟨#[32]⟩] w fun e w' => e = .returned (.string (bs (joinT l))) ∧ Below w.heap.size w w' := by
  obtain ⟨A, c, rfl, hc, hm, hl, hr⟩ := h
  cases l with
  | nil =>
    refine (sh_strings_Join_none A c ⟨#[32]⟩ w).mono fun e w' hh => ?_
    obtain ⟨rfl, rfl⟩ := hh
    exact ⟨rfl, Below.refl _ _⟩
  | cons x l =>
    obtain ⟨b, o, rfl, hb, hcell⟩ := hr.at_ (j := 0) (by simp [sts])
    have hj : Lib.join (((x :: l).map bs).map (·.data.toList)) (⟨#[32]⟩ : ByteArray).data.toList = joinT (x :: l) := by
      rw [bs_datas]; exact join_joinT _
    have hh := sh_strings_Join b o c ((x :: l).map bs) ⟨#[32]⟩ w (fun j y hy => ?_) hb (by rw [List.length_map]; omega) (by rw [List.length_map]; exact hc) (by rw [hj]; omega)
    · rw [hj, List.length_map] at hh
      exact hh
    · have hjl := (List.getElem?_eq_some_iff.1 hy).1
      rw [List.length_map] at hjl
      rw [hcell j (by rw [sts_length]; exact hjl), sts_get]
      rw [List.getElem?_map] at hy
      cases hx : (x :: l)[j]? with
      | none => rw [hx] at hy; cases hy
      | some z => rw [hx] at hy; rw [← Option.some.inj hy]; rfl
theorem done_any (E : Int) (w : World) (h0 : 0 ≤ E) (h1 : E ≤ 1000) (htab : Lib.TabIs Tryz.prog w "internal/strconv.uint64pow10" .u64 Lib.pow10Tab) :
    Calls Tryz.prog 62 #[.int .i64 E] w fun e w' => e = .returned (.string (bs (doneT E))) ∧ Below w.heap.size w w' := by
  have CF := Lib.hid (failed_any E w h0 h1 htab)
  by_cases hE : E = 0
  · subst hE
    go_enter Tryz.func62, Tryz.ntmps62
    go_wp2_with fail
    go_ret
    exact ⟨rfl, Below.refl _ _⟩
  · have HD := Lib.hid (show doneT E = errT E from if_neg hE)
    have hb : (E != 0) = true := by rw [bne_iff_ne]; exact hE
    clear hE
    go_enter Tryz.func62, Tryz.ntmps62
    go_wp2_with fail
    refine CF.out.mono ?_
    rintro e w' ⟨rfl, hb⟩
    try dsimp only
    go_wp2_with fail
    go_ret
    exact ⟨by rw [HD.out]; rfl, hb⟩
set_option maxRecDepth 100000 in
theorem wide_any (va : Value) (zs : List Int) (w : World) (h1 : IsInts w va zs) (h0 : ∀ z ∈ zs, 0 ≤ z) :
    Calls Tryz.prog 52 #[va] w fun e w' => ∃ v, e = .returned v ∧ OwnNums w' w.heap.size v zs ∧ Below w.heap.size w w' := by
  have KS := Lib.hid h1
  have H0 := Lib.hid h0
  obtain ⟨A1, c1, rfl, hc1, hm1, hl1, hi1, hr1⟩ := h1
  suffices hgoal : ∀ Post : Ending → World → Prop, (∀ v w', OwnNums w' w.heap.size v zs → Below w.heap.size w w' → Post (.returned v) w') → Calls Tryz.prog 52 #[.slice A1 zs.length c1] w Post from hgoal _ fun v w' h1 h2 => ⟨v, rfl, h1, h2⟩
  intro Post hpo
  have HP := Lib.hid hpo
  clear hm1 hpo hr1 hi1 h0
  go_enter Tryz.func52, Tryz.ntmps52
  go_wp2_with fail
  go_loopw [3, 8] (fun v i wr => ∃ k : Nat, k ≤ zs.length ∧ i = .int .i64 k ∧ OwnNums wr w.heap.size v (zs.take k) ∧ Below w.heap.size w wr) (fun _ i _ => zs.length - (intOf i).toNat)
  case atStart => exact ⟨0, Nat.zero_le _, rfl, OwnNums.nil _ _, Below.refl _ _⟩
  case round =>
    obtain ⟨k, hk, rfl, hown, hbel⟩ := hrel
    have KW := Lib.hid hown
    have BEL := Lib.hid hbel
    have hs1 := hbel.size
    clear hown hbel
    by_cases hlt : k < zs.length
    · obtain ⟨A, c, hA, _, _, _, hi, hr⟩ := KS.out.below BEL.out
      injection hA with hA1 hA2 hA3
      subst hA1 hA3
      obtain ⟨b1, o1, z, rfl, hb1, hz, hz64, hcz⟩ := ints_at hr hi hlt
      have hz0 := H0.out z (List.mem_of_getElem? hz)
      have hzu : U64 z := ⟨hz0, by have := hz64.2; omega⟩
      have HZU := Lib.hid hzu
      have hwz : IntKind.u64.wrap z = z := u64_nonneg hz0 (by have := hz64.2; omega)
      have HNX := Lib.hid (show zs.take (k + 1) = zs.take k ++ [z] by rw [List.take_add_one, hz]; rfl)
      have HKL := Lib.hid (show (zs.take k).length = k by rw [List.length_take]; omega)
      clear hr hi hb1 hz hA2 hzu
      go_wp2_with (at_builtin; go_loud (refine wpList_push rfl _ _ rfl w.heap.size _ _ z wr.heap.size 1 rfl (KW.out.alloc _) rfl (new_cell _ _ _) HZU.out (by rw [HKL.out]; omega) (by rw [size_alloc]; omega) ?_))
      intro v' w5 hown' hbel'
      have K5 := Lib.hid hown'
      have B5 := Lib.hid ((BEL.out.alloc hs1 (.cells #[.int .u64 z] 67)).trans hbel')
      clear hown' hbel'
      go_wp2_with fail
      exact ⟨⟨k + 1, by omega, by go_num, by rw [HNX.out]; exact K5.out, B5.out⟩, by simp [intOf] <;> omega⟩
    · obtain rfl : k = zs.length := by omega
      rw [show zs.take zs.length = zs from List.take_length] at KW
      go_wp2_with fail
      exact HP.out _ _ KW.out BEL.out
theorem joinT_len (m : Nat) : ∀ (l : List (List UInt8)), (∀ x ∈ l, x.length ≤ m) → (joinT l).length ≤ (m + 1) * l.length
  | [], _ => by simp [joinT]
  | [x], h => by have := h x (by simp); simp [joinT]; omega
  | x :: y :: l, h => by
    have h1 := h x (by simp)
    have h2 := joinT_len m (y :: l) (fun z hz => h z (by simp [hz]))
    rw [joinT, List.length_append, List.length_cons, List.length_cons, Nat.mul_add]
    omega
set_option maxRecDepth 100000 in
set_option maxHeartbeats 1000000 in
theorem told_any (va : Value) (zs : List Int) (E : Int) (w : World) (h1 : IsNums w va zs) (hl : zs.length ≤ 1000000) (h0 : 0 ≤ E) (hE1 : E ≤ 1000) (htab : Lib.TabIs Tryz.prog w "internal/strconv.uint64pow10" .u64 Lib.pow10Tab) :
    Calls Tryz.prog 53 #[va, .int .i64 E] w fun e w' => e = .returned (.string (bs (toldT zs E))) ∧ Below w.heap.size w w' := by
  have KS := Lib.hid h1
  have HT := Lib.hid htab
  have CF := Lib.hid (failed_any E w h0 hE1 htab)
  obtain ⟨A1, c1, rfl, hc1, hm1, hl1, hi1, hr1⟩ := h1
  suffices hgoal : ∀ Post : Ending → World → Prop, (∀ w', Below w.heap.size w w' → Post (.returned (.string (bs (toldT zs E)))) w') → Calls Tryz.prog 53 #[.slice A1 zs.length c1, .int .i64 E] w Post from hgoal _ fun w' h1 => ⟨rfl, h1⟩
  intro Post hpo
  have HP := Lib.hid hpo
  clear hm1 hpo hr1 hi1 htab
  by_cases hE : E = 0
  · subst hE
    have HTD := Lib.hid (show toldT zs 0 = joinT (zs.map numL) from if_pos rfl)
    go_enter Tryz.func53, Tryz.ntmps53
    go_wp2_with fail
    go_loopw [5, 14] (fun v i wr => ∃ k : Nat, k ≤ zs.length ∧ i = .int .i64 k ∧ OwnStrs wr w.heap.size v ((zs.take k).map numL) ∧ Below w.heap.size w wr) (fun _ i _ => zs.length - (intOf i).toNat)
    case atStart => exact ⟨0, Nat.zero_le _, rfl, OwnStrs.nil _ _, Below.refl _ _⟩
    case round =>
      obtain ⟨k, hk, rfl, hown, hbel⟩ := hrel
      have KW := Lib.hid hown
      have BEL := Lib.hid hbel
      have hs1 := hbel.size
      clear hown hbel
      by_cases hlt : k < zs.length
      · obtain ⟨A, c, hA, _, _, _, hi, hr⟩ := KS.out.below BEL.out
        injection hA with hA1 hA2 hA3
        subst hA1 hA3
        obtain ⟨b1, o1, z, rfl, hb1, hz, hzu, hcz⟩ := nums_at hr hi hlt
        have HNX := Lib.hid (show (zs.take (k + 1)).map numL = (zs.take k).map numL ++ [numL z] by rw [List.take_add_one, hz, List.map_append]; rfl)
        have HKL := Lib.hid (show ((zs.take k).map numL).length = k by rw [List.length_map, List.length_take]; omega)
        have CFM := Lib.hid (fmt_nat z wr hzu.1 hzu.2 (tab_below HT.out BEL.out))
        obtain ⟨sz, hsz⟩ : ∃ sz, sz = bs (numL z) := ⟨_, rfl⟩
        have HSZ := Lib.hid hsz
        rw [← hsz] at CFM
        clear hr hi hb1 hz hA2 hzu hsz
        go_wp2_with fail
        refine CFM.out.mono ?_
        rintro e W2 ⟨rfl, q, os, hw2⟩
        have BG := Lib.hid (show Below wr.heap.size wr W2 by rw [hw2]; exact below_grow wr q os)
        have KW2 := Lib.hid (KW.out.below BG.out)
        have B2 := Lib.hid (below_trans BEL.out BG.out hs1)
        have hs2 := B2.out.size
        clear hw2 hcz
        try dsimp only
        go_wp2_with (at_builtin; go_loud (refine wpList_push_str rfl _ _ rfl w.heap.size _ _ (numL z) W2.heap.size 1 rfl (KW2.out.alloc _) rfl (by rw [← HSZ.out]; exact new_cell _ _ _) (by rw [HKL.out]; omega) (by rw [size_alloc]; omega) ?_))
        intro v' w5 hown' hbel'
        have K5 := Lib.hid hown'
        have B5 := Lib.hid ((B2.out.alloc hs2 (.cells #[.string sz] 9)).trans hbel')
        clear hown' hbel'
        go_wp2_with fail
        exact ⟨⟨k + 1, by omega, by go_num, by rw [HNX.out, List.map_take]; exact K5.out, B5.out⟩, by simp [intOf] <;> omega⟩
      · obtain rfl : k = zs.length := by omega
        rw [show zs.take zs.length = zs from List.take_length] at KW
        have CJ := Lib.hid (join_any _ _ wr KW.out.is (by
          have h := joinT_len 20 (zs.map numL) (fun x hx => by
            obtain ⟨z, hz, rfl⟩ := List.mem_map.1 hx
            exact numL_len z (by have := (KS.out.u64 z hz).2; omega))
          rw [List.length_map] at h
          omega))
        rw [← HTD.out] at CJ
        obtain ⟨nl, hnl⟩ : ∃ nl, nl = zs.map numL := ⟨_, rfl⟩
        rw [← hnl] at KW
        clear hnl
        obtain ⟨Ao, co, hv, _, _⟩ := own_form KW.out.1
        subst hv
        go_wp2_with fail
        refine CJ.out.mono ?_
        rintro e W2 ⟨rfl, hb⟩
        have B2 := Lib.hid (below_trans BEL.out hb hs1)
        clear hb
        try dsimp only
        go_wp2_with fail
        exact HP.out _ B2.out
  · have HTD := Lib.hid (show toldT zs E = errT E from if_neg hE)
    have hb : (E != 0) = true := by rw [bne_iff_ne]; exact hE
    rw [← HTD.out] at CF
    clear hE
    go_enter Tryz.func53, Tryz.ntmps53
    go_wp2_with fail
    refine CF.out.mono ?_
    rintro e w' ⟨rfl, hb⟩
    try dsimp only
    go_wp2_with fail
    exact HP.out _ hb
end Go.Proofs.YtploomncapiloaaGreatDoor
namespace Go.Proofs.YtploomncapiloaaGreatDoor
open Go.RowKit Croft
def AllNums (w : World) (vs : List Value) (rows : List (List Int)) : Prop := vs.length = rows.length ∧ ∀ (i : Nat) (x : Value) (r : List Int), vs[i]? = some x → rows[i]? = some r → IsNums w x r
theorem AllNums.below {w w' : World} {vs : List Value} {rows : List (List Int)} (h : AllNums w vs rows) (hb : Below w.heap.size w w') : AllNums w' vs rows := ⟨h.1, fun i x r hx hr => (h.2 i x r hx hr).below hb⟩
def IsNumss (w : World) (v : Value) (rows : List (List Int)) : Prop :=
  ∃ A cap vs, v = .slice A rows.length cap ∧ rows.length ≤ cap ∧ cap ≤ maxLen ∧ rows.length ≤ 5864062014805 ∧ Cells w A vs ∧ AllNums w vs rows
theorem IsNumss.below {w w' : World} {v : Value} {rows : List (List Int)} (h : IsNumss w v rows) (hb : Below w.heap.size w w') : IsNumss w' v rows := by
  obtain ⟨A, cap, vs, h1, h2, h3, h4, h5, h6⟩ := h
  exact ⟨A, cap, vs, h1, h2, h3, h4, h5.below hb, h6.below hb⟩
theorem numss_at {w : World} {A : Option Addr} {vs : List Value} {rows : List (List Int)} (h : Cells w A vs) (h2 : AllNums w vs rows) {k : Nat} (hk : k < rows.length) :
    ∃ b o x r, A = some ⟨b, o, none⟩ ∧ b < w.heap.size ∧ vs[k]? = some x ∧ rows[k]? = some r ∧ IsNums w x r ∧ w.cell? ⟨b, o + k, none⟩ = some x := by
  have hk2 : k < vs.length := by rw [h2.1]; exact hk
  obtain ⟨b, o, rfl, hb, hc⟩ := h.at_ hk2
  refine ⟨b, o, vs[k], rows[k], rfl, hb, List.getElem?_eq_getElem hk2, List.getElem?_eq_getElem hk, h2.2 k _ _ (List.getElem?_eq_getElem hk2) (List.getElem?_eq_getElem hk), ?_⟩
  rw [hc k hk2, List.getElem?_eq_getElem hk2]
structure Grid (w : World) (base : Nat) (v : Value) (vs : List Value) (rows : List (List Int)) : Prop where
  outer : w.ownsRow base 64 1 v rows.length vs
  len : rows.length ≤ 5864062014805
  row : ∀ (i : Nat) (x : Value) (r : List Int), vs[i]? = some x → rows[i]? = some r → OwnNums w base x r
  apart : ∀ (i j : Nat) (x y : Value) (b : Nat), vs[i]? = some x → vs[j]? = some y → x.ownBlock = some b → y.ownBlock = some b → i = j
theorem Grid.below {w w' : World} {base : Nat} {v : Value} {vs : List Value} {rows : List (List Int)} (h : Grid w base v vs rows) (hb : Below w.heap.size w w') : Grid w' base v vs rows :=
  ⟨own_kept h.outer hb, h.len, fun i x r hx hr => (h.row i x r hx hr).below hb, h.apart⟩
theorem Grid.drewN {w : World} {base : Nat} {v : Value} {vs : List Value} {rows : List (List Int)} (h : Grid w base v vs rows) (n : Nat) : Grid (w.drewN n) base v vs rows := ⟨h.outer, h.len, h.row, h.apart⟩
theorem Grid.alloc {w : World} {base : Nat} {v : Value} {vs : List Value} {rows : List (List Int)} (h : Grid w base v vs rows) (o : Obj) : Grid (w.alloc o) base v vs rows :=
  h.below ((Below.refl _ _).alloc (Nat.le_refl _) o)
theorem Grid.nil (w : World) (base : Nat) : Grid w base (.slice none 0 0) [] [] :=
  ⟨World.ownsRow_nil _ _ _ _, by simp, fun i x r hx => by simp at hx, fun i j x y b hx => by simp at hx⟩
theorem Grid.vlen {w : World} {base : Nat} {v : Value} {vs : List Value} {rows : List (List Int)} (h : Grid w base v vs rows) : vs.length = rows.length := by
  have := h.outer.1; omega
theorem Grid.is {w : World} {base : Nat} {v : Value} {vs : List Value} {rows : List (List Int)} (h : Grid w base v vs rows) : IsNumss w v rows := by
  obtain ⟨A, cap, rfl, h4, h5⟩ := own_form h.outer
  exact ⟨A, cap, vs, rfl, h4, h5, h.len, Cells.of_own h.outer, h.vlen, fun i x r hx hr => (h.row i x r hx hr).is⟩
theorem own_block_form {w : World} {base : Nat} {e : TypeId} {size n : Nat} {v : Value} {xs : List Value} {g : Nat} (h : w.ownsRow base e size v n xs) (hg : v.ownBlock = some g) : ∃ cur, w.heap[g]? = some (.cells cur e (0, 0)) := by
  rcases h.2 with ⟨rfl, _⟩ | ⟨g', cap, cur, rfl, _, hgg, _⟩
  · simp [Value.ownBlock] at hg
  · simp [Value.ownBlock] at hg
    subst hg
    exact ⟨cur, hgg⟩
theorem kinds_apart {w : World} {b1 b2 : Nat} {e1 e2 : TypeId} {s1 s2 n1 n2 : Nat} {v1 v2 : Value} {x1 x2 : List Value} {g : Nat} (h1 : w.ownsRow b1 e1 s1 v1 n1 x1) (h2 : w.ownsRow b2 e2 s2 v2 n2 x2) (hne : e1 ≠ e2) (hg : v1.ownBlock = some g) : v2.ownBlock ≠ some g := by
  intro hg2
  obtain ⟨c1, k1⟩ := own_block_form h1 hg
  obtain ⟨c2, k2⟩ := own_block_form h2 hg2
  rw [k1] at k2
  injection k2 with k2
  injection k2 with _ k2
  exact hne k2
theorem set_grown (w : World) (g j : Nat) (u : Value) : w.grownBy (w.setCell ⟨g, j, none⟩ u) (some g) :=
  ⟨rfl, rfl, rfl, by simp [World.setCell], fun i _ hi => Below.heap_setCell _ _ _ _ (by rintro rfl; exact hi rfl)⟩
theorem OwnNums.kept {w w' : World} {base : Nat} {v : Value} {zs : List Int} {row : Option Nat} (h : OwnNums w base v zs) (hg : w.grownBy w' row) (hne : v.ownBlock = none ∨ v.ownBlock ≠ row) : OwnNums w' base v zs := ⟨h.1.kept hg hne, h.2⟩
section
variable {w : World} {base : Nat} {v : Value} {vs : List Value} {rows : List (List Int)}
theorem Grid.cell {g n c : Nat} (h : Grid w base (.slice (some ⟨g, 0, none⟩) n c) vs rows) {i : Nat} {x : Value} (hx : vs[i]? = some x) : w.cell? ⟨g, i, none⟩ = some x := by
  have hn : n = rows.length := by
    rcases h.outer.2 with ⟨hv, _⟩ | ⟨g', cap, cur, hv, _⟩
    · simp at hv
    · injection hv
  subst hn
  have hi := (List.getElem?_eq_some_iff.1 hx).1
  have hl := h.vlen
  rw [h.outer.cellAt i (by omega), hx]
theorem Grid.frozen {g n c : Nat} (h : Grid w base (.slice (some ⟨g, 0, none⟩) n c) vs rows) (i : Nat) : w.frozen? ⟨g, i, none⟩ = false := by
  have hn : n = rows.length := by
    rcases h.outer.2 with ⟨hv, _⟩ | ⟨g', cap, cur, hv, _⟩
    · simp at hv
    · injection hv
  subst hn
  exact h.outer.frozenAt i
theorem Grid.at_ (h : Grid w base v vs rows) {i : Nat} {r : List Int} (hr : rows[i]? = some r) (hp : 0 < r.length) : ∃ b c, vs[i]? = some (.slice (some ⟨b, 0, none⟩) r.length c) ∧ OwnNums w base (.slice (some ⟨b, 0, none⟩) r.length c) r ∧ r.length ≤ c ∧ c ≤ maxLen ∧ base ≤ b ∧ b < w.heap.size := by
  have hi : i < vs.length := by rw [h.vlen]; exact (List.getElem?_eq_some_iff.1 hr).1
  have hv : vs[i]? = some vs[i] := List.getElem?_eq_getElem hi
  have ho := h.row i _ _ hv hr
  obtain ⟨b, c, hf, hb1, hb2, hc1, hc2⟩ := ho.form hp
  rw [hf] at ho
  exact ⟨b, c, by rw [hv, hf], ho, hc1, hc2, hb1, hb2⟩
theorem Grid.setNum (h : Grid w base v vs rows) {i g n c : Nat} {r : List Int} (hv : vs[i]? = some (.slice (some ⟨g, 0, none⟩) n c)) (hr : rows[i]? = some r) (j : Nat) {z : Int} (hz : U64 z) :
    Grid (w.setCell ⟨g, j, none⟩ (.int .u64 z)) base v vs (rows.set i (r.set j z)) := by
  have hg := set_grown w g j (.int .u64 z)
  have hi := h.row i _ _ hv hr
  refine ⟨?_, by simpa using h.len, fun k x s hx hs => ?_, h.apart⟩
  · rw [List.length_set]
    refine h.outer.kept hg ?_
    exact .inr (kinds_apart hi.1 h.outer (by decide) rfl)
  · by_cases hk : k = i
    · subst hk
      obtain rfl := Option.some.inj (hv.symm.trans hx)
      rw [List.getElem?_set_self (by exact (List.getElem?_eq_some_iff.1 hr).1)] at hs
      obtain rfl := Option.some.inj hs
      exact hi.set_ j hz
    · rw [List.getElem?_set_ne (Ne.symm hk)] at hs
      refine (h.row k x s hx hs).kept hg (.inr fun hb => hk ?_)
      exact h.apart k i x _ g hx hv hb rfl
end
theorem linfo : (Tryz.prog.info? 64).map (fun i => (i.zero, i.size, i.bytes)) = some (some (.slice none 0 0), 1, 24) := by kernel_rfl
theorem wpList_push_row {ops : Array Oper} {rest : List Oper} {o : Oper} {a : Act} {Q : Exit → Act → World → Prop} {w : World} (hgd : o.guard = none) (s x : Operand)
    (ho : o.op = .call { callee := .builtin .append, args := #[s, x], argTypes := #[86, 86] })
    (base : Nat) (v : Value) (vs : List Value) (rows : List (List Int)) (y : Value) (r : List Int) (g c : Nat) (hs : a.eval s = v) (hown : Grid w base v vs rows) (hx : a.eval x = .slice (some ⟨g, 0, none⟩) 1 c)
    (hc : w.cell? ⟨g, 0, none⟩ = some y) (hy : OwnNums w base y r) (hfar : ∀ (k : Nat) (z : Value) (b : Nat), vs[k]? = some z → z.ownBlock = some b → y.ownBlock ≠ some b) (hl : rows.length + 1 ≤ 5864062014805) (hb : base ≤ w.heap.size)
    (h : ∀ v' w', Grid w' base v' (vs ++ [y]) (rows ++ [r]) → Below base w w' → wpList Tryz.prog ops Q rest (a.put o.dst v') w') : wpList Tryz.prog ops Q (o :: rest) a w := by
  obtain ⟨i0, hi, hz0, hz1, hz2⟩ := info_parts linfo
  refine wpList_append_own w hgd s x 86 ho base 64 i0 (.slice none 0 0) 1 24 Tryz.underlying86 hi hz0 hz1 hz2 rfl (by decide) v rows.length vs hs hown.outer ⟨g, 0, none⟩ 1 c [y] hx rfl ?_ ?_ ?_ ?_ hb ?_
  · intro j u hu
    match j, hu with
    | 0, hu =>
      simp at hu
      subst hu
      rw [add_addr]; exact hc
  · intro u hu
    simp at hu
    subst hu
    obtain ⟨A, cap, rfl, _, _⟩ := own_form hy.1
    rfl
  · unfold maxLen; omega
  · omega
  · intro v' w' h1 h2 _
    have kept : ∀ (z : Value) (q : List Int), OwnNums w base z q → OwnNums w' base z q := fun z q hz => hz.kept h2 (by
      cases hzb : z.ownBlock with
      | none => exact .inl rfl
      | some b => exact .inr fun hvb => kinds_apart hz.1 hown.outer (by decide) hzb hvb.symm)
    refine h v' w' ⟨?_, by simpa using hl, fun k z q hz hq => ?_, fun k l z z' b hz hz' hzb hzb' => ?_⟩ ((Below.refl _ _).grown h2 hb (fun k hk => (hown.outer.lt k hk).1))
    · have e : (rows ++ [r]).length = rows.length + 1 := by simp
      rw [e]; exact h1
    · have hvl := hown.vlen
      rcases Nat.lt_or_ge k vs.length with hk | hk
      · rw [List.getElem?_append_left hk] at hz
        rw [List.getElem?_append_left (by omega)] at hq
        exact kept z q (hown.row k z q hz hq)
      · rw [List.getElem?_append_right hk] at hz
        rw [List.getElem?_append_right (by omega), ← hvl] at hq
        have h0 : k - vs.length = 0 := by
          have := (List.getElem?_eq_some_iff.1 hz).1
          simpa using this
        rw [h0] at hz hq
        simp at hz hq
        subst hz hq
        exact kept _ _ hy
    · have at_ : ∀ {k : Nat} {z : Value}, (vs ++ [y])[k]? = some z → vs[k]? = some z ∨ k = vs.length ∧ z = y := fun {k z} hz => by
        rcases Nat.lt_or_ge k vs.length with hk | hk
        · rw [List.getElem?_append_left hk] at hz; exact .inl hz
        · rw [List.getElem?_append_right hk] at hz
          have h0 : k - vs.length = 0 := by
            have := (List.getElem?_eq_some_iff.1 hz).1
            simpa using this
          rw [h0] at hz
          simp at hz
          exact .inr ⟨by omega, hz.symm⟩
      rcases at_ hz with h3 | ⟨h3, rfl⟩
      · rcases at_ hz' with h4 | ⟨h4, rfl⟩
        · exact hown.apart k l z z' b h3 h4 hzb hzb'
        · exact absurd hzb' (hfar k z b h3 hzb)
      · rcases at_ hz' with h4 | ⟨h4, rfl⟩
        · exact absurd hzb (hfar l z' b h4 hzb')
        · omega
theorem wpList_make_grid {ops : Array Oper} {rest : List Oper} {o : Oper} {a : Act} {Q : Exit → Act → World → Prop} {w : World} (hgd : o.guard = none) (l c : Operand)
    (ho : o.op = Op.makeSlice 86 l c) (base : Nat) (L : Int) (m : Nat) (hl : a.eval l = .int .i64 L) (hc : a.eval c = .int .i64 L) (hL : L = (m : Int)) (hm : m ≤ 5864062014805) (hb : base ≤ w.heap.size)
    (h : ∀ w', Grid w' base (.slice (some ⟨w.heap.size, 0, none⟩) m m) (List.replicate m (.slice none 0 0)) (List.replicate m []) → Below base w w' → wpList Tryz.prog ops Q rest (a.put o.dst (.slice (some ⟨w.heap.size, 0, none⟩) m m)) w') : wpList Tryz.prog ops Q (o :: rest) a w := by
  obtain ⟨i0, hi, hz0, hz1, hz2⟩ := info_parts linfo
  refine wpList_make_full w hgd l c 86 ho base 64 i0 (.slice none 0 0) 1 Tryz.underlying86 hi hz0 hz1 .i64 .i64 L L m hl hc hL hL (by rw [hz2]; omega) (by unfold maxLen; omega) hb ?_
  intro w' h1 h2
  refine h w' ⟨?_, by simpa using hm, fun i x r hx hr => ?_, fun i j x y b hx hy hxb => ?_⟩ ((Below.refl _ _).grown h2 hb (fun k hk => by cases hk))
  · have e : (madeCells (Value.cells (.slice none 0 0)) (m * 1)).toList = List.replicate m (.slice none 0 0) := by
      apply List.ext_getElem
      · simp [madeCells]
      · intro j h1 h2
        simp [madeCells, Value.cells, Nat.mod_one]
    rw [List.length_replicate, ← e]
    exact h1
  · rw [List.getElem?_replicate] at hx hr
    by_cases hi : i < m
    · rw [if_pos hi] at hx hr
      obtain rfl := Option.some.inj hx
      obtain rfl := Option.some.inj hr
      exact OwnNums.nil _ _
    · rw [if_neg hi] at hx
      simp at hx
  · rw [List.getElem?_replicate] at hx
    split at hx
    · obtain rfl := Option.some.inj hx
      simp [Value.ownBlock] at hxb
    · simp at hx
end Go.Proofs.YtploomncapiloaaGreatDoor
namespace Go.Proofs.YtploomncapiloaaGreatDoor
open Go.RowKit Go.Sort Go.PlainAid Croft
theorem handle_any (h E : Int) (w : World) (hh0 : 0 ≤ h) (hh1 : h ≤ 9223372036854775807) (h0 : 0 ≤ E) (h1 : E ≤ 1000) (htab : Lib.TabIs Tryz.prog w "internal/strconv.uint64pow10" .u64 Lib.pow10Tab) :
    Calls Tryz.prog 64 #[.int .i64 h, .int .i64 E] w fun e w' => e = .returned (.string (bs (toldT [h] E))) ∧ Below w.heap.size w w' := by
  have hwz : IntKind.u64.wrap h = h := u64_nonneg hh0 (by omega)
  have BA := Lib.hid ((Below.refl w.heap.size w).alloc (Nat.le_refl _) (.cells #[.int .u64 h] 67))
  have KN := Lib.hid (lit_nums w [h] (by intro z hz; simp only [List.mem_singleton] at hz; subst hz; exact ⟨by omega, by omega⟩) (by simp))
  have CT := Lib.hid (told_any _ [h] E _ KN.out (by simp) h0 h1 (tab_below htab BA.out))
  clear htab
  go_enter Tryz.func64, Tryz.ntmps64
  go_wp2_with fail
  refine CT.out.mono ?_
  rintro e w' ⟨rfl, hb⟩
  have B2 := Lib.hid (below_trans BA.out hb BA.out.size)
  clear hb
  try dsimp only
  go_wp2_with fail
  go_ret
  exact ⟨rfl, B2.out⟩
theorem grown_of_below {w w' : World} (h : Below w.heap.size w w') (b : Nat) : w.grownBy w' (some b) := ⟨h.os, h.tape, h.output, h.size, fun k hk _ => h.block k hk⟩
set_option maxRecDepth 100000 in
set_option maxHeartbeats 1000000 in
theorem more_any (db : Nat) (tx : List UInt8) (kp va : Value) (ws : List (List UInt8)) (w : World) (hd : Box w db 32 [.string (bs tx), kp]) (h1 : IsStrs w va ws) (htx : tx.length ≤ 2048) (hws : (joinT ws).length ≤ 1000000) (htab : Lib.TabIs Tryz.prog w "internal/strconv.uint64pow10" .u64 Lib.pow10Tab) :
    Calls Tryz.prog 27 #[.pointer (some ⟨db, 0, none⟩), va] w fun e w' => e = .returned (.string (bs (moreA tx ws).1)) ∧ Box w' db 32 [.string (bs (moreA tx ws).2), kp] ∧ w.grownBy w' (some db) := by
  have BX := Lib.hid hd
  have KS := Lib.hid h1
  have HT := Lib.hid htab
  obtain ⟨A1, c1, rfl, hc1, hm1, hl1, hr1⟩ := h1
  suffices hgoal : ∀ Post : Ending → World → Prop, (∀ w', Box w' db 32 [.string (bs (moreA tx ws).2), kp] → w.grownBy w' (some db) → Post (.returned (.string (bs (moreA tx ws).1))) w') → Calls Tryz.prog 27 #[.pointer (some ⟨db, 0, none⟩), .slice A1 ws.length c1] w Post from hgoal _ fun w' h1 h2 => ⟨rfl, h1, h2⟩
  intro Post hpo
  have HP := Lib.hid hpo
  have CF3 := Lib.hid (failed_any 3 w (by omega) (by omega) htab)
  have CJ := Lib.hid (join_any _ ws w KS.out (by omega))
  clear hm1 hpo hr1 htab hd
  by_cases hw : ws = []
  · subst hw
    go_enter Tryz.func27, Tryz.ntmps27
    go_wp2_with fail
    refine CF3.out.mono ?_
    rintro e w' ⟨rfl, hb⟩
    have hp := HP.out w' (BX.out.below hb) (grown_of_below hb db)
    have hm : (moreA tx []).1 = errT 3 := by unfold moreA; rw [if_pos rfl]
    rw [hm] at hp
    have HPP := Lib.hid hp
    clear hb hp hm
    try dsimp only
    go_wp2_with fail
    exact HPP.out
  · have hpos : 0 < ws.length := List.length_pos_iff.2 hw
    have hbl : ((ws.length : Int) == 0) = false := by rw [beq_eq_false_iff_ne]; omega
    obtain ⟨sj, hsj⟩ : ∃ sj, sj = bs (joinT ws) := ⟨_, rfl⟩
    obtain ⟨st, hst⟩ : ∃ st, st = bs tx := ⟨_, rfl⟩
    have hzj : sj.size = (joinT ws).length := by rw [hsj, bs_size]
    have hzt : st.size = tx.length := by rw [hst, bs_size]
    obtain ⟨s2, hs2⟩ : ∃ s2, s2 = bs (joinT ws ++ [10]) := ⟨_, rfl⟩
    have hz2 : s2.size = (joinT ws).length + 1 := by rw [hs2, bs_size, List.length_append]; rfl
    have t1 : ∀ W, (Op.stringOp .add sj ⟨#[10]⟩).run Tryz.prog W = .ok (.string s2) W := fun W => by
      rw [hs2, hsj]
      exact (run_string_add_sum W (bs (joinT ws)) (bs [10]) (by rw [bs_size, bs_size]; simp; omega)).trans (by rw [bs_append])
    have HC3 := Lib.hid (show st ++ s2 = bs (tx ++ (joinT ws ++ [10])) by rw [hst, hs2, bs_append])
    obtain ⟨s3, hs3⟩ : ∃ s3, s3 = st ++ s2 := ⟨_, rfl⟩
    have t2 : ∀ W, (Op.stringOp .add st s2).run Tryz.prog W = .ok (.string s3) W := fun W => by
      rw [hs3]; exact run_string_add_sum W st s2 (by omega)
    rw [← hs3] at HC3
    rw [← hsj] at CJ
    rw [← hst] at BX
    have HST := Lib.hid hst
    have HW := Lib.hid hw
    clear hsj hst hs2 hs3 hw
    by_cases hbig : 2048 < tx.length + ((joinT ws).length + 1)
    · have HM := Lib.hid (show moreA tx ws = (errT 2, tx) by unfold moreA; rw [if_neg HW.out, if_pos hbig])
      have hb48 : (2048 : Int) < (st.size : Int) + (s2.size : Int) := by omega
      go_enter Tryz.func27, Tryz.ntmps27
      go_wp2_with fail
      refine CJ.out.mono ?_
      rintro e W2 ⟨rfl, hb⟩
      have BX2 := Lib.hid (BX.out.below hb)
      have HB := Lib.hid hb
      have CF2 := Lib.hid (failed_any 2 W2 (by omega) (by omega) (tab_below HT.out hb))
      have hc0 := BX2.out.cell (i := 0) rfl
      clear hb
      try dsimp only
      go_wp2_with fail
      refine CF2.out.mono ?_
      rintro e W3 ⟨rfl, hb⟩
      have hp := HP.out W3 (by rw [HM.out]; have h := BX2.out.below hb; rw [HST.out] at h; exact h) (grown_of_below (HB.out.trans (hb.mono HB.out.size)) db)
      rw [HM.out] at hp
      have HPP := Lib.hid hp
      clear hb hp hc0
      try dsimp only
      go_wp2_with fail
      exact HPP.out
    · have HM := Lib.hid (show moreA tx ws = (okT, tx ++ (joinT ws ++ [10])) by unfold moreA; rw [if_neg HW.out, if_neg hbig])
      have hb48 : (st.size : Int) + (s2.size : Int) ≤ 2048 := by omega
      go_enter Tryz.func27, Tryz.ntmps27
      go_wp2_with fail
      refine CJ.out.mono ?_
      rintro e W2 ⟨rfl, hb⟩
      have BX2 := Lib.hid (BX.out.below hb)
      have HB := Lib.hid hb
      have hc0 := BX2.out.cell (i := 0) rfl
      have hf0 := BX2.out.frozen 0
      have hp := HP.out (W2.setCell ⟨db, 0, none⟩ (.string s3)) (by rw [HM.out, ← HC3.out]; exact BX2.out.set 0 (.string s3)) ((grown_of_below hb db).trans (set_grown W2 db 0 (.string s3)))
      rw [HM.out] at hp
      have HPP := Lib.hid hp
      clear hb hp
      try dsimp only
      go_wp2_with fail
      exact HPP.out
end Go.Proofs.YtploomncapiloaaGreatDoor
