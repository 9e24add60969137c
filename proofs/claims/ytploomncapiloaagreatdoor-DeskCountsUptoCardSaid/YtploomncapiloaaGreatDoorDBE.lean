/- Parts of the proof, put together by a program: DeskA DeskB. No condition. -/
import Derived.Test.YtploomncapiloaaGreatDoorDBD
namespace Go.Proofs.YtploomncapiloaaGreatDoor
open Go.RowKit Go.Sort Go.PlainAid Croft
def afterL (c : UInt8) : List (List UInt8) → List (List UInt8)
  | [] => []
  | [x] => [x]
  | x :: y :: l => (x ++ [c]) :: afterL c (y :: l)
theorem afterL_length (c : UInt8) : ∀ l, (afterL c l).length = l.length
  | [] => rfl
  | [_] => rfl
  | x :: y :: l => by rw [afterL, List.length_cons, afterL_length c (y :: l)]; rfl
theorem afterL_cons (c : UInt8) (x : List UInt8) {l : List (List UInt8)} (h : l ≠ []) : afterL c (x :: l) = (x ++ [c]) :: afterL c l := by
  cases l with
  | nil => exact absurd rfl h
  | cons y l => rfl
theorem splitK_after (c : UInt8) : ∀ (k : Nat) (l : List UInt8), l.count c = k → Go.Lib.splitK [c] 1 k l = afterL c (pieces c l)
  | 0, l, h => by
    rw [Go.Lib.splitK, pieces_miss (List.count_eq_zero.1 h)]; rfl
  | k + 1, l, h => by
    rcases cut_at c l with hm | ⟨x, y, rfl, hx⟩
    · rw [List.count_eq_zero.2 hm] at h; omega
    · rw [Go.Lib.splitK, index_hit y hx, if_neg (by rw [beq_iff_eq]; omega), pieces_hit y hx]
      have hc : y.count c = k := by
        rw [List.count_append, List.count_eq_zero.2 hx, List.count_cons_self] at h; omega
      rw [afterL_cons c x (pieces_ne c y), ← splitK_after c k y hc]
      have e : (x ++ c :: y).take ((x.length : Int).toNat + 1) = x ++ [c] := by
        rw [Int.toNat_natCast, show x ++ c :: y = (x ++ [c]) ++ y by simp]
        rw [List.take_left' (by simp)]
      rw [e]
      simp
theorem splitB_after (c : UInt8) (s : ByteArray) : (Go.Lib.splitB ⟨#[c]⟩ 1 (Go.Lib.countB s ⟨#[c]⟩) s).map (·.data.toList) = afterL c (pieces c s.data.toList) := by
  rw [Go.Lib.splitB_data]
  exact splitK_after c _ _ (Go.Lib.count_one c _).symm
theorem splitAfter_is (c : UInt8) (l : List UInt8) (w : World) (hl : l.length < 4294967281) (hm : MaxIs w) :
    Calls Tryz.prog 12 #[.string (bs l), .string ⟨#[c]⟩] w fun e w' => ∃ v, e = .returned v ∧ OwnStrs w' w.heap.size v (afterL c (pieces c l)) ∧ Below w.heap.size w w' := by
  obtain ⟨m, hm⟩ := hm
  have hp := splitB_after c (bs l)
  rw [data_bs] at hp
  have hs : (Lib.splitB ⟨#[c]⟩ 1 (Lib.countB (bs l) ⟨#[c]⟩) (bs l)).map Value.string = sts (afterL c (pieces c l)) := by
    rw [← hp, sts, List.map_map]
    apply List.map_congr_left
    intro s _
    simp [bs_data]
  have hlen : (pieces c l).length = Lib.countB (bs l) ⟨#[c]⟩ + 1 := by
    rw [← afterL_length c, ← hp, List.length_map, Lib.splitB_all ⟨#[c]⟩ (Nat.le_refl 1) _ _ _ rfl]
  have hle : Lib.countB (bs l) ⟨#[c]⟩ ≤ (bs l).size := Lib.countB_le ⟨#[c]⟩ (Nat.le_refl 1) _ _ (Nat.le_refl _)
  have CG := Lib.hid (sh_strings_genSplit (bs l) ⟨#[c]⟩ 1 (-1) (Lib.countB (bs l) ⟨#[c]⟩ + 1) m w (by rw [bs_size]; exact hl) hm (Nat.le_refl 1) (Nat.le_refl 1) (by decide) (by decide) (by rw [if_pos (by decide)]; omega))
  suffices hgoal : ∀ Post : Ending → World → Prop, (∀ v w', OwnStrs w' w.heap.size v (afterL c (pieces c l)) → Below w.heap.size w w' → Post (.returned v) w') → Calls Tryz.prog 12 #[.string (bs l), .string ⟨#[c]⟩] w Post from hgoal _ fun v w' h1 h2 => ⟨v, rfl, h1, h2⟩
  intro Post hpo
  have HP := Lib.hid hpo
  have HS := Lib.hid hs
  have HLEN := Lib.hid hlen
  have HPL := Lib.hid (pieces_le c l)
  obtain ⟨s, hs'⟩ : ∃ s, s = bs l := ⟨_, rfl⟩
  rw [← hs'] at CG HS HLEN ⊢
  clear hpo hs hlen hp hle hs' hm
  go_enter Tryz.func12, Tryz.ntmps12
  go_wp2_with fail
  refine CG.out.mono ?_
  rintro e w' ⟨rfl, rfl⟩
  try dsimp only
  go_wp2_with fail
  have hlen2 : (Lib.splitB ⟨#[c]⟩ 1 (Lib.countB s ⟨#[c]⟩) s).length = Lib.countB s ⟨#[c]⟩ + 1 := Lib.splitB_all ⟨#[c]⟩ (Nat.le_refl 1) _ _ _ rfl
  have hN : Lib.countB s ⟨#[c]⟩ + 1 - 1 = Lib.countB s ⟨#[c]⟩ := by omega
  have ho := lit_strs w w.heap.size (afterL c (pieces c l)) (by rw [afterL_length]; have := HPL.out; omega) (Nat.le_refl _)
  have hb := (Below.refl w.heap.size w).alloc (Nat.le_refl _) (.cells (sts (afterL c (pieces c l))).toArray 9)
  have hc : Lib.cellsOf (Lib.splitB ⟨#[c]⟩ 1 (Lib.countB s ⟨#[c]⟩) s) (Lib.countB s ⟨#[c]⟩ + 1) = (sts (afterL c (pieces c l))).toArray := by
    rw [← HS.out, Lib.cellsOf, hlen2]; simp
  have hp := HP.out _ _ ho hb
  rw [afterL_length, HLEN.out] at hp
  rw [hN, hc, hlen2]
  exact hp
end Go.Proofs.YtploomncapiloaaGreatDoor
namespace Croft
theorem pieces_free (c : UInt8) : ∀ (l x : List UInt8), x ∈ pieces c l → c ∉ x
  | [], x, h => by simp [pieces] at h; subst h; simp
  | b :: l, x, h => by
    rw [pieces] at h
    split at h
    · rcases List.mem_cons.1 h with h | h
      · subst h; simp
      · exact pieces_free c l x h
    · next hb =>
      cases hp : pieces c l with
      | nil => exact absurd hp (pieces_ne c l)
      | cons p ps =>
        rw [hp] at h
        simp only at h
        rcases List.mem_cons.1 h with h | h
        · subst h
          have := pieces_free c l p (by rw [hp]; simp)
          simp only [List.mem_cons, not_or]
          exact ⟨fun e => hb (by first | exact e.symm | simp [e] | exact e), this⟩
        · exact pieces_free c l x (by rw [hp]; simp [h])
def trimL (x : List UInt8) : List UInt8 := Go.Lib.trimSuffix x [10]
theorem trimL_hit (x : List UInt8) : trimL (x ++ [10]) = x := by
  unfold trimL Go.Lib.trimSuffix Go.Lib.hasSuffix
  simp
theorem trimL_miss {x : List UInt8} (h : (10 : UInt8) ∉ x) : trimL x = x := by
  unfold trimL Go.Lib.trimSuffix Go.Lib.hasSuffix
  rw [if_neg]
  intro hs
  rw [List.isSuffixOf_iff_suffix] at hs
  obtain ⟨t, ht⟩ := hs
  exact h (by rw [← ht]; simp)
def linesA (P : List (List UInt8)) (hne : P ≠ []) : List (List UInt8) := if P.getLast hne = [] then (Go.Proofs.YtploomncapiloaaGreatDoor.afterL 10 P).dropLast else Go.Proofs.YtploomncapiloaaGreatDoor.afterL 10 P
theorem afterL_trim : ∀ (P : List (List UInt8)), (∀ x ∈ P, (10 : UInt8) ∉ x) → (Go.Proofs.YtploomncapiloaaGreatDoor.afterL 10 P).map trimL = P
  | [], _ => rfl
  | [x], h => by rw [Go.Proofs.YtploomncapiloaaGreatDoor.afterL, List.map_cons, trimL_miss (h x (by simp))]; rfl
  | x :: y :: l, h => by
    rw [Go.Proofs.YtploomncapiloaaGreatDoor.afterL, List.map_cons, trimL_hit, afterL_trim (y :: l) (fun z hz => h z (by simp [hz]))]
theorem afterL_last : ∀ (P : List (List UInt8)) (hne : P ≠ []) (h2 : Go.Proofs.YtploomncapiloaaGreatDoor.afterL 10 P ≠ []), (Go.Proofs.YtploomncapiloaaGreatDoor.afterL 10 P).getLast h2 = P.getLast hne
  | [], h, _ => absurd rfl h
  | [x], _, _ => rfl
  | x :: y :: l, hne, h2 => by
    simp only [Go.Proofs.YtploomncapiloaaGreatDoor.afterL]
    have h3 : Go.Proofs.YtploomncapiloaaGreatDoor.afterL 10 (y :: l) ≠ [] := fun e => by
      have := congrArg List.length e
      rw [Go.Proofs.YtploomncapiloaaGreatDoor.afterL_length] at this
      simp at this
    rw [List.getLast_cons h3, List.getLast_cons (List.cons_ne_nil y l)]
    exact afterL_last (y :: l) _ h3
theorem linesA_trim (s : List UInt8) : (linesA (pieces 10 s) (pieces_ne 10 s)).map trimL = textL s := by
  unfold linesA textL
  have h := afterL_trim (pieces 10 s) (fun x hx => pieces_free 10 s x hx)
  split
  · rw [List.map_dropLast, h]
  · exact h
def tot (l : List (List UInt8)) : Nat := (l.map fun x => x.length + 1).sum
theorem tot_cons (x : List UInt8) (l : List (List UInt8)) : tot (x :: l) = x.length + 1 + tot l := by simp [tot]
theorem tot_pieces (c : UInt8) : ∀ l, tot (pieces c l) = l.length + 1
  | [] => by simp [pieces, tot]
  | b :: l => by
    have ih := tot_pieces c l
    rw [pieces]
    split
    · rw [tot_cons, ih]; simp; omega
    · cases hp : pieces c l with
      | nil => exact absurd hp (pieces_ne c l)
      | cons p ps =>
        rw [hp, tot_cons] at ih
        simp only
        rw [tot_cons]
        simp only [List.length_cons] at ih ⊢
        omega
theorem tot_filter (f : List UInt8 → Bool) : ∀ l, tot (l.filter f) ≤ tot l
  | [] => Nat.le_refl _
  | x :: l => by
    have := tot_filter f l
    rw [List.filter_cons]
    split
    · rw [tot_cons, tot_cons]; omega
    · rw [tot_cons]; omega
theorem tot_length : ∀ l, l.length ≤ tot l
  | [] => Nat.zero_le _
  | x :: l => by have := tot_length l; rw [tot_cons, List.length_cons]; omega
theorem tot_mem : ∀ (l : List (List UInt8)) (x : List UInt8), x ∈ l → x.length ≤ tot l
  | [], x, h => by cases h
  | y :: l, x, h => by
    rw [tot_cons]
    rcases List.mem_cons.1 h with h | h
    · subst h; omega
    · have := tot_mem l x h; omega
theorem tot_join : ∀ l, (joinT l).length ≤ tot l
  | [] => Nat.zero_le _
  | [x] => by rw [tot_cons]; simp [joinT]; omega
  | x :: y :: l => by
    have := tot_join (y :: l)
    rw [tot_cons, joinT, List.length_append, List.length_cons]
    omega
theorem tot_words (l : List UInt8) : tot (wordsL l) ≤ l.length + 1 := by
  rw [← tot_pieces 32 l]; exact tot_filter _ _
theorem line_tot (s : List UInt8) : ∀ x ∈ pieces 10 s, x.length ≤ s.length + 1 := fun x hx => by
  have := tot_mem _ x hx
  rw [tot_pieces] at this
  exact this
theorem afterL_len : ∀ (P : List (List UInt8)) (m : Nat), (∀ x ∈ P, x.length ≤ m) → ∀ y ∈ Go.Proofs.YtploomncapiloaaGreatDoor.afterL 10 P, y.length ≤ m + 1
  | [], m, _, y, hy => by cases hy
  | [x], m, h, y, hy => by
    rw [Go.Proofs.YtploomncapiloaaGreatDoor.afterL, List.mem_singleton] at hy
    subst hy
    have := h y (by simp); omega
  | x :: z :: l, m, h, y, hy => by
    rw [Go.Proofs.YtploomncapiloaaGreatDoor.afterL] at hy
    rcases List.mem_cons.1 hy with hy | hy
    · subst hy
      have := h x (by simp)
      simp; omega
    · exact afterL_len (z :: l) m (fun w hw => h w (by simp [hw])) y hy
theorem linesA_len (s : List UInt8) : ∀ y ∈ linesA (pieces 10 s) (pieces_ne 10 s), y.length ≤ s.length + 2 := fun y hy => by
  have h := afterL_len (pieces 10 s) (s.length + 1) (line_tot s)
  unfold linesA at hy
  split at hy
  · exact h y (List.dropLast_subset _ hy)
  · exact h y hy
end Croft
namespace Go.Proofs.YtploomncapiloaaGreatDoor
open Go.RowKit Go.Sort Go.PlainAid Croft
theorem errT_len (E : Int) (h : E < 1000000) : (errT E).length ≤ 26 := by
  unfold errT
  rw [List.length_append]
  have := numL_len E (by omega)
  simp; omega
theorem toldT_len (l : List Int) (E : Int) (hE : E < 1000000) (h : ∀ z ∈ l, z < 18446744073709551616) : (toldT l E).length ≤ 26 + 21 * l.length := by
  unfold toldT
  split
  · have h2 := joinT_len 20 (l.map numL) (fun x hx => by
      obtain ⟨z, hz, rfl⟩ := List.mem_map.1 hx
      exact numL_len z (h z hz))
    rw [List.length_map] at h2
    omega
  · have := errT_len E hE; omega
theorem ofFs_lt (l : List F) : ∀ z ∈ ofFs l, z < 18446744073709551616 := fun z hz => (ofFs_u64 l z hz).2
theorem netA_len (tx : List UInt8) (f : List Gt → List Int → List UInt8) (h : ∀ gs os, circE gs os = 0 → (f gs os).length ≤ 5000) : (netA tx f).length ≤ 5000 := by
  unfold netA
  split
  · next he => exact h _ _ (circE_zero.2 (parseT_ok he))
  · have h1 := parseT_e tx
    have h2 := parseT_at tx
    have h3 := errT_len (parseT tx).e (by omega)
    have h4 := numL_len (parseT tx).at_ (by omega)
    rw [List.length_append, List.length_cons]
    omega
theorem showF_len {gs : List Gt} {os : List Int} (h : circE gs os = 0) : (showF gs os).length ≤ 5000 := by
  unfold showF okT
  have := circT_small h
  rw [List.length_append]
  simp; omega
theorem runF_len (n : List Int) {gs : List Gt} {os : List Int} (h : circE gs os = 0) : (runF n gs os).length ≤ 5000 := by
  unfold runF
  have h1 := runL_len h n
  have h2 := runE_range gs os n
  have h3 := toldT_len (runL gs os n) (runE gs os n) (by omega) (fun z hz => by
    unfold runL at hz
    split at hz
    · exact ofFs_lt _ z hz
    · cases hz)
  omega
theorem workF_len (n ds : List Int) {gs : List Gt} {os : List Int} (h : circE gs os = 0) : (workF n ds gs os).length ≤ 5000 := by
  unfold workF
  have h2 := runE2_range gs os (n.getD 0 0) (n.getD 1 0) (n.drop 2).length ds.length
  have h3 := toldT_len (ofFs (couts gs os (toFs (n.drop 2)))) _ (show runE2 gs os (n.getD 0 0) (n.getD 1 0) (n.drop 2).length ds.length < 1000000 by omega) (ofFs_lt _)
  have h4 : (ofFs (couts gs os (toFs (n.drop 2)))).length ≤ 30 := by
    unfold ofFs couts
    rw [List.length_map, List.length_map]
    exact (circE_zero.1 h).o2
  omega
theorem workA_len (tx : List UInt8) (ws : List (List UInt8)) : (workA tx ws).length ≤ 5000 := by
  unfold workA
  dsimp only
  have := errT_len 3 (by omega)
  split
  · split
    · exact netA_len tx _ fun gs os h => workF_len _ _ h
    · omega
  · omega
theorem newA_len {k : Keep} {m : Nat} (h : k.Ok m) (hm : m ≤ 1000) (l : List Int) : (newA k l).1.length ≤ 100 := by
  unfold newA
  have := h.2.2.2.1
  split
  · have := errT_len 2 (by omega); dsimp only; omega
  · have := toldT_len [((k.last + 1 : Nat) : Int)] 0 (by omega) (fun z hz => by simp only [List.mem_singleton] at hz; omega)
    rw [List.length_singleton] at this
    dsimp only; omega
theorem err_len {α : Type} {E : Int} {x : α} (h : E < 1000000) : ((errT E, x) : List UInt8 × α).1.length ≤ 100 := by
  have := errT_len E h; dsimp only; omega
theorem ok_len {α : Type} {x : α} : ((okT, x) : List UInt8 × α).1.length ≤ 100 := by simp [okT]
theorem keyedK_len {k : Keep} {m : Nat} (h : k.Ok m) (hm : m ≤ 1000) (v : List UInt8) (n : List Int) {f : Keep → List UInt8 × Keep} (hf : keyedK v n = some f) : (f k).1.length ≤ 100 := by
  unfold keyedK at hf
  split at hf
  · cases hf; unfold genA; split
    · exact newA_len h hm _
    · exact err_len (by omega)
  split at hf
  · split at hf <;> cases hf
    unfold refreshA
    split
    · exact err_len (by omega)
    · split
      · exact ok_len
      · exact err_len (by omega)
  split at hf
  · split at hf <;> cases hf
    unfold tweakA
    split
    · exact err_len (by omega)
    · exact newA_len h hm _
  split at hf
  · split at hf <;> cases hf
    unfold combineA
    split
    · exact newA_len h hm _
    · exact err_len (by omega)
  split at hf
  · split at hf <;> cases hf
    unfold multiplyA
    split
    · split
      · exact newA_len h hm _
      · exact err_len (by omega)
    · exact err_len (by omega)
  split at hf
  · split at hf <;> cases hf
    unfold keyA
    split
    · exact err_len (by omega)
    · next l hl =>
      obtain ⟨x, _, he⟩ := kept_is hl h
      have := toldT_len [keptX k.n k.t l] 0 (by omega) (fun z hz => by simp only [List.mem_singleton] at hz; rw [hz, he]; exact (U64.of_ofF x).2)
      rw [List.length_singleton] at this
      dsimp only; omega
  split at hf
  · split at hf <;> cases hf
    unfold dropA
    split
    · exact err_len (by omega)
    · exact ok_len
  cases hf
theorem onKeep_len {b : Bench} {m : Nat} (h : b.Ok m) {f : Keep → List UInt8 × Keep} (hf : ∀ k, k.Ok m → (f k).1.length ≤ 100) : (onKeep b f).1.length ≤ 100 := by
  unfold onKeep
  split
  · exact err_len (by omega)
  · next k hk => exact hf k (h.2 k hk)
theorem openA_len (n : List Int) (hn : n.length ≤ 100000) (hi : ∀ z ∈ n, z < 18446744073709551616) : (openA n).length ≤ 2200000 := by
  unfold openA
  obtain ⟨h1, h2, h3, h4, h5⟩ := robR_facts (n.headD 0) (pairL n.tail)
  rw [pairL_length] at h2
  have h6 : n.tail.length ≤ n.length := by simp
  have := toldT_len ((robR (n.headD 0) (pairL n.tail)).1 :: (robR (n.headD 0) (pairL n.tail)).2.1) (robR (n.headD 0) (pairL n.tail)).2.2 (by omega) (fun z hz => by
    rcases List.mem_cons.1 hz with hz | hz
    · rw [hz]; exact h3.2
    · have h7 : ∀ (l : List Int), (∀ z ∈ l, z < 18446744073709551616) → ∀ s ∈ pairL l, s.1 < 18446744073709551616 := fun l => by
        induction l using pairL.induct with
        | case1 x y l ih =>
          intro h s hs
          rw [pairL] at hs
          rcases List.mem_cons.1 hs with hs | hs
          · subst hs; exact h x (by simp)
          · exact ih (fun z hz => h z (by simp [hz])) s hs
        | case2 l hl =>
          intro h s hs
          cases l with
          | nil => simp [pairL] at hs
          | cons x l => cases l with
            | nil => simp [pairL] at hs
            | cons y l => exact absurd rfl (hl x y l)
      unfold robR at hz
      split at hz
      · split at hz
        · rw [(srt_perm _).mem_iff] at hz
          unfold badL at hz
          obtain ⟨s, hs, rfl⟩ := List.mem_map.1 hz
          exact h7 n.tail (fun z hz => hi z (List.mem_of_mem_tail hz)) s (List.mem_filter.1 hs).1
        · cases hz
      · cases hz)
  rw [List.length_cons] at this
  omega
theorem dealA_len (n : List Int) : (dealA n).length ≤ 5000 := by
  unfold dealA
  have h1 := dealX_len (n.getD 1 0) (n.drop 2) (n.getD 0 0)
  have := toldT_len (dealX (n.getD 1 0) (n.drop 2) (n.getD 0 0) (dealB (n.drop 2) (n.getD 0 0))) (dealE (dealB (n.drop 2) (n.getD 0 0))) (by unfold dealE; split <;> omega) (fun z hz => by
    unfold dealX at hz
    split at hz
    · exact ofFs_lt _ z hz
    · cases hz)
  omega
theorem plainA_len {b : Bench} (v : List UInt8) (n : List Int) (hn : n.length ≤ 100000) (hi : ∀ z ∈ n, z < 18446744073709551616) {r : List UInt8 × Bench} (hr : plainA b v n = some r) : r.1.length ≤ 2200000 := by
  have e3 := errT_len 3 (by omega)
  have e1 := errT_len 1 (by omega)
  unfold plainA at hr
  split at hr
  · split at hr <;> cases hr
    have := dealA_len n; dsimp only; omega
  split at hr
  · split at hr <;> cases hr
    dsimp only
    split
    · omega
    · exact openA_len n hn hi
  split at hr
  · split at hr <;> cases hr
    simp [okT]
  split at hr
  · split at hr <;> cases hr
    have := netA_len b.tx showF fun gs os h => showF_len h
    dsimp only; omega
  split at hr
  · cases hr
    have := netA_len b.tx (runF n) fun gs os h => runF_len n h
    dsimp only; omega
  split at hr
  · split at hr <;> cases hr
    unfold keysA
    split
    · simp [okT]
    · dsimp only; omega
  cases hr
theorem stepA_len {b : Bench} {m : Nat} (h : b.Ok m) (hm : m ≤ 1000) (v : List UInt8) (ws : List (List UInt8)) (hw : ws.length ≤ 100000) : (stepA b v ws).1.length ≤ 2200000 := by
  have e3 := errT_len 3 (by omega)
  have e2 := errT_len 2 (by omega)
  unfold stepA
  split
  · dsimp only
    unfold moreA
    split
    · dsimp only; omega
    · split
      · dsimp only; omega
      · simp [okT]
  split
  · have := workA_len b.tx ws; dsimp only; omega
  split
  · cases hp : plainA b v (ws.map numR) with
    | some r =>
      refine plainA_len v _ (by rw [List.length_map]; exact hw) (fun z hz => ?_) hp
      obtain ⟨x, _, rfl⟩ := List.mem_map.1 hz
      have := (numR_i64 x).2
      omega
    | none =>
      rw [Option.getD_none]
      unfold keyedA
      split
      · dsimp only; omega
      · next f hf =>
        have := onKeep_len (f := f) h (fun k hk => keyedK_len hk hm v _ hf)
        omega
  · dsimp only; omega
theorem line_not {st : Bench} {l : List UInt8} (h : heardB (wordsL l) = false) : doLines stepA st [l] = ([], st) := by
  simp only [doLines]
  split
  · rfl
  · next v ws hw => rw [hw] at h; rw [h]; rfl
theorem line_heard {st : Bench} {l v : List UInt8} {ws : List (List UInt8)} (hw : wordsL l = v :: ws) (h : heardB (wordsL l) = true) : doLines stepA st [l] = ((stepA st v ws).1 ++ [10], (stepA st v ws).2) := by
  simp only [doLines]
  rw [hw] at h
  rw [hw]
  simp only [h, if_true, List.append_nil]
theorem lines_take {T : List (List UInt8)} {k : Nat} {l : List UInt8} (h : T[k]? = some l) (b : Bench) :
    doLines stepA b (T.take (k + 1)) = ((doLines stepA b (T.take k)).1 ++ (doLines stepA (doLines stepA b (T.take k)).2 [l]).1, (doLines stepA (doLines stepA b (T.take k)).2 [l]).2) := by
  rw [List.take_add_one, h]
  exact doLines_append stepA b (T.take k) [l]
theorem line_ok {st : Bench} {m : Nat} (h : st.Ok m) (l : List UInt8) : (doLines stepA st [l]).2.Ok (m + 1) := by
  cases hh : heardB (wordsL l) with
  | false => rw [line_not hh]; exact h.more
  | true =>
    cases hw : wordsL l with
    | nil => rw [hw] at hh; cases hh
    | cons v ws => rw [line_heard hw hh]; exact stepA_ok h v ws
end Go.Proofs.YtploomncapiloaaGreatDoor
