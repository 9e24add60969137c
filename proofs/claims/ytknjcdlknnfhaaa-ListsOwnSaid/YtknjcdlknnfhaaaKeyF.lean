/- Keys: what is new is fresh; keys stand while other memory is overwritten. -/
import Derived.Test.YtknjcdlknnfhaaaKeyW
import Derived.Test.YtknjcdlknnfhaaaSpoilW
namespace Go.Proofs.Ytknjcdlknnfhaaa
open Go.RowKit Go.Maps Croft

theorem OwnNums.nearK {w w' : World} {base kb mb : Nat} {v : Value} {zs : List Int} (h : OwnNums w base v zs) (hn : Near kb mb w w') (h1 : v.ownBlock ≠ some kb) (h2 : v.ownBlock ≠ some mb) : OwnNums w' base v zs := by
  refine ⟨⟨h.1.1, ?_⟩, h.2⟩
  rcases h.1.2 with k | ⟨g, cap, cur, hv, hb, hg, r⟩
  · exact .inl k
  · have hlt := (Array.getElem?_eq_some_iff.1 hg).1
    refine .inr ⟨g, cap, cur, hv, hb, (hn.block g hlt (fun e => h1 (by rw [hv, e]; rfl)) (fun e => h2 (by rw [hv, e]; rfl))).trans hg, r⟩
theorem KeysIs.spoilt {w w' : World} {base kb mb n t last sz : Nat} {S : Int → Option (List Int)} {V : Int → Value} {u : Value} (h : KeysIs w base kb mb n t last sz S V) (hg : w.grownBy w' u.ownBlock) (h1 : u.ownBlock ≠ some kb) (h2 : u.ownBlock ≠ some mb) (h3 : ∀ (z : Int) (zs : List Int), S z = some zs → ∀ c, (V z).ownBlock = some c → u.ownBlock ≠ some c) : KeysIs w' base kb mb n t last sz S V := by
  refine ⟨(hg.block kb h.lt (fun e => h1 e.symm)).trans h.cell, ⟨?_, fun z zs hz => (h.store.rows z zs hz).kept hg ?_, h.store.le⟩, h.le, h.len, h.sz8⟩
  · obtain ⟨D, h4, h5⟩ := h.store.map
    exact ⟨D, h4.kept hg (fun e => h2 e.symm), h5⟩
  · cases hc : (V z).ownBlock with
    | none => exact .inl rfl
    | some c => exact .inr fun e => h3 z zs hz c hc e.symm
set_option maxRecDepth 100000 in
set_option maxHeartbeats 1000000 in
theorem kGen_new (vd : Value) (ds : List Int) (w : World) {base kb mb n t last sz : Nat} {S : Int → Option (List Int)} {V : Int → Value} (hk : KeysIs w base kb mb n t last sz S V) (h1 : IsNums w vd ds) (hl : ds.length = n * (t + 1)) (ht : t ≤ 4) (hn9 : n ≤ 9) (htn : t + 1 ≤ n) (hlast : last < 1000000) :
    Calls Try.prog 26 #[.pointer (some ⟨kb, 0, none⟩), vd] w fun e w' => if sz = 8 then e = .returned (.tuple #[.int .i64 0, .int .i64 2]) ∧ Below w.heap.size w w'
      else e = .returned (.tuple #[.int .i64 ((last + 1 : Nat) : Int), .int .i64 0]) ∧ (∃ V', KeysIs w' base kb mb n t (last + 1) (sz + 1) (upd S (last + 1 : Nat) (some (ofFs (sumD n (genP t ds) n)))) V' ∧ ∀ c, (V' (last + 1 : Nat)).ownBlock = some c → w.heap.size ≤ c) ∧ Near kb mb w w' := by
  have hmf : ∀ (fn : Fn) (first cap : Array Value) (w : World), (Instr.makeFunc fn first cap).run Try.prog w = .ok (.func fn first cap) w := fun _ _ _ _ => rfl
  have KK := Lib.hid hk
  have KD := Lib.hid h1
  have HL := Lib.hid hl
  obtain ⟨A, c, rfl, hc1, hm1, hl1, hu1, hr1⟩ := h1
  obtain ⟨hc0, hct, _, hm, _⟩ := hk.cells
  have hkb := hk.lt
  have hk2 : n * (t + 1) ≤ 9 * 5 := Nat.mul_le_mul hn9 (by omega)
  have hmul : (n : Int) * ((t : Int) + 1) = (ds.length : Int) := by rw [hl]; simp
  clear hk hr1 hu1 hm1 hl
  suffices hgoal : ∀ Post : Ending → World → Prop, (∀ e w', (if sz = 8 then e = .returned (.tuple #[.int .i64 0, .int .i64 2]) ∧ Below w.heap.size w w'
      else e = .returned (.tuple #[.int .i64 ((last + 1 : Nat) : Int), .int .i64 0]) ∧ (∃ V', KeysIs w' base kb mb n t (last + 1) (sz + 1) (upd S (last + 1 : Nat) (some (ofFs (sumD n (genP t ds) n)))) V' ∧ ∀ c, (V' (last + 1 : Nat)).ownBlock = some c → w.heap.size ≤ c) ∧ Near kb mb w w') → Post e w') → Calls Try.prog 26 #[.pointer (some ⟨kb, 0, none⟩), .slice A ds.length c] w Post from hgoal _ fun e w' h => h
  intro Post hpo
  have HP := Lib.hid hpo
  clear hpo
  go_enter Try.func26, Try.ntmps26
  go_wp2_with fail
  have BW := Lib.hid (((Below.refl w.heap.size w).alloc (Nat.le_refl _) (.cells #[.slice A ds.length c] 26)).alloc (by simp) (.cells #[.int .i64 ((t : Int) + 1)] 3))
  have Q0 := Lib.hid (show ((w.alloc (.cells #[.slice A ds.length c] 26)).alloc (.cells #[.int .i64 ((t : Int) + 1)] 3)).cell? ⟨w.heap.size, 0, none⟩ = some (.slice A ds.length c) by
    rw [World.cell?_alloc_lt (a := ⟨w.heap.size, 0, none⟩) (h := by simp)]
    exact new_cell _ _ _)
  have Q1 := Lib.hid (show ((w.alloc (.cells #[.slice A ds.length c] 26)).alloc (.cells #[.int .i64 ((t : Int) + 1)] 3)).cell? ⟨w.heap.size + 1, 0, none⟩ = some (.int .i64 ((t : Int) + 1)) by
    have := new_cell (w.alloc (.cells #[.slice A ds.length c] 26)) (.int .i64 ((t : Int) + 1)) 3
    rw [size_alloc] at this
    exact this)
  have hs3 : ((w.alloc (.cells #[.slice A ds.length c] 26)).alloc (.cells #[.int .i64 ((t : Int) + 1)] 3)).heap.size = w.heap.size + 2 := by rw [size_alloc, size_alloc]
  obtain ⟨W3, hW3⟩ : ∃ W3, W3 = (w.alloc (.cells #[.slice A ds.length c] 26)).alloc (.cells #[.int .i64 ((t : Int) + 1)] 3) := ⟨_, rfl⟩
  rw [← hW3] at BW Q0 Q1 hs3 ⊢
  have KK3 := Lib.hid (KK.out.below BW.out)
  have KD3 := Lib.hid (KD.out.below BW.out)
  clear hW3 hc0 hct hm
  obtain ⟨hc0, hct, _, hm, _⟩ := KK3.out.cells
  have hq0 := Q0.out
  have hq1 := Q1.out
  go_quiet (fail)
  have BW4 := Lib.hid (below_drewN BW.out nq)
  have KK4 := Lib.hid (KK3.out.drewN nq)
  have KD4 := Lib.hid (KD3.out.drewN nq)
  obtain ⟨W4, hW4⟩ : ∃ W4, W4 = W3.drewN nq := ⟨_, rfl⟩
  have Q04 := Lib.hid (show W4.cell? ⟨w.heap.size, 0, none⟩ = some (.slice A ds.length c) by rw [hW4]; exact Q0.out)
  have Q14 := Lib.hid (show W4.cell? ⟨w.heap.size + 1, 0, none⟩ = some (.int .i64 ((t : Int) + 1)) by rw [hW4]; exact Q1.out)
  have hs4 : W4.heap.size = w.heap.size + 2 := by rw [hW4]; exact hs3
  rw [← hW4] at BW4 KK4 KD4 ⊢
  clear hW4 hq0 hq1 hc0 hct hm hs3 Q0 Q1 KK3 KD3 BW
  obtain ⟨hc0, hct, _, hm, _⟩ := KK4.out.cells
  by_cases h8 : sz = 8
  · subst h8
    go_wp2_with (at_len; refine wpList_len_keys rfl _ rfl rfl KK4.out.store ?_)
    exact HP.out _ _ (by rw [if_pos trivial]; exact ⟨rfl, BW4.out⟩)
  · have hne : ((sz : Int) == 8) = false := by rw [beq_eq_false_iff_ne]; omega
    have hsz8 := KK4.out.sz8
    go_wp2_with (at_len; refine wpList_len_keys rfl _ rfl rfl KK4.out.store ?_)
    refine (kDealtG_any n t w.heap.size (w.heap.size + 1) A c ds W4 KK4.out Q04.out Q14.out (by omega) (by omega) KD4.out HL.out ht hn9 htn).mono ?_
    rintro e W5 ⟨v5, rfl, ho, hb⟩
    have KK5 := Lib.hid (KK4.out.below hb)
    have HFR := Lib.hid (show ∀ c, v5.ownBlock = some c → w.heap.size ≤ c from fun c hc => by have := ho.over c hc; omega)
    have KV5 := Lib.hid (ho.less (base' := base) (by have := KK4.out.le; have := KK4.out.lt; omega))
    have B5 := Lib.hid (below_trans BW4.out hb BW4.out.size)
    clear ho hb
    try dsimp only
    go_wp2_with fail
    refine (kKept_ok v5 _ W5 KK5.out (by omega) hlast KV5.out (by rw [ofFs_length, sumD_length])).mono ?_
    rintro e W6 ⟨rfl, hk6, hb6⟩
    have K6 := Lib.hid hk6
    have B6 := Lib.hid hb6
    clear hk6 hb6
    try dsimp only
    go_wp2_with fail
    exact HP.out _ _ (by rw [if_neg h8]; exact ⟨rfl, ⟨_, K6.out, fun c hc => HFR.out c (by rw [show updV V ((last + 1 : Nat) : Int) v5 ((last + 1 : Nat) : Int) = v5 from if_pos rfl] at hc; exact hc)⟩, (Near.of_below B5.out).trans B6.out⟩)
end Go.Proofs.Ytknjcdlknnfhaaa
