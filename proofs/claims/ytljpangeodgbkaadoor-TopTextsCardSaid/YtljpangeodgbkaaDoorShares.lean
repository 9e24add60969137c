/- How shares lie in memory. -/
import Derived.Test.YtljpangeodgbkaaDoorPolyM
namespace Go.Proofs.YtljpangeodgbkaaDoor
open Go.RowKit Croft

def I64 (n : Int) : Prop := -9223372036854775808 ≤ n ∧ n ≤ 9223372036854775807
def shs (l : List (Int × Int)) : List Value := l.flatMap fun s => [Value.int .i64 s.1, Value.int .u64 s.2]
theorem shs_length (l : List (Int × Int)) : (shs l).length = l.length * 2 := by
  induction l with
  | nil => rfl
  | cons s l ih => simp only [shs, List.flatMap_cons, List.length_append, List.length_cons, List.length_nil] at *; omega
theorem shs_cons (s : Int × Int) (l : List (Int × Int)) : shs (s :: l) = .int .i64 s.1 :: .int .u64 s.2 :: shs l := rfl
theorem shs_get (l : List (Int × Int)) : ∀ (k : Nat) (s : Int × Int), l[k]? = some s → (shs l)[k * 2]? = some (.int .i64 s.1) ∧ (shs l)[k * 2 + 1]? = some (.int .u64 s.2) := by
  induction l with
  | nil => intro k s h; simp at h
  | cons a l ih =>
    intro k s h
    rw [shs_cons]
    cases k with
    | zero => simp at h; subst h; exact ⟨rfl, rfl⟩
    | succ k =>
      have := ih k s (by simpa using h)
      rw [show (k + 1) * 2 = k * 2 + 1 + 1 by omega]
      simpa using this
def IsShares (w : World) (v : Value) (l : List (Int × Int)) : Prop :=
  ∃ A cap, v = .slice A l.length cap ∧ l.length ≤ cap ∧ cap ≤ maxLen ∧ l.length ≤ 8796093022208 ∧ (∀ s ∈ l, I64 s.1 ∧ U64 s.2) ∧ Cells w A (shs l)
theorem IsShares.below {w w' : World} {v : Value} {l : List (Int × Int)} (h : IsShares w v l) (hb : Below w.heap.size w w') : IsShares w' v l := by
  obtain ⟨A, cap, h1, h2, h3, h4, h5, h6⟩ := h
  exact ⟨A, cap, h1, h2, h3, h4, h5, h6.below hb⟩
theorem IsShares.drewn {w wr : World} {v : Value} {l : List (Int × Int)} {n : Nat} (h : IsShares w v l) (hw : wr = w.drewN n) : IsShares wr v l := by subst hw; exact h
theorem share_at {w : World} {A : Option Addr} {l : List (Int × Int)} (h : Cells w A (shs l)) (h5 : ∀ s ∈ l, I64 s.1 ∧ U64 s.2) {k : Nat} (hk : k < l.length) :
    ∃ b o at_ y, A = some ⟨b, o, none⟩ ∧ b < w.heap.size ∧ l[k]? = some (at_, y) ∧ I64 at_ ∧ U64 y ∧ w.cell? ⟨b, o + k * 2, none⟩ = some (.int .i64 at_) ∧ w.cell? ⟨b, o + k * 2 + 1, none⟩ = some (.int .u64 y) := by
  obtain ⟨b, o, rfl, hb, hc⟩ := h.at_ (j := k * 2) (by rw [shs_length]; omega)
  have hg : l[k]? = some l[k] := List.getElem?_eq_getElem hk
  obtain ⟨g1, g2⟩ := shs_get l k _ hg
  obtain ⟨u1, u2⟩ := h5 _ (List.getElem_mem hk)
  refine ⟨b, o, l[k].1, l[k].2, rfl, hb, hg, u1, u2, ?_, ?_⟩
  · rw [hc _ (by rw [shs_length]; omega), g1]
  · rw [Nat.add_assoc, hc _ (by rw [shs_length]; omega), g2]
/-- may something go through these? -/
def AtsOk (l : List (Int × Int)) (most : Int) : Prop := (∀ s ∈ l, 1 ≤ s.1 ∧ s.1 ≤ most) ∧ (l.map (·.1)).Nodup
instance (l : List (Int × Int)) (most : Int) : Decidable (AtsOk l most) := by unfold AtsOk; infer_instance
def atsB (l : List (Int × Int)) (most : Int) : Bool := decide (AtsOk l most)
theorem atsOk_take {l : List (Int × Int)} {most : Int} {k : Nat} {at_ y : Int} (hg : l[k]? = some (at_, y)) : AtsOk (l.take (k + 1)) most ↔ AtsOk (l.take k) most ∧ (1 ≤ at_ ∧ at_ ≤ most) ∧ at_ ∉ (l.take k).map (·.1) := by
  unfold AtsOk
  rw [List.take_add_one, hg]
  simp only [Option.toList, List.map_append, List.map_cons, List.map_nil, List.mem_append, List.mem_singleton]
  rw [List.nodup_append]
  constructor
  · rintro ⟨h1, h2, _, h3⟩
    refine ⟨⟨fun s hs => h1 s (.inl hs), h2⟩, h1 _ (.inr rfl), fun hm => h3 _ hm _ (by simp) rfl⟩
  · rintro ⟨⟨h1, h2⟩, h3, h4⟩
    refine ⟨fun s hs => ?_, h2, by simp, fun a ha b hb => ?_⟩
    · rcases hs with hs | rfl
      · exact h1 s hs
      · exact h3
    · simp at hb; subst hb; rintro rfl; exact h4 ha
theorem atsOk_mono {l : List (Int × Int)} {most : Int} (k : Nat) (h : AtsOk l most) : AtsOk (l.take k) most :=
  ⟨fun s hs => h.1 s (List.mem_of_mem_take hs), by rw [List.map_take]; exact h.2.sublist (List.take_sublist _ _)⟩
end Go.Proofs.YtljpangeodgbkaaDoor
