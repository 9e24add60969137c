/- Gates in a slice: how they lie in memory. -/
import Derived.Test.YtljpangeodgbkaaDoorCirc
import Derived.Test.YtljpangeodgbkaaDoorInts
import Derived.Test.YtljpangeodgbkaaDoorShareW
namespace Go.Proofs.YtljpangeodgbkaaDoor
open Go.RowKit Croft

theorem flat_length {α : Type} (enc : α → List Value) (sz : Nat) (h : ∀ x, (enc x).length = sz) (l : List α) : (l.flatMap enc).length = l.length * sz := by
  induction l with
  | nil => simp
  | cons s l ih => rw [List.flatMap_cons, List.length_append, ih, h, List.length_cons, Nat.add_mul]; omega
theorem flat_get {α : Type} (enc : α → List Value) (sz : Nat) (h : ∀ x, (enc x).length = sz) (l : List α) : ∀ (k j : Nat) (s : α), l[k]? = some s → j < sz → (l.flatMap enc)[k * sz + j]? = (enc s)[j]? := by
  induction l with
  | nil => intro k j s hk; simp at hk
  | cons a l ih =>
    intro k j s hk hj
    rw [List.flatMap_cons]
    cases k with
    | zero =>
      simp at hk
      subst hk
      rw [List.getElem?_append_left (by rw [h]; omega), Nat.zero_mul, Nat.zero_add]
    | succ k =>
      rw [List.getElem?_append_right (by rw [h, Nat.add_mul]; omega), h, Nat.add_mul, Nat.one_mul, show k * sz + sz + j - sz = k * sz + j by omega]
      exact ih k j s (by simpa using hk) hj
def genc (g : Gt) : List Value := [.int .i64 g.kind, .int .i64 g.a, .int .i64 g.b, .int .u64 g.n]
theorem genc_length (g : Gt) : (genc g).length = 4 := rfl
def gcs (gs : List Gt) : List Value := gs.flatMap genc
theorem gcs_length (gs : List Gt) : (gcs gs).length = gs.length * 4 := flat_length genc 4 genc_length gs
def GateOk (g : Gt) : Prop := I64 g.kind ∧ I64 g.a ∧ I64 g.b ∧ U64 g.n
def IsGates (w : World) (v : Value) (gs : List Gt) : Prop :=
  ∃ A cap, v = .slice A gs.length cap ∧ gs.length ≤ cap ∧ cap ≤ maxLen ∧ gs.length ≤ 4398046511104 ∧ (∀ g ∈ gs, GateOk g) ∧ Cells w A (gcs gs)
theorem IsGates.below {w w' : World} {v : Value} {gs : List Gt} (h : IsGates w v gs) (hb : Below w.heap.size w w') : IsGates w' v gs := by
  obtain ⟨A, cap, h1, h2, h3, h4, h5, h6⟩ := h
  exact ⟨A, cap, h1, h2, h3, h4, h5, h6.below hb⟩
theorem IsGates.nil (w : World) : IsGates w (.slice none 0 0) [] := ⟨none, 0, rfl, Nat.le_refl _, by simp [maxLen], by simp, by simp, .inl rfl⟩
theorem gate_at {w : World} {A : Option Addr} {gs : List Gt} (h : Cells w A (gcs gs)) (h5 : ∀ g ∈ gs, GateOk g) {k : Nat} (hk : k < gs.length) :
    ∃ b o g, A = some ⟨b, o, none⟩ ∧ b < w.heap.size ∧ gs[k]? = some g ∧ GateOk g ∧ w.cell? ⟨b, o + k * 4, none⟩ = some (.int .i64 g.kind) ∧ w.cell? ⟨b, o + k * 4 + 1, none⟩ = some (.int .i64 g.a) ∧ w.cell? ⟨b, o + k * 4 + 2, none⟩ = some (.int .i64 g.b) ∧ w.cell? ⟨b, o + k * 4 + 3, none⟩ = some (.int .u64 g.n) := by
  obtain ⟨b, o, rfl, hb, hc⟩ := h.at_ (j := k * 4) (by rw [gcs_length]; omega)
  have hg : gs[k]? = some gs[k] := List.getElem?_eq_getElem hk
  have hf : ∀ j, j < 4 → w.cell? ⟨b, o + k * 4 + j, none⟩ = (genc gs[k])[j]? := fun j hj => by
    rw [Nat.add_assoc, hc _ (by rw [gcs_length]; omega)]
    exact flat_get genc 4 genc_length gs k j _ hg hj
  exact ⟨b, o, gs[k], rfl, hb, hg, h5 _ (List.getElem_mem hk), hf 0 (by omega), hf 1 (by omega), hf 2 (by omega), hf 3 (by omega)⟩
/-- a circuit as it is handed on by value -/
def circV (vg vo : Value) : Value := .agg #[vg, vo]
end Go.Proofs.YtljpangeodgbkaaDoor
