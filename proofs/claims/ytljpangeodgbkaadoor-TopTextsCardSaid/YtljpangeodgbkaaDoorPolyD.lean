/- Package poly's division: what it returns. -/
import Derived.Test.YtljpangeodgbkaaDoorPolyX
import Derived.Test.YtljpangeodgbkaaDoorPlainB
namespace Go.Proofs.YtljpangeodgbkaaDoor
open Go.RowKit Croft

theorem OwnNums.form {w : World} {base : Nat} {v : Value} {zs : List Int} (h : OwnNums w base v zs) (hn : 0 < zs.length) : ∃ g cap, v = .slice (some ⟨g, 0, none⟩) zs.length cap ∧ base ≤ g ∧ g < w.heap.size ∧ zs.length ≤ cap ∧ cap ≤ maxLen := by
  rcases h.1.2 with ⟨_, h0⟩ | ⟨g, cap, cur, hv, hb, hg, hc, hm, _⟩
  · omega
  · exact ⟨g, cap, hv, hb, (Array.getElem?_eq_some_iff.1 hg).1, hc, hm⟩
theorem OwnNums.far {w : World} {base g n c : Nat} {zs : List Int} (h : OwnNums w base (.slice (some ⟨g, 0, none⟩) n c) zs) {g' : Nat} (hne : g ≠ g') (k : Nat) (u : Value) : OwnNums (w.setCell ⟨g', k, none⟩ u) base (.slice (some ⟨g, 0, none⟩) n c) zs := by
  refine ⟨?_, h.2⟩
  have hg : w.grownBy (w.setCell ⟨g', k, none⟩ u) (some g') := ⟨rfl, rfl, rfl, by simp [World.setCell], fun i _ hi => Below.heap_setCell _ _ _ _ (by rintro rfl; exact hi rfl)⟩
  exact h.1.kept hg (.inr (by simp [Value.ownBlock, hne]))
theorem OwnNums.lt_zs {w : World} {base : Nat} {v : Value} {zs : List Int} (h : OwnNums w base v zs) : zs.length ≤ 17592186043904 := h.2.1
structure DivOut (A B Q R : List F) : Prop where
  nq : pnorm Q = Q
  nr : pnorm R = R
  short : R.length < B.length
  eq : pnorm (padd (pmulS Q B) R) = A
  lq : Q.length ≤ A.length + 1
def DivRes (w : World) (e : Ending) (w' : World) (A B : List F) : Prop :=
  ∃ vq vr Q R, e = .returned (.tuple #[vq, vr, .int .i64 0]) ∧ OwnNums w' w.heap.size vq (ofFs Q) ∧ OwnNums w' w.heap.size vr (ofFs R) ∧ DivOut A B Q R ∧ Below w.heap.size w w'
def DivBad (w : World) (e : Ending) (w' : World) (err : Int) : Prop := e = .returned (.tuple #[.slice none 0 0, .slice none 0 0, .int .i64 err]) ∧ Below w.heap.size w w'
end Go.Proofs.YtljpangeodgbkaaDoor
