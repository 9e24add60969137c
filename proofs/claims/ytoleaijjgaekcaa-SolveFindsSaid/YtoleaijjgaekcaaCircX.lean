/- Circuits: what Run returns. -/
import Derived.Test.YtoleaijjgaekcaaCircV
namespace Go.Proofs.Ytoleaijjgaekcaa
open Go.RowKit Croft

def runE (gs : List Gt) (os : List Int) (ins : List Int) : Int := if circE gs os = 0 then if ins.length = (whoseL gs).length then 0 else 5 else circE gs os
def runL (gs : List Gt) (os : List Int) (ins : List Int) : List Int := if runE gs os ins = 0 then ofFs (couts gs os (toFs ins)) else []
theorem drop_head (ins : List Int) (c : Nat) : co (toFs (ins.drop c)) 0 = co (toFs ins) c := by
  unfold co toFs
  simp [List.getD]
theorem drop_next (gs : List Gt) (ins : List Int) {k : Nat} {g : Gt} (h : gs[k]? = some g) : (if g.kind = 1 then (ins.drop (cin gs k)).drop 1 else ins.drop (cin gs k)) = ins.drop (cin gs (k + 1)) := by
  rw [cin_succ h]
  split
  · rw [List.drop_drop]
  · rfl
def outsTo (gs : List Gt) (os : List Int) (I : List F) (k : Nat) : List F := (os.take k).map fun o => co (cw gs I gs.length) o.toNat
theorem outsTo_next (gs : List Gt) (os : List Int) (I : List F) {k : Nat} {o : Int} (h : os[k]? = some o) : ofFs (outsTo gs os I (k + 1)) = ofFs (outsTo gs os I k) ++ [ofF (co (cw gs I gs.length) o.toNat)] := by
  unfold outsTo
  rw [List.take_add_one, h]
  simp [ofFs]
theorem outsTo_full (gs : List Gt) (os : List Int) (I : List F) : outsTo gs os I os.length = couts gs os I := by unfold outsTo couts; rw [List.take_length]
end Go.Proofs.Ytoleaijjgaekcaa
