/- Parts of the proof, put together by a program: FindP. No condition. -/
import Derived.Test.YtploomncapiloaaGreatDoorDAT
namespace Go.Proofs.YtploomncapiloaaGreatDoor
open Go.RowKit Croft
theorem toFs_append (a b : List Int) : toFs (a ++ b) = toFs a ++ toFs b := by simp [toFs]
theorem meets_of {n : Nat} {L : List (List Int)} {y : Nat → F} (h : ∀ r ∈ L, fsum n (fun k => co (toFs r) k * y k) = co (toFs r) n) : Meets L.length n (mx L) y := fun r hr => by
  have hg : L[r]? = some L[r] := List.getElem?_eq_getElem hr
  rw [mx_get hg, ← h _ (List.mem_of_getElem? hg)]
  exact fsum_congr fun i _ => by rw [mx_get hg]
theorem of_meets {n : Nat} {L : List (List Int)} {y : Nat → F} (h : Meets L.length n (mx L) y) : ∀ r ∈ L, fsum n (fun k => co (toFs r) k * y k) = co (toFs r) n := fun r hr => by
  obtain ⟨i, hi⟩ := List.getElem?_of_mem hr
  have hlt := (List.getElem?_eq_some_iff.1 hi).1
  have h1 := h i hlt
  rw [mx_get hi] at h1
  rw [← h1]
  exact fsum_congr fun k _ => by rw [mx_get hi]
end Go.Proofs.YtploomncapiloaaGreatDoor
