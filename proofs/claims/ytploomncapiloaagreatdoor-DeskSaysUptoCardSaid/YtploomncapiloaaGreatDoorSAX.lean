/- Parts of the proof, put together by a program: FindP. No condition. -/
import Derived.Test.YtploomncapiloaaGreatDoorSAW
set_option maxRecDepth 100000
set_option maxHeartbeats 8000000
namespace Go.Proofs.YtploomncapiloaaGreatDoor
open Go.RowKit Croft
theorem Z5J (a b:List Int):Q0f (a++b)=Q0f a++Q0f b:=by simp [Q0f]
theorem Y3f {n:Nat} {L:List (List Int)} {y:Nat->F} (h: ∀r∈L,Q1r n (fun k=>co (Q0f r) k * y k)=co (Q0f r) n):Z4q L.length n (mx L) y:=fun r hr=>by
 have hg:L[r]? =some L[r]:=List.getElem?_eq_getElem hr
 rw [Q7t hg,<-h _ (List.mem_of_getElem? hg)]
 exact Q0z fun i _=>by rw [Q7t hg]
theorem Y3g {n:Nat} {L:List (List Int)} {y:Nat->F} (h:Z4q L.length n (mx L) y): ∀r∈L,Q1r n (fun k=>co (Q0f r) k * y k)=co (Q0f r) n:=fun r hr=>by
 obtain ⟨i,hi⟩:=List.getElem?_of_mem hr
 have hlt:=(List.getElem?_eq_some_iff.1 hi).1
 have h1:=h i hlt
 rw [Q7t hi] at h1
 rw [<-h1]
 exact Q0z fun k _=>by rw [Q7t hi]
end Go.Proofs.YtploomncapiloaaGreatDoor
