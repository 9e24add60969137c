/- Parts of the proof, put together by a program: SolP SolF. No condition. -/
import Derived.Test.YtploomncapiloaaGreatDoorSAD
set_option maxRecDepth 100000
set_option maxHeartbeats 8000000
namespace Croft
abbrev Mx :=Nat->Nat->F
def Ker (m v:Nat) (M:Mx) (z:Nat->F):Prop:= ∀r,r<m->Q1r v (fun j=>M r j * z j)=0
def ld (ls:List Nat) (i:Nat):Nat:=ls.getD i 0
theorem Y5K {ls:List Nat} {i:Nat} (h:i<ls.length):ls[i]? =some (ld ls i):=by simp [ld,List.getElem?_eq_getElem h]
theorem Q3K {ls:List Nat} {c i:Nat} (h:i<ls.length):ld (ls++ [c]) i=ld ls i:=by simp [ld,List.getD,List.getElem?_append_left h]
theorem Q5q {ls:List Nat} {c i:Nat} (h:i=ls.length):ld (ls++ [c]) i=c:=by subst h;simp [ld,List.getD]
theorem Y4h {ls:List Nat} {c:Nat}:c∈ls↔ ∃i,i<ls.length/\ld ls i=c:=by
 rw [List.mem_iff_getElem]
 constructor
 ·rintro ⟨i,h,rfl⟩;exact ⟨i,h,by simp [ld,List.getElem?_eq_getElem h]⟩
 ·rintro ⟨i,h,rfl⟩;exact ⟨i,h,by simp [ld,List.getElem?_eq_getElem h]⟩
structure Red (M0 M:Mx) (m v col:Nat) (ls:List Nat):Prop where
 ker: ∀z,Ker m v M z↔Ker m v M0 z
 len:ls.length<=m
 lt: ∀i,i<ls.length->ld ls i<col
 inc: ∀i j,i<j->j<ls.length->ld ls i<ld ls j
 one: ∀i,i<ls.length->M i (ld ls i)=1
 zero: ∀i r,i<ls.length->r<m->r≠i->M r (ld ls i)=0
 before: ∀i c,i<ls.length->c<ld ls i->M i c=0
 low: ∀r c,ls.length<=r->r<m->c<col->M r c=0
theorem Red.start (M0:Mx) (m v:Nat):Red M0 M0 m v 0 []:=
 ⟨fun _=>Iff.rfl,by simp,fun i h=>by simp at h,fun i j _ h=>by simp at h,fun i h=>by simp at h,fun i r h=>by simp at h,fun i c h=>by simp at h,fun r c _ _ h=>by omega⟩
theorem Red.skip {M0 M:Mx} {m v col:Nat} {ls:List Nat} (h:Red M0 M m v col ls) (hz: ∀r,ls.length<=r->r<m->M r col=0):Red M0 M m v (col+1) ls:=
 ⟨h.ker,h.len,fun i hi=>by have:=h.lt i hi;omega,h.inc,h.one,h.zero,h.before,fun r c h1 h2 h3=>by
  by_cases hc:c=col
  ·subst hc;exact hz r h1 h2
  ·exact h.low r c h1 h2 (by omega)⟩
theorem Red.full {M0 M:Mx} {m v col:Nat} {ls:List Nat} (h:Red M0 M m v col ls) (hl:ls.length=m): ∀c,col<=c->Red M0 M m v c ls:=by
 intro c hc
 induction hc with
 |refl=>exact h
 |step _ ih=>exact ih.skip fun r h1 h2=>by omega
def Z0V (M:Mx) (a k:Nat):Mx:=fun r c=>if r=a then M k c else if r=k then M a c else M r c
def Q6B (M:Mx) (a:Nat) (s:F):Mx:=fun r c=>if r=a then M a c * s else M r c
def Q3q (M:Mx) (a col:Nat) (n:Nat):Mx:=fun r c=>if r<n/\r≠a then M r c - M r col * M a c else M r c
theorem Y2Z {m v:Nat} (M:Mx) {a k:Nat} (ha:a<m) (hk:k<m) (z:Nat->F):Ker m v (Z0V M a k) z↔Ker m v M z:=by
 unfold Ker Z0V
 constructor
 ·intro h r hr
  by_cases h1:r=a
  ·subst h1
   by_cases h2:k=r
   ·subst h2;simpa using h k hk
   ·have:=h k hk
    rw [show (fun j=>(if k=r then M k j else if k=k then M r j else M k j) * z j)=fun j=>M r j * z j from by funext j;rw [if_neg h2,if_pos rfl]] at this
    exact this
  ·by_cases h2:r=k
   ·subst h2
    have:=h a ha
    rw [show (fun j=>(if a=a then M r j else if a=r then M a j else M a j) * z j)=fun j=>M r j * z j from by funext j;rw [if_pos rfl]] at this
    exact this
   ·have:=h r hr
    rw [show (fun j=>(if r=a then M k j else if r=k then M a j else M r j) * z j)=fun j=>M r j * z j from by funext j;rw [if_neg h1,if_neg h2]] at this
    exact this
 ·intro h r hr
  by_cases h1:r=a
  ·rw [show (fun j=>(if r=a then M k j else if r=k then M a j else M r j) * z j)=fun j=>M k j * z j from by funext j;rw [if_pos h1]]
   exact h k hk
  ·by_cases h2:r=k
   ·rw [show (fun j=>(if r=a then M k j else if r=k then M a j else M r j) * z j)=fun j=>M a j * z j from by funext j;rw [if_neg h1,if_pos h2]]
    exact h a ha
   ·rw [show (fun j=>(if r=a then M k j else if r=k then M a j else M r j) * z j)=fun j=>M r j * z j from by funext j;rw [if_neg h1,if_neg h2]]
    exact h r hr
theorem Z9T {m v:Nat} (M:Mx) {a:Nat} {s:F} (hs:s≠0) (z:Nat->F):Ker m v (Q6B M a s) z↔Ker m v M z:=by
 unfold Ker Q6B
 have e: ∀r,Q1r v (fun j=>(if r=a then M a j * s else M r j) * z j)=if r=a then s * Q1r v (fun j=>M r j * z j) else Q1r v (fun j=>M r j * z j):=by
  intro r
  by_cases h:r=a
  ·subst h
   simp only [if_pos]
   rw [<-Q4L]
   exact Q0z fun i _=>by grind
  ·simp only [if_neg h]
 constructor
 ·intro h r hr
  have:=h r hr
  rw [e] at this
  split at this
  ·rcases Q4k this with h1|h1
   ·exact absurd h1 hs
   ·exact h1
  ·exact this
 ·intro h r hr
  rw [e,h r hr]
  split
  ·exact Q4I _
  ·rfl
theorem Z9U {m v:Nat} (M:Mx) {a col:Nat} (ha:a<m) (n:Nat) (z:Nat->F):Ker m v (Q3q M a col n) z↔Ker m v M z:=by
 have e: ∀r,Q1r v (fun j=>Q3q M a col n r j * z j)=if r<n/\r≠a then Q1r v (fun j=>M r j * z j)+(- M r col) * Q1r v (fun j=>M a j * z j) else Q1r v (fun j=>M r j * z j):=by
  intro r
  by_cases h:r<n/\r≠a
  ·rw [if_pos h,<-Q4L,<-Q7Y]
   exact Q0z fun i _=>by unfold Q3q;rw [if_pos h];grind
  ·rw [if_neg h]
   exact Q0z fun i _=>by unfold Q3q;rw [if_neg h]
 unfold Ker
 constructor
 ·intro h r hr
  have h0:=h a ha
  rw [e,if_neg (fun hh=>hh.2 rfl)] at h0
  have:=h r hr
  rw [e] at this
  split at this
  ·rw [h0,Q4I,Q6b] at this;exact this
  ·exact this
 ·intro h r hr
  rw [e,h r hr,h a ha]
  split
  ·rw [Q4I,Q6b]
  ·rfl
def Y5q (M:Mx) (a k col m:Nat):Mx:=Q3q (Q6B (Z0V M a k) a (inv (M k col))) a col m
theorem Red.pivot {M0 M:Mx} {m v col k:Nat} {ls:List Nat} (h:Red M0 M m v col ls) (hk1:ls.length<=k) (hk2:k<m) (hp:M k col≠0):Red M0 (Y5q M ls.length k col m) m v (col+1) (ls++ [col]):=by
 have ha:ls.length<m:=by omega
 have hi:=Y5u hp
 have hmi:=Q4V hp
 have rowA: ∀c,Y5q M ls.length k col m ls.length c=M k c * inv (M k col):=fun c=>by
  unfold Y5q Q3q Q6B Z0V
  rw [if_neg (fun hh=>hh.2 rfl),if_pos rfl,if_pos rfl]
 have rowR: ∀r c,r<m->r≠ls.length->Y5q M ls.length k col m r c=(if r=k then M ls.length c else M r c) - (if r=k then M ls.length col else M r col) * (M k c * inv (M k col)):=fun r c hr hne=>by
  have e1: ∀x,Q6B (Z0V M ls.length k) ls.length (inv (M k col)) r x=if r=k then M ls.length x else M r x:=fun x=>by
   unfold Q6B Z0V
   rw [if_neg hne,if_neg hne]
  have e2:Q6B (Z0V M ls.length k) ls.length (inv (M k col)) ls.length c=M k c * inv (M k col):=by
   unfold Q6B Z0V
   rw [if_pos rfl,if_pos rfl]
  unfold Y5q Q3q
  rw [if_pos ⟨hr,hne⟩,e1,e1,e2]
 refine ⟨fun z=> ?_,by simp;omega,fun i hil=> ?_,fun i j hij hjl=> ?_,fun i hil=> ?_,fun i r hil hr hne=> ?_,fun i c hil hc=> ?_,fun r c h1 h2 h3=> ?_⟩
 ·unfold Y5q
  rw [Z9U _ ha,Z9T _ hi,Y2Z _ ha hk2]
  exact h.ker z
 ·rw [List.length_append,List.length_singleton] at hil
  rcases Nat.lt_or_ge i ls.length with h1|h1
  ·rw [Q3K h1];have:=h.lt i h1;omega
  ·rw [Q5q (by omega)];omega
 ·rw [List.length_append,List.length_singleton] at hjl
  rcases Nat.lt_or_ge j ls.length with h1|h1
  ·rw [Q3K h1,Q3K (by omega)];exact h.inc i j hij h1
  ·rw [Q5q (show j=ls.length by omega),Q3K (by omega)];exact h.lt i (by omega)
 ·rw [List.length_append,List.length_singleton] at hil
  rcases Nat.lt_or_ge i ls.length with h1|h1
  ·rw [Q3K h1,rowR i _ (by omega) (by omega),if_neg (by omega),if_neg (by omega),h.one i h1,h.low k _ hk1 hk2 (h.lt i h1),Q7y,Q4I,Z8y]
  ·obtain rfl:i=ls.length:=by omega
   rw [Q5q rfl,rowA,hmi]
 ·rw [List.length_append,List.length_singleton] at hil
  rcases Nat.lt_or_ge i ls.length with h1|h1
  ·rw [Q3K h1]
   have hkz:=h.low k _ hk1 hk2 (h.lt i h1)
   by_cases hrl:r=ls.length
   ·subst hrl;rw [rowA,hkz,Q7y]
   ·rw [rowR r _ hr hrl,hkz,Q7y,Q4I,Z8y]
    split
    ·exact h.low _ _ (Nat.le_refl _) ha (h.lt i h1)
    ·exact h.zero i r h1 hr hne
  ·obtain rfl:i=ls.length:=by omega
   rw [Q5q rfl,rowR r _ hr hne,hmi,Z4O]
   grind
 ·rw [List.length_append,List.length_singleton] at hil
  rcases Nat.lt_or_ge i ls.length with h1|h1
  ·rw [Q3K h1] at hc
   rw [rowR i _ (by omega) (by omega),if_neg (by omega),if_neg (by omega),h.before i c h1 hc,h.low k c hk1 hk2 (by have:=h.lt i h1;omega),Q7y,Q4I,Z8y]
  ·obtain rfl:i=ls.length:=by omega
   rw [Q5q rfl] at hc
   rw [rowA,h.low k c hk1 hk2 hc,Q7y]
 ·rw [List.length_append,List.length_singleton] at h1
  rw [rowR r _ h2 (by omega)]
  by_cases hc:c=col
  ·subst hc;rw [hmi,Z4O];grind
  ·rw [h.low k c hk1 hk2 (by omega),Q7y,Q4I,Z8y]
   split
   ·exact h.low _ _ (Nat.le_refl _) ha (by omega)
   ·exact h.low r c (by omega) h2 (by omega)
def Z5F (M:Mx) (ls:List Nat) (c:Nat) (j:Nat):F:=Q1r ls.length fun i=>if ld ls i=j then M i c else 0
theorem Y3a {M:Mx} {ls:List Nat} {c j:Nat} (h:j∉ls):Z5F M ls c j=0:=by
 unfold Z5F
 apply Q2i
 intro i hi
 rw [if_neg]
 rintro rfl
 exact h (Y4h.2 ⟨i,hi,rfl⟩)
theorem Red.inj {M0 M:Mx} {m v col:Nat} {ls:List Nat} (h:Red M0 M m v col ls) {i j:Nat} (hi:i<ls.length) (hj:j<ls.length) (he:ld ls i=ld ls j):i=j:=by
 rcases Nat.lt_trichotomy i j with hl|hl|hl
 ·have:=h.inc i j hl hj;omega
 ·exact hl
 ·have:=h.inc j i hl hi;omega
theorem Red.sum_y {M0 M:Mx} {m v col:Nat} {ls:List Nat} (h:Red M0 M m v col ls) (hv:col<=v) (c r:Nat) (hr:r<m):Q1r v (fun j=>M r j * Z5F M ls c j)=if r<ls.length then M r c else 0:=by
 have e:Q1r v (fun j=>M r j * Z5F M ls c j)=Q1r ls.length (fun i=>M r (ld ls i) * M i c):=by
  have:Q1r v (fun j=>M r j * Z5F M ls c j)=Q1r v (fun j=>Q1r ls.length fun i=>M r j * (if ld ls i=j then M i c else 0)):=Q0z fun j _=>by unfold Z5F;rw [Q4L]
  rw [this,Z8L]
  apply Q0z
  intro i hi
  rw [Q4M (ld ls i) (by have:=h.lt i hi;omega),if_pos rfl]
  intro j _ hne
  rw [if_neg (fun he=>hne he.symm),Q4I]
 rw [e]
 split
 ·next hl=>
  rw [Q4M r hl,h.one r hl,Y3P]
  intro i hi hne
  rw [h.zero i r hi hr (Ne.symm hne),Q7y]
 ·next hl=>
  apply Q2i
  intro i hi
  rw [h.zero i r hi hr (by omega),Q7y]
theorem Red.ker_y {M0 M:Mx} {m v col:Nat} {ls:List Nat} (h:Red M0 M m v col ls) (hv:col<=v) {c:Nat} (hc:c<v) (hz: ∀r,ls.length<=r->r<m->M r c=0):Ker m v M0 (fun j=>(if j=c then 1 else 0) - Z5F M ls c j):=by
 rw [<-h.ker]
 intro r hr
 have:Q1r v (fun j=>M r j * ((if j=c then 1 else 0) - Z5F M ls c j))=Q1r v (fun j=>M r j * (if j=c then 1 else 0))+(-1) * Q1r v (fun j=>M r j * Z5F M ls c j):=by
  rw [<-Q4L,<-Q7Y]
  exact Q0z fun i _=>by grind
 rw [this,h.sum_y hv c r hr,Q4M c hc (fun i _ hne=>by rw [if_neg hne,Q4I]),if_pos rfl,Z4O]
 split
 ·grind
 ·rw [hz r (by omega) hr,Q4I,Q6b]
theorem Red.solves {M0 M:Mx} {m n:Nat} {ls:List Nat} (h:Red M0 M m (n+1) n ls) (hz: ∀r,ls.length<=r->r<m->M r n=0): ∀r,r<m->Q1r n (fun j=>M0 r j * Z5F M ls n j)=M0 r n:=by
 intro r hr
 have hn:n∉ls:=fun hm=>by
  obtain ⟨i,hi,he⟩:=Y4h.1 hm
  have:=h.lt i hi
  omega
 have h1:=h.ker_y (by omega) (show n<n+1 by omega) hz r hr
 rw [Q1r] at h1
 dsimp only at h1
 rw [if_pos rfl,Y3a hn,Z8y,Z4O] at h1
 have:Q1r n (fun j=>M0 r j * ((if j=n then 1 else 0) - Z5F M ls n j))=(-1) * Q1r n (fun j=>M0 r j * Z5F M ls n j):=by
  rw [<-Q4L]
  exact Q0z fun i hi=>by rw [if_neg (by omega)];grind
 rw [this] at h1
 grind
end Croft
namespace Croft
def Z4q (m n:Nat) (M:Mx) (y:Nat->F):Prop:= ∀r,r<m->Q1r n (fun j=>M r j * y j)=M r n
section
variable {M0 M M1 N1:Mx} {m m1 n:Nat} {ls ls1:List Nat}
theorem Z4r {y:Nat->F}:Z4q m n M0 y↔Ker m (n+1) M0 (fun j=>if j<n then y j else -1):=by
 have e: ∀r,Q1r (n+1) (fun j=>M0 r j * (if j<n then y j else -1))=Q1r n (fun j=>M0 r j * y j) - M0 r n:=fun r=>by
  rw [Q1r,if_neg (by omega),Q0z (g:=fun j=>M0 r j * y j) (fun i hi=>by rw [if_pos hi])]
  grind
 constructor
 ·intro h r hr
  rw [e,h r hr];grind
 ·intro h r hr
  have h1:=h r hr
  rw [e] at h1
  grind
theorem Red.meets (h:Red M0 M m (n+1) n ls) {y:Nat->F}:Z4q m n M0 y↔Z4q m n M y:=by
 rw [Z4r,Z4r,h.ker]
theorem Red.fits (h:Red M0 M m (n+1) n ls) {y:Nat->F} (hy:Z4q m n M0 y): ∀r,ls.length<=r->r<m->M r n=0:=by
 intro r h1 h2
 rw [<-(h.meets.1 hy) r h2]
 exact Q2i fun i hi=>by rw [h.low r i h1 h2 hi,Q7y]
theorem Red.sol (h:Red M0 M m (n+1) n ls) (hz: ∀r,ls.length<=r->r<m->M r n=0):Z4q m n M0 (Z5F M ls n):=h.solves hz
end
end Croft
