/- Parts of the proof, put together by a program: TopK TimesR. No condition. -/
import Derived.Test.YtploomncapiloaaGreatDoorSAP
import Derived.Test.YtploomncapiloaaGreatDoorSAR
import Derived.Deep.SlicePairs
import Derived.Lib.SmallJoins
import Derived.Maps.RangeWalk
import Derived.OpenShut
import Derived.ProofKit
import Derived.SizedLaws
set_option maxRecDepth 100000
set_option maxHeartbeats 8000000
namespace Go.Proofs.YtploomncapiloaaGreatDoor
open Go.RowKit Go.Maps Croft
def updX (X:Int->F) (z:Int) (x:F):Int->F:=fun y=>if y=z then x else X y
def Q2O (n t:Nat) (S:Int->Option (List Int)) (X:Int->F):Prop:= ∀z zs,S z=some zs->Shared n t (Q0f zs) (X z)
theorem Q2O.put {n t:Nat} {S:Int->Option (List Int)} {X:Int->F} (h:Q2O n t S X) {z:Int} {l:List Int} {x:F} (hl:Shared n t (Q0f l) x):Q2O n t (upd S z (some l)) (updX X z x):=fun y ys hy=>by
 unfold upd at hy
 unfold updX
 by_cases he:y=z
 ·rw [if_pos he] at hy⊢
  injection hy with hy
  subst hy
  exact hl
 ·rw [if_neg he] at hy⊢
  exact h y ys hy
theorem Q2O.turn {n t:Nat} {S:Int->Option (List Int)} {X:Int->F} (h:Q2O n t S X) {z:Int} {l:List Int} (hl:Shared n t (Q0f l) (X z)):Q2O n t (upd S z (some l)) X:=fun y ys hy=>by
 unfold upd at hy
 by_cases he:y=z
 ·rw [if_pos he] at hy
  injection hy with hy
  subst hy he
  exact hl
 ·rw [if_neg he] at hy
  exact h y ys hy
theorem Q2O.drop {n t:Nat} {S:Int->Option (List Int)} {X:Int->F} (h:Q2O n t S X) {z:Int}:Q2O n t (upd S z none) X:=fun y ys hy=>by
 unfold upd at hy
 by_cases he:y=z
 ·rw [if_pos he] at hy
  cases hy
 ·rw [if_neg he] at hy
  exact h y ys hy
theorem Z5w {N T:Nat} (ds:List Int):Shared N T (Q0f (Q0g (Q3V N (Q9F T ds) N))) (Q1r N fun i=>toF (ds.getD (i * (T+1)) 0)):=by
 rw [Q0A]
 have h:=Q7N (n:=N) (t:=T) (f:=Q9F T ds) N (fun i _=>by unfold Q9F;rw [Q0l];simp;omega)
 rw [Q0z (g:=fun i=>toF (ds.getD (i * (T+1)) 0)) (fun i _=>by unfold Q9F Q0f;rw [List.map_cons,Q3I])] at h
 exact h
theorem Z5x {N T:Nat} (ds l0:List Int) {x:F} (h:Shared N T (Q0f l0) x):Shared N T (Q0f (Q0g (List.zipWith (· + ·) (Q0f l0) (Q3V N (Q6X T ds) N)))) x:=by
 rw [Q0A]
 have h2:=Q7N (n:=N) (t:=T) (f:=Q6X T ds) N (fun i _=>by unfold Q6X;rw [Q0l];simp;omega)
 rw [Q2i (fun i _=>by unfold Q6X Q0f;rw [List.map_cons,Q3I,Q1G])] at h2
 have:=h.add h2
 rwa [Q6b] at this
theorem Z4j {N T:Nat} (l0:List Int) {x:F} (a:F) (h:Shared N T (Q0f l0) x):Shared N T (Q0f (l0.map fun y=>ofF (toF y+a))) (x+a):=by
 have h2:=h.add (Shared.const N T a)
 have e:Q0f (l0.map fun y=>ofF (toF y+a))=List.zipWith (· + ·) (Q0f l0) (List.replicate N a):=by
  have hl:=h.len
  rw [Q0l] at hl
  refine List.ext_getElem (by simp [Q0l,hl]) fun i h1 h2=> ?_
  simp [Q0f,Q0m]
 rw [e]
 exact h2
theorem Z1K {N T:Nat} (l0 l1:List Int) {x y:F} (a b:Int) (h0:Shared N T (Q0f l0) x) (h1:Shared N T (Q0f l1) y):Shared N T (Q0f (Q8H (· + ·) (l0.map fun z=>ofF (toF z * toF a)) (l1.map fun z=>ofF (toF z * toF b)))) (x * toF a+y * toF b):=by
 have h2:=(h0.scale (toF a)).add (h1.scale (toF b))
 have e:Q0f (Q8H (· + ·) (l0.map fun z=>ofF (toF z * toF a)) (l1.map fun z=>ofF (toF z * toF b)))=List.zipWith (· + ·) ((Q0f l0).map (· * toF a)) ((Q0f l1).map (· * toF b)):=by
  refine (show Q0f (Q8H (· + ·) (l0.map fun z=>ofF (toF z * toF a)) (l1.map fun z=>ofF (toF z * toF b)))=_ from Q0A (List.zipWith (· + ·) ((l0.map fun z=>ofF (toF z * toF a)).map toF) ((l1.map fun z=>ofF (toF z * toF b)).map toF))).trans ?_
  simp [Q0f,Function.comp_def,Q0m]
 rw [e]
 exact h2
theorem Z0Q {N T:Nat} (l0 l1 ds:List Int) {x y:F} (h0:Shared N T (Q0f l0) x) (h1:Shared N T (Q0f l1) y) (ht:2 * T+1<=N) (hn:N<=9):Shared N T (Q0f (Q0g (Q2d N T (Q0f l0) (Q0f l1) (Q0f ds)))) (x * y):=by
 rw [Q0A]
 exact h0.mul h1 ht (by omega) _
end Go.Proofs.YtploomncapiloaaGreatDoor
namespace Go.Proofs.YtploomncapiloaaGreatDoor
open Go.RowKit Croft
theorem Z5y {l:List (Int×Int)} {k:Nat} {a y:Int} (h:l[k]? =some (a,y)):(Q2X l)[k]? =some (toF a,toF y):=by unfold Q2X;rw [List.getElem?_map,h];rfl
theorem Q9p (va:Value) (l:List (Int×Int)) (w:World) (h1:Q0V w va l) (h:l.length<=40) (hok:Q1P l 2147483646):
  Calls Tryz.prog 169 #[va] w fun e w'=> ∃v Q,e= .returned v/\Interp (Q2X l) Q/\Q0c w' w.heap.size v (Q0g Q)/\Below w.heap.size w w':=by
 obtain ⟨A1,c1,rfl,hc1,hm1,hl1,hu1,hr1⟩:=h1
 have HOK:=Qh hok
 have HND:=Qh (Q2v hok)
 have hpl:(Q2X l).length=l.length:=by simp [Q2X]
 have HPL:=Qh hpl
 clear hok hpl
 suffices hgoal: ∀Post:Ending->World->Prop,(∀e w',(∃v Q,e= .returned v/\Interp (Q2X l) Q/\Q0c w' w.heap.size v (Q0g Q)/\Below w.heap.size w w')->Post e w')->Calls Tryz.prog 169 #[.slice A1 l.length c1] w Post from hgoal _ fun e w' h=>h
 intro Post hp
 have HP:=Qh hp
 clear hp
 go_enter Tryz.func169,Tryz.ntmps169
 go_wp2_with fail
 go_loopw [3,4] (fun ov i wr=> ∃(k:Nat) (O:List F),k<=l.length/\i= .int .i64 k/\Z0z (Q2X l) k O/\Q0c wr w.heap.size ov (Q0g O)/\Below w.heap.size w wr) (fun _ i _=>l.length - (intOf i).toNat)
 case atStart=>exact ⟨0, [],Nat.zero_le _,rfl,Z0z.start _,Q0c.nil _ _,Below.refl _ _⟩
 case round=>
  obtain ⟨i,O,hi,rfl,hsum,hown,hbel⟩:=hrel
  have HS:=Qh hsum
  have KO:=Qh hown
  have BEL:=Qh hbel
  have hsz:=hbel.size
  have hr:=hr1.below hbel
  have hr0:=Qh hr1
  clear hsum hown hr1
  by_cases hlt:i<l.length
  ·obtain ⟨b1,o1,ai,yi,rfl,hb1,hgi,hati,huyi,hc1',hc2⟩:=Q2S hr hu1 hlt
   have HGI:=Qh hgi
   have HAI:=Qh (HOK.out.1 _ (List.mem_of_getElem? hgi))
   clear hr hgi hbel hc1'
   go_wp2_with fail
   have K1:=Qh (show Q0c (wr.alloc (.cells #[.int .u64 yi] 67)) w.heap.size (.slice (some ⟨wr.heap.size,0,none⟩) 1 1) [yi] from Q5a wr w.heap.size [yi] (by simpa using huyi) (by simp) hsz)
   replace KO:=Qh (KO.out.alloc (.cells #[.int .u64 yi] 67))
   have hal:=size_alloc wr (.cells #[.int .u64 yi] 67)
   replace BEL:=Qh (BEL.out.alloc hsz (.cells #[.int .u64 yi] 67))
   obtain ⟨wo,hwo⟩: ∃wo,wo=wr.alloc (.cells #[.int .u64 yi] 67):=⟨_,rfl⟩
   rw [<-hwo] at K1 KO BEL hal⊢
   clear hwo hc2
   go_loopw [5,6] (fun ov i' wr=> ∃(k:Nat) (zs:List Int),k<=l.length/\i'= .int .i64 k/\Q8V (Q2X l) i k (Q0f zs)/\Q0c wr w.heap.size ov zs/\Q0c wr w.heap.size u3 (Q0g O)/\Below w.heap.size w wr) (fun _ i _=>l.length - (intOf i).toNat)
   case atStart=>exact ⟨0, [yi],Nat.zero_le _,rfl,Q8V.start (Z5y HGI.out),K1.out,KO.out,BEL.out⟩
   case round=>
    obtain ⟨k,zs,hk,rfl,hone,hown,hown2,hbel⟩:=hrel
    clear K1 KO BEL
    have HE:=Qh hone
    have K1:=Qh hown
    have KO:=Qh hown2
    have BEL:=Qh hbel
    have hsz2:=hbel.size
    have hr:=hr0.out.below hbel
    have hlen:=hone.len
    rw [Q0l] at hlen
    clear hone hown hown2
    by_cases hlt2:k<l.length
    ·by_cases hki:k=i
     ·subst hki
      clear hr hbel hlen
      go_wp2_with fail
      exact ⟨⟨k+1,zs,by omega,by go_num,HE.out.skip,K1.out,KO.out,BEL.out⟩,by simp [intOf]<;>omega⟩
     ·obtain ⟨b2,o2,ai',yi',hA,hb2,hgi2,hati2,huyi2,hd1,hd2⟩:=Q2S hr hu1 hlt
      obtain ⟨b3,o3,ak,yk,hA3,hb3,hgk,hatk,huyk,hd3,hd4⟩:=Q2S hr hu1 hlt2
      injection hA with hA
      injection hA with hA1 hA2
      subst hA1 hA2
      injection hA3 with hA3
      injection hA3 with hA4 hA5
      subst hA4 hA5
      have he3:(ai',yi')=(ai,yi):=by have:=HGI.out;rw [hgi2] at this;injection this
      injection he3 with he4 he5
      subst he4 he5
      have hbne:((k:Int)==(i:Int))=false:=by rw [beq_eq_false_iff_ne];omega
      have HGK:=Qh hgk
      have HKI:=Qh hki
      obtain ⟨ha1,ha2⟩:=HAI.out
      obtain ⟨hk1,hk2⟩:=HOK.out.1 _ (List.mem_of_getElem? hgk)
      dsimp only at ha1 ha2 hk1 hk2
      clear hr hbel hgi2 hgk hd2 hd4 hki hb2 hb3
      have hlz:zs.length<=41:=by split at hlen<;>omega
      clear hlen
      go_wp2_with fail
      go_quiet (fail)
      have K2:=Qh (K1.out.drewN nq)
      have KO2:=Qh (KO.out.drewN nq)
      have BEL2:=Qh (below_drewN BEL.out nq)
      clear K1 KO BEL
      obtain ⟨wo,hwo⟩: ∃wo,wo=wr.drewN nq:=⟨_,rfl⟩
      have hsz3:w.heap.size<=wo.heap.size:=by rw [hwo];exact hsz2
      rw [<-hwo] at K2 KO2 BEL2⊢
      clear hwo hsz2
      go_wp2_with fail
      have huk:U64 ak:=⟨by omega,by omega⟩
      have hui:U64 ai':=⟨by omega,by omega⟩
      have HUK:=Qh huk
      have HUI:=Qh hui
      clear huk hui
      refine (Q9N _ _ HUK.out).mono ?_
      rintro e w' ⟨rfl,rfl⟩
      try dsimp only
      go_wp2_with fail
      refine (Q2C _ _ _ HUI.out (U64.of_ofF _)).mono ?_
      rintro e w' ⟨rfl,rfl⟩
      rw [Q0m]
      try dsimp only
      go_wp2_with fail
      refine (Y1L _ _ (U64.of_ofF _)).mono ?_
      rintro e w' ⟨rfl,rfl⟩
      rw [Q0m]
      try dsimp only
      go_wp2_with fail
      refine (Q9N _ _ HUK.out).mono ?_
      rintro e w' ⟨rfl,rfl⟩
      try dsimp only
      go_wp2_with fail
      refine (Q3k _ _ _ (U64.of_ofF _) (U64.of_ofF _)).mono ?_
      rintro e w' ⟨rfl,rfl⟩
      rw [Q0m,Q0m]
      try dsimp only
      go_wp2_with fail
      obtain ⟨u,hu⟩: ∃u,u=inv (toF ai' - toF ak):=⟨_,rfl⟩
      have hneg:toF ai'+ -toF ak=toF ai' - toF ak:=by grind
      rw [hneg,<-hu]
      have HU:=Qh hu
      clear hu hneg
      refine (Z3E _ _ zs [ofF (-toF ak * u),ofF u] _ (by have h:=K2.out.is.alloc (.cells #[.int .u64 (ofF (-toF ak * u)),.int .u64 (ofF u)] 67);exact h) (Q5a _ 0 [ofF (-toF ak * u),ofF u] (fun z hz=>by simp at hz;rcases hz with rfl|rfl<;>exact U64.of_ofF _) (by simp) (Nat.zero_le _)).is (by omega) (by simp)).mono ?_
      rintro e W5 ⟨v5,rfl,ho,hb⟩
      rw [show Q0f [ofF (-toF ak * u),ofF u]= [-toF ak * u,u] by simp only [Q0f,List.map,Q0m]] at ho
      have K5:=Qh (ho.less (base':=w.heap.size) (by rw [size_alloc];omega))
      replace KO2:=Qh ((KO2.out.alloc (.cells #[.int .u64 (ofF (-toF ak * u)),.int .u64 (ofF u)] 67)).below hb)
      replace BEL2:=Qh (Q0b (BEL2.out.alloc hsz3 (.cells #[.int .u64 (ofF (-toF ak * u)),.int .u64 (ofF u)] 67)) hb (by rw [size_alloc];omega))
      clear ho hb
      dsimp only
      go_wp2_with fail
      refine ⟨⟨k+1,_,by omega,by go_num, ?_,K5.out,KO2.out,BEL2.out⟩,by simp [intOf]<;>omega⟩
      rw [Q0A,HU.out]
      exact HE.out.step HND.out (Z5y HGI.out) (Z5y HGK.out) HKI.out
    ·have hkl:k=l.length:=by omega
     subst hkl
     clear hr hbel hlen
     go_wp2_with fail
     refine (Y1O _ _ _ _ _ KO.out.is K1.out.is).mono ?_
     rintro e W5 ⟨v5,rfl,ho,hb⟩
     rw [Q0A] at ho
     have K5:=Qh (ho.less hsz2)
     replace BEL:=Qh (Q0b BEL.out hb hsz2)
     clear ho hb
     dsimp only
     go_wp2_with fail
     exact ⟨⟨i+1,_,by omega,by go_num,HS.out.step (by rw [HPL.out];exact hlt) (by rw [HPL.out];exact HE.out),K5.out,BEL.out⟩,by simp [intOf]<;>omega⟩
  ·clear hr hbel
   go_wp2_with fail
   obtain rfl:i=l.length:=by omega
   have h1:=HS.out
   rw [<-HPL.out] at h1
   exact HP.out _ _ ⟨_,_,rfl,h1.done,KO.out,BEL.out⟩
theorem Q6Y (secret:Int) (vd:Value) (ds:List Int) (n:Nat) (w:World) (hs:U64 secret) (h1:Q0h w vd ds) (hd:ds.length<=100) (hn2:n<=9):
  Calls Tryz.prog 80 #[.int .u64 secret,vd,.int .i64 n] w fun e w'=> ∃v,e= .returned v/\Q0c w' w.heap.size v (Q0g (Q4D n (Q0f (secret::ds))))/\Below w.heap.size w w':=by
 have KD:=Qh h1
 suffices hgoal: ∀Post:Ending->World->Prop,(∀e w',(∃v,e= .returned v/\Q0c w' w.heap.size v (Q0g (Q4D n (Q0f (secret::ds))))/\Below w.heap.size w w')->Post e w')->Calls Tryz.prog 80 #[.int .u64 secret,vd,.int .i64 n] w Post from hgoal _ fun e w' h=>h
 intro Post hp
 have HP:=Qh hp
 obtain ⟨A1,c1,rfl,hc1,hm1,hl1,hu1,hr1⟩:=h1
 clear hp hu1 hr1 hm1
 have HLO:=Qh (Q5a w w.heap.size [secret] (by simpa using hs) (by simp) (Nat.le_refl _))
 go_enter Tryz.func80,Tryz.ntmps80
 go_wp2_with (at_builtin;go_loud (refine Q3H rfl _ _ rfl w.heap.size _ _ [secret] ds rfl HLO.out rfl (KD.out.alloc _) (by simp;omega) (by rw [size_alloc];omega) ?_))
 intro v3 W3 ho3 hb3
 have KL:=Qh (show Q0h W3 v3 (secret::ds) from Q0c.is ho3)
 have B3:=Qh (((Below.refl w.heap.size w).alloc (Nat.le_refl _) (.cells #[.int .u64 secret] 67)).trans hb3)
 clear ho3 hb3 HLO
 go_wp2_with fail
 go_loopw [8,9] (fun v i wr=> ∃k:Nat,k<=n/\i= .int .i64 ((k:Int)+1)/\Q0c wr W3.heap.size v (Q0g (Q4D k (Q0f (secret::ds))))/\Below W3.heap.size W3 wr) (fun _ i _=>n+1 - (intOf i).toNat)
 case atStart=>exact ⟨0,Nat.zero_le _,rfl,Q0c.nil _ _,Below.refl _ _⟩
 case round=>
  obtain ⟨k,hk,rfl,hown,hbel⟩:=hrel
  have KO:=Qh hown
  have BEL:=Qh hbel
  have hsz:=hbel.size
  clear hown hbel
  by_cases hlt:k<n
  ·have KL2:=Qh (KL.out.below BEL.out)
   have hdk:decide ((k:Int)+1<=(n:Int))=true:=by simp;omega
   go_wp2_with fail
   refine (Q8a _ _ _ _ KL2.out (show U64 ((k:Int)+1) from ⟨by omega,by omega⟩)).mono ?_
   rintro e w' ⟨rfl,rfl⟩
   try dsimp only
   go_wp2_with (at_builtin;go_loud (refine Q0B rfl _ _ rfl W3.heap.size _ _ (ofF (Q0n (Q0f (secret::ds)) (toF ((k:Int)+1)))) wr.heap.size 1 rfl (KO.out.alloc _) rfl (Q0o _ _ _) (U64.of_ofF _) (by rw [Q0d,Q0K];omega) (by rw [size_alloc];omega) ?_))
   intro v' w5 hown' hbel'
   rw [<-Z3V] at hown'
   have K5:=Qh hown'
   have B5:=Qh ((BEL.out.alloc hsz (.cells #[.int .u64 (ofF (Q0n (Q0f (secret::ds)) (toF ((k:Int)+1))))] 67)).trans hbel')
   clear hown' hbel'
   go_wp2_with fail
   exact ⟨⟨k+1,by omega,by go_num,K5.out,B5.out⟩,by simp [intOf]<;>omega⟩
  ·obtain rfl:n=k:=by omega
   have hdk:decide ((n:Int)+1<=(n:Int))=false:=by simp;omega
   go_wp2_with fail
   exact HP.out _ _ ⟨_,rfl,KO.out.less B3.out.size,Q0b B3.out BEL.out B3.out.size⟩
def dlt (ats:List Int) (i:Nat):List (Int×Int):=(List.range ats.length).map fun (k:Nat)=>(ats.getD k 0,if k=i then 1 else 0)
theorem Q6Z (ats:List Int) (i:Nat):(dlt ats i).length=ats.length:=by simp [dlt]
theorem Y2P {ats:List Int} {i k:Nat} {a:Int} (h:ats[k]? =some a):(dlt ats i).take (k+1)=(dlt ats i).take k++ [(a,if k=i then 1 else 0)]:=by
 have hk:=(List.getElem?_eq_some_iff.1 h).1
 rw [List.take_add_one]
 congr 1
 simp [dlt,List.getElem?_range hk,List.getD,h]
theorem Z5z (ats:List Int) (i:Nat):(dlt ats i).map (·.1)=ats:=by
 apply List.ext_getElem?
 intro k
 rcases Nat.lt_or_ge k ats.length with h|h
 ·simp [dlt,List.getElem?_range h,List.getElem?_eq_getElem h]
 ·rw [List.getElem?_eq_none (by simp [dlt];exact h),List.getElem?_eq_none h]
theorem Z7E {ats:List Int} {i:Nat} {a:Int} (hp:Q3B ats=true) (h:ats[i]? =some a) {Q:List F} (hQ:Interp (Q2X (dlt ats i)) Q):Q0n Q 0=wtF (Q0f ats) (toF a):=by
 have hok:Q1P (dlt ats i) 9:=Q5j.1 (by rw [Z5z];exact hp)
 have hnd:=Q2v hok.more
 have hfst:(Q2X (dlt ats i)).map (·.1)=Q0f ats:=by rw [Z2G,Z5z];rfl
 rw [hfst] at hnd
 have hi:=(List.getElem?_eq_some_iff.1 h).1
 have hlen:(Q0f ats).length=ats.length:=Q0l _
 have hql:Q.length<=(Q0f ats).length:=by rw [hlen];have:=hQ.2.1;simpa [Q2X,Q6Z] using this
 have hat: ∀k,k<ats.length->Q0n Q (co (Q0f ats) k)=if k=i then 1 else 0:=fun k hk=>by
  have hm:(co (Q0f ats) k,toF (if k=i then 1 else 0))∈Q2X (dlt ats i):=by
   unfold Q2X dlt
   rw [List.map_map]
   refine List.mem_map.2 ⟨k,List.mem_range.2 hk, ?_⟩
   simp only [Function.comp]
   rw [Q1n (List.getElem?_eq_getElem hk)]
   simp [List.getD,List.getElem?_eq_getElem hk]
  have:=hQ.2.2 _ hm
  dsimp only at this
  rw [this]
  split
  ·exact Q8K
  ·exact Q1G
 have hl:=Z3N (Q0f ats) hnd Q hql
 rw [<-hl,Q4M i (by rw [hlen];exact hi),hat i hi,if_pos rfl,Z4O,Q1n h]
 intro k hk hne
 rw [hat k (by rw [<-hlen];exact hk),if_neg hne,Q4I]
theorem Z4k (va:Value) (ats:List Int) (w:World) (h1:Q0y w va ats) (hp:Q3B ats=true) (h9:ats.length<=9):
  Calls Tryz.prog 172 #[va] w fun e w'=> ∃v,e= .returned v/\Q0c w' w.heap.size v (wtL ats ats.length)/\Below w.heap.size w w':=by
 have KA:=Qh h1
 have HPP:=Qh hp
 suffices hgoal: ∀Post:Ending->World->Prop,(∀e w',(∃v,e= .returned v/\Q0c w' w.heap.size v (wtL ats ats.length)/\Below w.heap.size w w')->Post e w')->Calls Tryz.prog 172 #[va] w Post from hgoal _ fun e w' h=>h
 intro Post hpo
 have HP:=Qh hpo
 obtain ⟨A1,c1,rfl,hc1,hm1,hl1,hu1,hr1⟩:=h1
 clear hp hpo hu1 hr1 hm1
 go_enter Tryz.func172,Tryz.ntmps172
 go_wp2_with fail
 go_loopw [3,4] (fun v i wr=> ∃k:Nat,k<=ats.length/\i= .int .i64 k/\Q0c wr w.heap.size v (wtL ats k)/\Below w.heap.size w wr) (fun _ i _=>ats.length - (intOf i).toNat)
 case atStart=>exact ⟨0,Nat.zero_le _,rfl,by simp only [wtL,List.take_zero,List.map_nil];exact Q0c.nil _ _,Below.refl _ _⟩
 case round=>
  obtain ⟨i,hi,rfl,hown,hbel⟩:=hrel
  have KO:=Qh hown
  have BEL:=Qh hbel
  have hsz:=hbel.size
  clear hown hbel
  by_cases hlt:i<ats.length
  ·have KAr:=Qh (KA.out.below BEL.out)
   have hg:ats[i]? =some ats[i]:=List.getElem?_eq_getElem hlt
   obtain ⟨a,ha⟩: ∃a,a=ats[i]:=⟨_,rfl⟩
   rw [<-ha] at hg
   have HG:=Qh hg
   clear hg ha
   go_wp2_with fail
   obtain ⟨wo,hwo⟩: ∃wo,wo=wr:=⟨_,rfl⟩
   subst hwo
   go_loopw [5,6] (fun v j wq=> ∃k:Nat,k<=ats.length/\j= .int .i64 k/\Q0r wq wo.heap.size v ((dlt ats i).take k)/\Below wo.heap.size wo wq) (fun _ j _=>ats.length - (intOf j).toNat)
   case atStart=>exact ⟨0,Nat.zero_le _,rfl,Q0r.nil _ _,Below.refl _ _⟩
   case round=>
    obtain ⟨k,hk,rfl,hsh,hbw⟩:=hrel
    have KS:=Qh hsh
    have BW:=Qh hbw
    have hszw:=hbw.size
    clear hsh hbw
    by_cases hlt2:k<ats.length
    ·obtain ⟨A,c,hA,_,_,_,hu,hr⟩:=KAr.out.below BW.out
     injection hA with hA1 hA2 hA3
     subst hA1 hA3
     clear hA2
     obtain ⟨b1,o1,z,rfl,hb1,hgk,hz64,hca⟩:=ints_at hr hu hlt2
     have HT:=Qh (Y2P (i:=i) hgk)
     have HTL:=Qh (show ((dlt ats i).take k).length<=9 by rw [List.length_take,Q6Z];omega)
     clear hu hr hgk hb1
     by_cases hki:k=i
     ·subst hki
      rw [if_pos rfl] at HT
      have hbe:((k:Int)==(k:Int))=true:=by simp
      go_wp2_with (at_builtin;go_loud (refine Q1Z rfl _ _ rfl wo.heap.size _ _ z 1 wr.heap.size 1 rfl (KS.out.alloc _) rfl (Q2D _ _ _ _) (Q2E _ _ _ _) hz64 (by unfold U64;omega) (by have:=HTL.out;omega) (by rw [size_alloc];omega) ?_))
      intro v' w5 hown' hbel'
      rw [<-HT.out] at hown'
      have K5:=Qh hown'
      have B5:=Qh ((BW.out.alloc hszw (.cells #[.int .i64 z,.int .u64 1] 71)).trans hbel')
      clear hown' hbel'
      go_wp2_with fail
      exact ⟨⟨k+1,by omega,by go_num,K5.out,B5.out⟩,by simp [intOf]<;>omega⟩
     ·rw [if_neg hki] at HT
      have hbe:((k:Int)==(i:Int))=false:=by rw [beq_eq_false_iff_ne];omega
      clear hki
      go_wp2_with (at_builtin;go_loud (refine Q1Z rfl _ _ rfl wo.heap.size _ _ z 0 wr.heap.size 1 rfl (KS.out.alloc _) rfl (Q2D _ _ _ _) (Q2E _ _ _ _) hz64 (by unfold U64;omega) (by have:=HTL.out;omega) (by rw [size_alloc];omega) ?_))
      intro v' w5 hown' hbel'
      rw [<-HT.out] at hown'
      have K5:=Qh hown'
      have B5:=Qh ((BW.out.alloc hszw (.cells #[.int .i64 z,.int .u64 0] 71)).trans hbel')
      clear hown' hbel'
      go_wp2_with fail
      exact ⟨⟨k+1,by omega,by go_num,K5.out,B5.out⟩,by simp [intOf]<;>omega⟩
    ·obtain rfl:ats.length=k:=by omega
     have HTE:=Qh (show (dlt ats i).take ats.length=dlt ats i from List.take_of_length_le (by rw [Q6Z];exact Nat.le_refl _))
     rw [HTE.out] at KS
     have HAO:=Qh (show Q1P (dlt ats i) 9 from Q5j.1 (by rw [Z5z];exact HPP.out))
     go_wp2_with fail
     refine (Q9p _ _ _ KS.out.is (by rw [Q6Z];omega) HAO.out.more).mono ?_
     rintro e W8 ⟨vq,Q,rfl,hQ,ho,hb⟩
     have HQ:=Qh (Z7E HPP.out HG.out hQ)
     have KQ:=Qh ho.is
     have KO8:=Qh ((KO.out.below BW.out).below hb)
     have B8:=Qh (Q0b BEL.out (Q0b BW.out hb BW.out.size) hsz)
     clear ho hb hQ
     try dsimp only
     go_wp2_with fail
     refine (Q8a _ _ _ _ KQ.out (show U64 0 from ⟨by omega,by omega⟩)).mono ?_
     rintro e w' ⟨rfl,rfl⟩
     rw [Q0A,Q1G,HQ.out]
     have hsz8:=B8.out.size
     have HWL:=Qh (show (wtL ats i).length<=9 by unfold wtL;rw [List.length_map,List.length_take];omega)
     have HWN:=Qh (show wtL ats (i+1)=wtL ats i++ [ofF (wtF (Q0f ats) (toF a))] by unfold wtL;rw [List.take_add_one,HG.out];simp)
     try dsimp only
     go_wp2_with (at_builtin;go_loud (refine Q0B rfl _ _ rfl w.heap.size _ _ (ofF (wtF (Q0f ats) (toF a))) W8.heap.size 1 rfl (KO8.out.alloc _) rfl (Q0o _ _ _) (U64.of_ofF _) (by have:=HWL.out;omega) (by rw [size_alloc];omega) ?_))
     intro v' w5 hown' hbel'
     rw [<-HWN.out] at hown'
     have K5:=Qh hown'
     have B5:=Qh ((B8.out.alloc hsz8 (.cells #[.int .u64 (ofF (wtF (Q0f ats) (toF a)))] 67)).trans hbel')
     clear hown' hbel'
     go_wp2_with fail
     exact ⟨⟨i+1,by omega,by go_num,K5.out,B5.out⟩,by simp [intOf]<;>omega⟩
  ·obtain rfl:ats.length=i:=by omega
   go_wp2_with fail
   exact HP.out _ _ ⟨_,rfl,KO.out,BEL.out⟩
end Go.Proofs.YtploomncapiloaaGreatDoor
