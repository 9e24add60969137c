/- Parts of the proof, put together by a program: SolT. No condition. -/
import Derived.Test.YtploomncapiloaaGreatDoorSAN
import Derived.Test.YtploomncapiloaaGreatDoorSAQ
import Derived.Test.YtploomncapiloaaGreatDoorSAV
set_option maxRecDepth 100000
set_option maxHeartbeats 8000000
namespace Go.Proofs.YtploomncapiloaaGreatDoor
open Go.RowKit Croft
def Z9V (vars:Int) (r:List Int):Bool:=((r.length:Int) !=vars+1)
def Z8B (rows:List (List Int)) (vars:Int):Int:=if 1<=vars/\vars<=20 then if (rows.length:Int)>20 then 2 else if rows.any (Z9V vars)=true then 5 else 0 else 1
theorem Z6B (x:Value) (r:List Int) (vars:Int) (b:Nat) (w:World) (h1:Q0h w x r) (hb:w.cell? ⟨b,0,none⟩=some (.int .i64 vars)) (hv:1<=vars/\vars<=20):
  Calls Tryz.prog 222 #[x,.pointer (some ⟨b,0,none⟩)] w fun e w'=>e= .returned (.bool (Z9V vars r))/\w=w':=by
 obtain ⟨A1,c1,rfl,hc1,hm1,hl1,hu1,hr1⟩:=h1
 obtain ⟨hv1,hv2⟩:=hv
 have HL:=Qh (show Z9V vars r=((r.length:Int) !=vars+1) from rfl)
 clear hu1 hr1 hm1
 go_enter Tryz.func222,Tryz.ntmps222
 go_wp2_with fail
 go_ret
 exact ⟨by rw [HL.out];rfl,rfl⟩
theorem Z5G (vars:Int) (b:Nat) (va:Value) (rows:List (List Int)) (w:World) (h1:Q3Z w va rows) (hb:w.cell? ⟨b,0,none⟩=some (.int .i64 vars)) (hv:1<=vars/\vars<=20):
  Calls Tryz.prog 225 #[va,.func (.func 222) #[] #[.pointer (some ⟨b,0,none⟩)]] w fun e w'=> ∃r:Int,e= .returned (.int .i64 r)/\((0<=r)↔rows.any (Z9V vars)=true)/\w=w':=by
 have hcf: ∀(x y:Value) (W:World),(callFunc 222 #[x,y]).run Tryz.prog W= .ok (.enter 222 #[x,y]) W:=fun x y W=>by kernel_rfl
 obtain ⟨A1,c1,vs,rfl,hc1,hm1,hl1,hr1,ha1⟩:=h1
 have HR:=Qh hr1
 have HA:=Qh ha1
 have HB:=Qh hb
 have HV:=Qh hv
 clear hr1 ha1 hm1 hb hv
 go_enter Tryz.func225,Tryz.ntmps225
 go_wp2_with fail
 go_loop [8] (fun i=> ∃k:Nat,k<=rows.length/\i= .int .i64 k/\(rows.take k).any (Z9V vars)=false) (fun i=>rows.length - (intOf i).toNat)
 case atStart=>exact ⟨0,Nat.zero_le _,rfl,by simp⟩
 case round=>
  obtain ⟨k,hk,rfl,hno⟩:=hrel
  have HN:=Qh hno
  clear hno
  by_cases hlt:k<rows.length
  ·obtain ⟨b1,o1,x,r,rfl,hb1,hx,hgr,hn,hc⟩:=Z2H HR.out HA.out hlt
   have HZ:=Qh hgr
   have HX:=Qh hn
   clear hgr hx hb1 hn
   cases hp:Z9V vars r with
   |true=>
    have HP:=Qh hp
    clear hp
    go_wp2_with fail
    refine (Z6B _ r vars b _ HX.out HB.out HV.out).mono ?_
    rintro e w' ⟨rfl,rfl⟩
    rw [HP.out]
    try dsimp only
    go_wp2_with fail
    go_ret
    refine ⟨_,rfl,⟨fun _=> ?_,fun _=>by omega⟩,rfl⟩
    rw [List.any_eq_true]
    exact ⟨r,List.mem_of_getElem? HZ.out,HP.out⟩
   |false=>
    have HP:=Qh hp
    clear hp
    go_wp2_with fail
    refine (Z6B _ r vars b _ HX.out HB.out HV.out).mono ?_
    rintro e w' ⟨rfl,rfl⟩
    rw [HP.out]
    try dsimp only
    go_wp2_with fail
    refine ⟨⟨k+1,by omega,by go_num, ?_⟩,by simp [intOf]<;>omega⟩
    rw [List.take_add_one,HZ.out,List.any_append,HN.out]
    simp [HP.out]
  ·obtain rfl:k=rows.length:=by omega
   go_wp2_with fail
   go_ret
   refine ⟨_,rfl,⟨fun h=>by omega,fun h=> ?_⟩,rfl⟩
   have:=HN.out
   rw [List.take_length] at this
   have h':rows.any (Z9V vars)=true:=by first|exact h|exact List.any_eq_true.2 h
   rw [h'] at this
   cases this
theorem Z0W (vars:Int) (b:Nat) (va:Value) (rows:List (List Int)) (w:World) (h1:Q3Z w va rows) (hb:w.cell? ⟨b,0,none⟩=some (.int .i64 vars)) (hv:1<=vars/\vars<=20):
  Calls Tryz.prog 221 #[va,.func (.func 222) #[] #[.pointer (some ⟨b,0,none⟩)]] w fun e w'=>e= .returned (.bool (rows.any (Z9V vars)))/\w=w':=by
 have C:=Qh (Z5G vars b va rows w h1 hb hv)
 clear h1 hb hv
 go_enter Tryz.func221,Tryz.ntmps221
 go_wp2_with fail
 refine C.out.mono ?_
 rintro e w' ⟨r,rfl,hr,rfl⟩
 cases ha:rows.any (Z9V vars) with
 |true=>
  have h0:r>=0:=hr.2 ha
  have HA:=Qh ha
  clear hr ha
  try dsimp only
  go_wp2_with fail
  go_ret
  exact ⟨by rw [HA.out];rfl,rfl⟩
 |false=>
  have h0: ¬r>=0:=fun h=>by have:=hr.1 h;rw [ha] at this;cases this
  have HA:=Qh ha
  clear hr ha
  try dsimp only
  go_wp2_with fail
  go_ret
  exact ⟨by rw [HA.out];rfl,rfl⟩
theorem Z2Z (va:Value) (rows:List (List Int)) (vars:Int) (w:World) (h1:Q3Z w va rows):
  Calls Tryz.prog 213 #[va,.int .i64 vars] w fun e w'=>e= .returned (.int .i64 (Z8B rows vars))/\Below w.heap.size w w':=by
 have KA:=Qh h1
 obtain ⟨A1,c1,vs,rfl,hc1,hm1,hl1,hr1,ha1⟩:=h1
 have hb:=(Below.refl w.heap.size w).alloc (Nat.le_refl _) (.cells #[.int .i64 vars] 3)
 have BEL:=Qh hb
 have KA1:=Qh (KA.out.below hb)
 have HB:=Qh (Q0o w (.int .i64 vars) 3)
 clear hr1 ha1 hm1 hb
 by_cases hv:1<=vars/\vars<=20
 ·have HV:=Qh hv
  obtain ⟨hv1,hv2⟩:=hv
  have hd1:decide (vars<1)=false:=by simp;omega
  have hd2:decide (vars>20)=false:=by simp;omega
  by_cases hl:(rows.length:Int)>20
  ·have HE:=Qh (show Z8B rows vars=2 by unfold Z8B;rw [if_pos HV.out,if_pos hl])
   go_enter Tryz.func213,Tryz.ntmps213
   go_wp2_with fail
   go_ret
   exact ⟨by rw [HE.out];rfl,BEL.out⟩
  ·have hd3:decide ((rows.length:Int)>20)=false:=by simpa using hl
   cases ha:rows.any (Z9V vars) with
   |true=>
    have HE:=Qh (show Z8B rows vars=5 by unfold Z8B;rw [if_pos HV.out,if_neg hl,if_pos ha])
    have HA:=Qh ha
    clear hl ha
    go_enter Tryz.func213,Tryz.ntmps213
    go_wp2_with fail
    refine (Z0W vars w.heap.size _ rows _ KA1.out HB.out HV.out).mono ?_
    rintro e w' ⟨rfl,rfl⟩
    rw [HA.out]
    try dsimp only
    go_wp2_with fail
    go_ret
    exact ⟨by rw [HE.out];rfl,BEL.out⟩
   |false=>
    have HE:=Qh (show Z8B rows vars=0 by unfold Z8B;rw [if_pos HV.out,if_neg hl,if_neg (by rw [ha];simp)])
    have HA:=Qh ha
    clear hl ha
    go_enter Tryz.func213,Tryz.ntmps213
    go_wp2_with fail
    refine (Z0W vars w.heap.size _ rows _ KA1.out HB.out HV.out).mono ?_
    rintro e w' ⟨rfl,rfl⟩
    rw [HA.out]
    try dsimp only
    go_wp2_with fail
    go_ret
    exact ⟨by rw [HE.out];rfl,BEL.out⟩
 ·have HE:=Qh (show Z8B rows vars=1 by unfold Z8B;rw [if_neg hv])
  by_cases h1:vars<1
  ·clear hv
   go_enter Tryz.func213,Tryz.ntmps213
   go_wp2_with fail
   go_ret
   exact ⟨by rw [HE.out];rfl,BEL.out⟩
  ·have h2:vars>20:=by omega
   have hd1:decide (vars<1)=false:=by simpa using h1
   clear hv
   go_enter Tryz.func213,Tryz.ntmps213
   go_wp2_with fail
   go_ret
   exact ⟨by rw [HE.out];rfl,BEL.out⟩
def sw (a k i:Nat):Nat:=if i=k then a else if i=a then k else i
theorem Y5L {a k i j:Nat} (h:sw a k i=sw a k j):i=j:=by unfold sw at h;split at h<;>split at h<;>(try split at h)<;>(try split at h)<;>omega
theorem Q7b {α:Type} {l:List α} {a k:Nat} {x y:α} (hx:l[a]? =some x) (hy:l[k]? =some y) (i:Nat):((l.set a y).set k x)[i]? =l[sw a k i]? :=by
 have hk:=(List.getElem?_eq_some_iff.1 hy).1
 have ha:=(List.getElem?_eq_some_iff.1 hx).1
 unfold sw
 by_cases h1:i=k
 ·subst h1
  rw [if_pos rfl,List.getElem?_set_self (by rw [List.length_set];exact hk),hx]
 ·rw [if_neg h1,List.getElem?_set_ne (Ne.symm h1)]
  by_cases h2:i=a
  ·subst h2
   rw [if_pos rfl,List.getElem?_set_self ha,hy]
  ·rw [if_neg h2,List.getElem?_set_ne (Ne.symm h2)]
theorem Q1W.swap {w:World} {base g n c a k:Nat} {vs:List Value} {rows:List (List Int)} {x y:Value} {ra rk:List Int} (h:Q1W w base (.slice (some ⟨g,0,none⟩) n c) vs rows)
  (hx:vs[a]? =some x) (hy:vs[k]? =some y) (hra:rows[a]? =some ra) (hrk:rows[k]? =some rk):
  Q1W ((w.setCell ⟨g,a,none⟩ y).setCell ⟨g,k,none⟩ x) base (.slice (some ⟨g,0,none⟩) n c) ((vs.set a y).set k x) ((rows.set a rk).set k ra):=by
 have hn:n=rows.length:=by
  rcases h.outer.2 with ⟨hv,_⟩|⟨g',cap,cur,hv,_⟩
  ·simp at hv
  ·injection hv
 subst hn
 have hg1:=Q0F w g a y
 have hg2:=Q0F (w.setCell ⟨g,a,none⟩ y) g k x
 refine ⟨?_,by simpa using h.len,fun i u r hu hr=> ?_,fun i j u v b hu hv hub hvb=> ?_⟩
 ·rw [List.length_set,List.length_set]
  exact ((h.outer.stored a y).1.stored k x).1
 ·rw [Q7b hx hy] at hu
  rw [Q7b hra hrk] at hr
  have ho:=h.row _ u r hu hr
  have hne:u.ownBlock≠some g:=fun hb=>Q0W ho.1 h.outer (by decide) hb rfl
  exact (ho.kept hg1 (.inr hne)).kept hg2 (.inr hne)
 ·rw [Q7b hx hy] at hu hv
  exact Y5L (h.apart _ _ u v b hu hv hub hvb)
def mx (rows:List (List Int)):Mx:=fun r c=>co (Q0f (rows.getD r [])) c
theorem Q7t {rows:List (List Int)} {i:Nat} {r:List Int} (h:rows[i]? =some r) (c:Nat):mx rows i c=co (Q0f r) c:=by unfold mx;simp [List.getD,h]
theorem Y5c {rows:List (List Int)} {a k:Nat} {ra rk:List Int} (hra:rows[a]? =some ra) (hrk:rows[k]? =some rk):mx ((rows.set a rk).set k ra)=Z0V (mx rows) a k:=by
 funext r c
 have h:((rows.set a rk).set k ra).getD r []=rows.getD (sw a k r) []:=by
  simp only [List.getD,Q7b hra hrk]
 unfold mx Z0V
 rw [h]
 unfold sw
 by_cases h1:r=k
 ·subst h1
  rw [if_pos rfl]
  by_cases h2:r=a
  ·subst h2;rw [if_pos rfl]
  ·rw [if_neg h2,if_pos rfl]
 ·rw [if_neg h1]
  by_cases h2:r=a
  ·rw [if_pos h2,if_pos h2]
  ·rw [if_neg h2,if_neg h2,if_neg h1]
def Y3b (r:List Int) (s:F):List Int:=r.map fun u=>ofF (toF u * s)
theorem Z0X (r:List Int) (s:F):(Y3b r s).length=r.length:=by simp [Y3b]
theorem Z6C {r:List Int} {j:Nat} {u:Int} (s:F) (h:r[j]? =some u):(Y3b r s)[j]? =some (ofF (toF u * s)):=by simp [Y3b,h]
theorem Y5d (r:List Int) (s:F) (c:Nat):co (Q0f (Y3b r s)) c=co (Q0f r) c * s:=by
 rcases Nat.lt_or_ge c r.length with h|h
 ·have hu:r[c]? =some r[c]:=List.getElem?_eq_getElem h
  rw [Q1n (Z6C s hu),Q1n hu,Q0m]
 ·rw [Q0t (by rw [Q0l,Z0X];exact h),Q0t (by rw [Q0l];exact h),Q7y]
theorem Y4i {rows:List (List Int)} {a:Nat} {q:List Int} (ha:a<rows.length) (r c:Nat):mx (rows.set a q) r c=if r=a then co (Q0f q) c else mx rows r c:=by
 unfold mx
 by_cases h:r=a
 ·subst h
  rw [if_pos rfl]
  simp [List.getD,ha]
 ·rw [if_neg h]
  simp only [List.getD,List.getElem?_set_ne (Ne.symm h)]
theorem Y3c {rows:List (List Int)} {a:Nat} {ra:List Int} (h:rows[a]? =some ra) (s:F):mx (rows.set a (Y3b ra s))=Q6B (mx rows) a s:=by
 funext r c
 rw [Y4i (List.getElem?_eq_some_iff.1 h).1]
 unfold Q6B
 by_cases h1:r=a
 ·subst h1
  rw [if_pos rfl,if_pos rfl,Y5d,Q7t h]
 ·rw [if_neg h1,if_neg h1]
theorem Y5e {r b:List Int} (h:r.length=b.length) (t:Int) (c:Nat):co (Q0f (Z3v r b t)) c=co (Q0f r) c - toF t * co (Q0f b) c:=by
 rcases Nat.lt_or_ge c r.length with hc|hc
 ·have hu:r[c]? =some r[c]:=List.getElem?_eq_getElem hc
  have hv:b[c]? =some (b[c]'(by omega)):=List.getElem?_eq_getElem (by omega)
  rw [Q1n (Z6x t hu hv),Q1n hu,Q1n hv,Q0m]
 ·rw [Q0t (by rw [Q0l,Q7M t h];exact hc),Q0t (by rw [Q0l];exact hc),Q0t (by rw [Q0l];omega),Q4I,Z8y]
theorem Y3d {rows:List (List Int)} {S:Mx} {a col n:Nat} {r b:List Int} {t:Int} (hS:mx rows=Q3q S a col n) (hn:rows[n]? =some r) (ha:rows[a]? =some b) (hna:n≠a) (hl:r.length=b.length) (ht:r[col]? =some t):mx (rows.set n (Z3v r b t))=Q3q S a col (n+1):=by
 have hr: ∀c,co (Q0f r) c=S n c:=fun c=>by
  rw [<-Q7t hn,hS];unfold Q3q;rw [if_neg (by omega)]
 have hb: ∀c,co (Q0f b) c=S a c:=fun c=>by
  rw [<-Q7t ha,hS];unfold Q3q;rw [if_neg (by omega)]
 have htc:toF t=S n col:=by rw [<-hr,Q1n ht]
 funext i c
 rw [Y4i (List.getElem?_eq_some_iff.1 hn).1]
 by_cases h:i=n
 ·subst h
  rw [if_pos rfl,Y5e hl,hr,hb,htc]
  unfold Q3q
  rw [if_pos ⟨by omega,hna⟩]
 ·rw [if_neg h,hS]
  unfold Q3q
  by_cases h2:i<n/\i≠a
  ·rw [if_pos h2,if_pos ⟨by omega,h2.2⟩]
  ·rw [if_neg h2,if_neg (by omega)]
theorem Z5H (S:Mx) (a col:Nat):Q3q S a col (a+1)=Q3q S a col a:=by
 funext r c
 unfold Q3q
 by_cases h:r<a/\r≠a
 ·rw [if_pos h,if_pos (by omega)]
 ·rw [if_neg h,if_neg (by omega)]
theorem Z4s (S:Mx) (a col:Nat):Q3q S a col 0=S:=by
 funext r c
 unfold Q3q
 rw [if_neg (by omega)]
def Z5I (ls:List Nat):List Int:=ls.map fun (n:Nat)=>(n:Int)
theorem Q4x (ls:List Nat):(Z5I ls).length=ls.length:=by simp [Z5I]
def Q3r (rows:List (List Int)) (n:Nat):Prop:= ∀q,q<n-> ∃l,rows[q]? =some (Q0g l)
theorem Z9W (r b:List Int) (t:Int):Z3v r b t=Q0g (List.zipWith (fun u v=>toF u - toF t * toF v) r b):=by
 unfold Z3v Q0g
 rw [List.map_zipWith]
theorem Z9X (r:List Int) (x:F):Y3b r x=Q0g (r.map fun u=>toF u * x):=by simp [Y3b,Q0g]
theorem Q3r.set {rows:List (List Int)} {n i:Nat} {l:List F} (h:Q3r rows n):Q3r (rows.set i (Q0g l)) n:=fun q hq=>by
 obtain ⟨l2,h2⟩:=h q hq
 by_cases hqi:q=i
 ·subst hqi;exact ⟨l,List.getElem?_set_self (List.getElem?_eq_some_iff.1 h2).1⟩
 ·exact ⟨l2,by rw [List.getElem?_set_ne (Ne.symm hqi)];exact h2⟩
theorem Q3r.far {rows:List (List Int)} {n i:Nat} {r:List Int} (h:Q3r rows n) (hi:n<=i):Q3r (rows.set i r) n:=fun q hq=>by
 obtain ⟨l2,h2⟩:=h q hq
 exact ⟨l2,by rw [List.getElem?_set_ne (by omega)];exact h2⟩
def Y4j (w:World) (e:Ending) (w':World) (rows0:List (List Int)) (v m:Nat):Prop:=
 ∃vm vl vs rows ls,e= .returned (.tuple #[vm,vl])/\Q1W w' w.heap.size vm vs rows/\Q0j w' w.heap.size vl (Z5I ls)/\rows.length=m/\(∀r∈rows,r.length=v+1)/\Red (mx rows0) (mx rows) m (v+1) v ls/\Q3r rows ls.length/\Below w.heap.size w w'
theorem Z7K (va:Value) (rows0:List (List Int)) (v m:Nat) (w:World) (h1:Q3Z w va rows0) (hm:rows0.length=m) (hm20:m<=20) (hv1:1<=v) (hv20:v<=20) (hlen: ∀r∈rows0,r.length=v+1):
  Calls Tryz.prog 214 #[va,.int .i64 v] w fun e w'=>Y4j w e w' rows0 v m:=by
 have KA:=Qh h1
 have HM:=Qh hm
 have HLEN:=Qh hlen
 suffices hgoal: ∀Post:Ending->World->Prop,(∀e w',Y4j w e w' rows0 v m->Post e w')->Calls Tryz.prog 214 #[va,.int .i64 v] w Post from hgoal _ fun e w' h=>h
 intro Post hpo
 have HPO:=Qh hpo
 obtain ⟨A1,c1,vs0,rfl,hc1,hm1,hl1,hr1,ha1⟩:=h1
 rw [hm] at KA hc1 hl1⊢
 clear hr1 ha1 hm1 hpo hlen hm
 go_enter Tryz.func214,Tryz.ntmps214
 go_wp2_with fail
 go_loopw [6,19] (fun u i wr=> ∃(k:Nat) (vs:List Value),k<=m/\i= .int .i64 k/\Q1W wr w.heap.size u vs (rows0.take k)/\Below w.heap.size w wr) (fun _ i _=>m - (intOf i).toNat)
 case atStart=>exact ⟨0, [],Nat.zero_le _,rfl,Q1W.nil _ _,Below.refl _ _⟩
 case round=>
  obtain ⟨k,vs,hk,rfl,hgr,hbel⟩:=hrel
  have KG:=Qh hgr
  have BEL:=Qh hbel
  have hsz:=hbel.size
  clear hgr hbel
  by_cases hlt:k<m
  ·obtain ⟨A,c,vs1,hA,_,_,_,hr,ha⟩:=KA.out.below BEL.out
   rw [HM.out] at hA
   injection hA with hA1 hA2 hA3
   subst hA1 hA3
   clear hA2
   obtain ⟨b1,o1,x,r,rfl,hb1,hx,hgk,hn,hc⟩:=Z2H hr ha (k:=k) (by rw [HM.out];exact hlt)
   have HR:=Qh hn
   have HRL:=Qh (HLEN.out r (List.mem_of_getElem? hgk))
   have HT:=Qh (show rows0.take (k+1)=rows0.take k++ [r] by rw [List.take_add_one,hgk];rfl)
   have HTL:=Qh (show (rows0.take k).length<=20 by rw [List.length_take];omega)
   clear hr ha hb1 hx hgk hn
   go_wp2_with fail
   refine (Z7z _ r _ HR.out (by rw [HRL.out];omega)).mono ?_
   rintro e W5 ⟨y,rfl,ho,hb⟩
   obtain ⟨gy,cy,hvy,_,_⟩:=ho.1.form (by rw [HRL.out];omega)
   subst hvy
   have KY:=Qh (ho.less hsz)
   have HFAR:=Qh (show∀(q:Nat) (z:Value) (b:Nat),vs[q]? =some z->z.ownBlock=some b->(Value.slice (some ⟨gy,0,none⟩) r.length cy).ownBlock≠some b from fun q z b hz hzb hyb=>by
    have h1:=(ho.1.lt b hyb).1
    have hq:=(List.getElem?_eq_some_iff.1 hz).1
    rw [KG.out.vlen] at hq
    have h2:=((KG.out.row q z _ hz (List.getElem?_eq_getElem hq)).1.lt b hzb).2
    omega)
   have KG5:=Qh (KG.out.below hb)
   have B5:=Qh (Q0b BEL.out hb hsz)
   have hsz5:=B5.out.size
   clear ho hb hc
   try dsimp only
   go_wp2_with (at_builtin;go_loud (refine Z0x rfl _ _ rfl w.heap.size _ vs (rows0.take k) (.slice (some ⟨gy,0,none⟩) r.length cy) r W5.heap.size 1 rfl (KG5.out.alloc _) rfl (Q0o _ _ _) (KY.out.alloc _) HFAR.out (by have:=HTL.out;omega) (by rw [size_alloc];omega) ?_))
   intro v' w6 hown' hbel'
   rw [<-HT.out] at hown'
   have K6:=Qh hown'
   have B6:=Qh ((B5.out.alloc hsz5 (.cells #[.slice (some ⟨gy,0,none⟩) r.length cy] 64)).trans hbel')
   clear hown' hbel'
   go_wp2_with fail
   exact ⟨⟨k+1,_,by omega,by go_num,K6.out,B6.out⟩,by simp [intOf]<;>omega⟩
  ·obtain rfl:m=k:=by omega
   have HTE:=Qh (show rows0.take m=rows0 from List.take_of_length_le (by rw [HM.out];exact Nat.le_refl _))
   rw [HTE.out] at KG
   obtain ⟨Am,cm,hvm,hcm,_⟩:=Q0k KG.out.outer
   rw [HM.out] at hvm hcm
   subst hvm
   go_wp2_with fail
   go_loopw [9,10] (fun u i wq=> ∃(col:Nat) (vs:List Value) (rows:List (List Int)) (ls:List Nat),col<=v/\i= .int .i64 col/\Q1W wq w.heap.size (.slice Am m cm) vs rows/\rows.length=m/\(∀r∈rows,r.length=v+1)/\Q0j wq w.heap.size u (Z5I ls)/\Red (mx rows0) (mx rows) m (v+1) col ls/\Q3r rows ls.length/\Below w.heap.size w wq) (fun _ i _=>v - (intOf i).toNat)
   case atStart=>exact ⟨0,vs,rows0, [],Nat.zero_le _,rfl,KG.out,HM.out,HLEN.out,Q0j.nil _ _,Red.start _ _ _,(fun q hq=>by simp at hq),BEL.out⟩
   case round=>
    obtain ⟨col,vs,rows,ls,hcol,rfl,hgr,hrm,hrl,hls,hred,hnr,hbel⟩:=hrel
    have HNR:=Qh hnr
    clear hnr
    clear KG BEL hsz
    have KG:=Qh hgr
    have HRM:=Qh hrm
    have HRL:=Qh hrl
    have KL:=Qh hls
    have RED:=Qh hred
    have BEL:=Qh hbel
    have hsz:=hbel.size
    obtain ⟨Al,cl,hvl,_,_⟩:=Q0k hls.1
    rw [Q4x] at hvl
    subst hvl
    have hlm:=hred.len
    clear hgr hrm hrl hls hred hbel
    by_cases hlt:col<v
    ·have hdc:decide ((col:Int)<(v:Int))=true:=by simp;omega
     have hdc2:decide (col<v)=true:=by simp;omega
     by_cases hfull:ls.length=m
     ·have hdf:decide ((ls.length:Int)<(m:Int))=false:=by simp;omega
      have hdf2:decide (ls.length<m)=false:=by simp;omega
      have HF:=Qh hfull
      clear hfull
      go_wp2_with fail
      exact HPO.out _ _ ⟨_,_,vs,rows,ls,rfl,KG.out,KL.out,HRM.out,HRL.out,RED.out.full HF.out v hcol,HNR.out,BEL.out⟩
     ·have hdf:decide ((ls.length:Int)<(m:Int))=true:=by simp;omega
      have hdf2:decide (ls.length<m)=true:=by simp;omega
      obtain ⟨g,cg,hvg,hg1,hg2⟩:=KG.out.outer.form (by rw [HRM.out];omega)
      injection hvg with hvg1 hvg2 hvg3
      subst hvg1
      clear hvg2 hvg3
      clear hfull
      go_wp2_with fail
      obtain ⟨wo,hwo⟩: ∃wo,wo=wr:=⟨_,rfl⟩
      subst hwo
      go_loop [12] (fun x=> ∃k:Nat,ls.length<=k/\k<=m/\x= .int .i64 k/\(∀r,ls.length<=r->r<k->mx rows r col=0)) (fun x=>m - (intOf x).toNat)
      case atStart=>exact ⟨ls.length,Nat.le_refl _,hlm,rfl,fun r h1 h2=>by omega⟩
      case round=>
       obtain ⟨k,hk1,hk2,rfl,hz⟩:=hrel
       have HZ:=Qh hz
       clear hz hdf hdf2
       by_cases hkm:k<m
       ·have hdk:decide ((k:Int)<(m:Int))=true:=by simp;omega
        have hdk2:decide (k<m)=true:=by simp;omega
        obtain ⟨rk,hrk⟩: ∃rk,rows[k]? =some rk:=⟨_,List.getElem?_eq_getElem (by rw [HRM.out];exact hkm)⟩
        have hrkl:=HRL.out rk (List.mem_of_getElem? hrk)
        obtain ⟨bk,ck,hvk,hok,_,_,hbk1,hbk2⟩:=KG.out.at_ hrk (by omega)
        rw [hrkl] at hvk hok
        have hcg:=KG.out.cell hvk
        obtain ⟨z,hzz⟩: ∃z,rk[col]? =some z:=⟨_,List.getElem?_eq_getElem (by omega)⟩
        have hcz:=hok.cell hzz
        have hz0:=(hok.2.2 z (List.mem_of_getElem? hzz)).1
        have HMX:=Qh (show mx rows k col=toF z by rw [Q7t hrk,Q1n hzz])
        have HRK:=Qh hrk
        have HVK:=Qh hvk
        have HZZ:=Qh hzz
        have HRKL:=Qh hrkl
        have hne:((k:Int)==(m:Int))=false:=by rw [beq_eq_false_iff_ne];omega
        clear hrk hvk hok hzz hrkl
        by_cases hzero:toF z=0
        ·have HZR:=Qh hzero
         go_wp2_with fail
         refine (Q1f _ _ hz0).mono ?_
         rintro e w' ⟨rfl,rfl⟩
         have hbz:(ofF (toF z)==0)=true:=by rw [HZR.out];rfl
         clear hzero
         try dsimp only
         go_wp2_with fail
         refine ⟨⟨k+1,by omega,by omega,by go_num,fun r h1 h2=> ?_⟩,by simp [intOf]<;>omega⟩
         rcases Nat.lt_or_ge r k with h|h
         ·exact HZ.out r h1 h
         ·obtain rfl:r=k:=by omega
          rw [HMX.out,HZR.out]
        ·have HNZ:=Qh (show mx rows k col≠0 by rw [HMX.out];exact hzero)
         go_wp2_with fail
         refine (Q1f _ _ hz0).mono ?_
         rintro e w' ⟨rfl,rfl⟩
         have hbz:(ofF (toF z)==0)=false:=by rw [beq_eq_false_iff_ne];intro e;exact hzero (Q5y.1 e)
         clear hzero
         try dsimp only
         go_wp2_with fail
         have ham:ls.length<m:=by omega
         obtain ⟨ra,hra⟩: ∃ra,rows[ls.length]? =some ra:=⟨_,List.getElem?_eq_getElem (by rw [HRM.out];exact ham)⟩
         obtain ⟨xa,hxa⟩: ∃xa,vs[ls.length]? =some xa:=⟨_,List.getElem?_eq_getElem (by rw [KG.out.vlen,HRM.out];exact ham)⟩
         have hca:=KG.out.cell hxa
         have hfa:=KG.out.frozen ls.length
         have hoa:=(KG.out.row _ _ _ hxa hra).1
         obtain ⟨Aa,ca_,hxf,_,_⟩:=Q0k hoa
         rw [HRL.out ra (List.mem_of_getElem? hra)] at hxf
         subst hxf
         have HXA:=Qh hxa
         have HRA:=Qh hra
         have hal1:ls.length<9223372036854775807:=by omega
         clear hxa hra hoa hcz hbz hdk hdk2 hne
         refine Q1X [true,true,true,true,false,false,false,false,false,false,false,false] (by kernel_rfl) (by kernel_rfl) (fun _ _ _ _ _ h=>h) ?_
         simp only [List.length_cons,List.length_nil,Nat.zero_add,Nat.reduceAdd,List.take_succ_cons,List.take_zero,List.drop_succ_cons,List.drop_zero,Z2Q,Z2R,Q4s,moved]
         simp [Act.put,Act.eval]
         repeat (go_big_quiet_step ((fail)))
         refine wpQuiet_nil ?_
         intro nq
         have G1:=KG.out.drewN nq
         have hmk:m=rows.length:=HRM.out.symm
         have hout2:=(show (wo.drewN nq).ownsRow w.heap.size 64 1 (.slice (some ⟨g,0,none⟩) rows.length cm) rows.length vs from hmk▸G1.outer).stored ls.length (.slice (some ⟨bk,0,none⟩) (v+1) ck)
         have hc2:((wo.drewN nq).setCell ⟨g,ls.length,none⟩ (.slice (some ⟨bk,0,none⟩) (v+1) ck)).cell? ⟨g,k,none⟩=some (.slice (some ⟨bk,0,none⟩) (v+1) ck):=by
          rw [hout2.1.cellAt k (by rw [<-hmk];omega)]
          by_cases hka:k=ls.length
          ·subst hka
           exact List.getElem?_set_self (List.getElem?_eq_some_iff.1 HVK.out).1
          ·rw [List.getElem?_set_ne (Ne.symm hka)];exact HVK.out
         have hf2:((wo.drewN nq).setCell ⟨g,ls.length,none⟩ (.slice (some ⟨bk,0,none⟩) (v+1) ck)).frozen? ⟨g,k,none⟩=false:=hout2.1.frozenAt k
         have G2:=Qh (G1.swap HXA.out HVK.out HRA.out HRK.out)
         have B2:=Qh (((below_drewN BEL.out nq).setCell (p:=⟨g,ls.length,none⟩) hg1 (.slice (some ⟨bk,0,none⟩) (v+1) ck)).setCell (p:=⟨g,k,none⟩) hg1 (.slice Aa (v+1) ca_))
         have hL1:=Q2l (KL.out.drewN nq).1 G1.outer (by decide) (Q0F (wo.drewN nq) g ls.length (.slice (some ⟨bk,0,none⟩) (v+1) ck))
         have KL2:=Qh (show Q0j (((wo.drewN nq).setCell ⟨g,ls.length,none⟩ (.slice (some ⟨bk,0,none⟩) (v+1) ck)).setCell ⟨g,k,none⟩ (.slice Aa (v+1) ca_)) w.heap.size (.slice Al ls.length cl) (Z5I ls) from ⟨Q2l hL1 hout2.1 (by decide) (Q0F _ g k (.slice Aa (v+1) ca_)),KL.out.2⟩)
         have hv2:((vs.set ls.length (.slice (some ⟨bk,0,none⟩) (v+1) ck)).set k (.slice Aa (v+1) ca_))[ls.length]? =some (.slice (some ⟨bk,0,none⟩) (v+1) ck):=by
          rw [Q7b HXA.out HVK.out,show sw ls.length k ls.length=k by unfold sw;split<;>simp_all];exact HVK.out
         have hr2:((rows.set ls.length rk).set k ra)[ls.length]? =some rk:=by
          rw [Q7b HRA.out HRK.out,show sw ls.length k ls.length=k by unfold sw;split<;>simp_all];exact HRK.out
         have hc3:=G2.out.cell hv2
         have hc4:=(G2.out.row _ _ _ hv2 hr2).cell HZZ.out
         have HV2:=Qh hv2
         have HR2:=Qh hr2
         have MX2:=Qh (Y5c HRA.out HRK.out)
         have HRM2:=Qh (show ((rows.set ls.length rk).set k ra).length=m by rw [List.length_set,List.length_set];exact HRM.out)
         have HRL2:=Qh (show∀r∈(rows.set ls.length rk).set k ra,r.length=v+1 from fun r hr=>by
          rcases List.mem_or_eq_of_mem_set hr with h|h
          ·rcases List.mem_or_eq_of_mem_set h with h|h
           ·exact HRL.out r h
           ·rw [h];exact HRKL.out
          ·rw [h];exact HRL.out ra (List.mem_of_getElem? HRA.out))
         have HNR2:=Qh (show Q3r ((rows.set ls.length rk).set k ra) ls.length from (HNR.out.far (Nat.le_refl _)).far hk1)
         clear G1 hout2 hL1 hmk hv2 hr2
         go_wp2_with fail
         obtain ⟨W2,hW2⟩: ∃W2,W2=((wo.drewN nq).setCell ⟨g,ls.length,none⟩ (.slice (some ⟨bk,0,none⟩) (v+1) ck)).setCell ⟨g,k,none⟩ (.slice Aa (v+1) ca_):=⟨_,rfl⟩
         obtain ⟨vs2,hvs2⟩: ∃vs2,vs2=(vs.set ls.length (.slice (some ⟨bk,0,none⟩) (v+1) ck)).set k (.slice Aa (v+1) ca_):=⟨_,rfl⟩
         obtain ⟨rows2,hrows2⟩: ∃rows2,rows2=(rows.set ls.length rk).set k ra:=⟨_,rfl⟩
         rw [<-hW2,<-hvs2,<-hrows2] at G2
         rw [<-hW2] at B2 KL2⊢
         rw [<-hvs2] at HV2
         rw [<-hrows2] at HR2 MX2 HRM2 HRL2 HNR2
         clear hW2 hvs2 hrows2 hc2 hf2 hc3 hc4 hca hfa hcg
         refine (Q9M _ _ hz0).mono ?_
         rintro e w' ⟨rfl,rfl⟩
         try dsimp only
         obtain ⟨T,hT⟩: ∃T,T=Y3b rk (inv (toF z)):=⟨_,rfl⟩
         have HT:=Qh hT
         have HTL:=Qh (show T.length=rk.length by rw [hT,Z0X])
         clear hT
         have hc3:=G2.out.cell HV2.out
         go_wp2_with fail
         clear hc3
         go_loopw [95] (fun x wr=> ∃j:Nat,j<=v+1/\x= .int .i64 j/\Q1W wr w.heap.size (.slice (some ⟨g,0,none⟩) m cm) vs2 (rows2.set ls.length (Q6f T rk j))/\Q0j wr w.heap.size (.slice Al ls.length cl) (Z5I ls)/\Below w.heap.size w wr) (fun x _=>v+1 - (intOf x).toNat)
         case atStart=>exact ⟨0,Nat.zero_le _,rfl,by rw [Z0N,set_self HR2.out];exact G2.out,KL2.out,B2.out⟩
         case round=>
          obtain ⟨j,hj,rfl,hgr,hls,hbel⟩:=hrel
          have G3:=Qh hgr
          have KL3:=Qh hls
          have B3:=Qh hbel
          clear hgr hls hbel
          by_cases hlt4:j<v+1
          ·have hdj:decide ((j:Int)<(v:Int)+1)=true:=by simp;omega
           obtain ⟨u,hu⟩: ∃u,rk[j]? =some u:=⟨_,List.getElem?_eq_getElem (by rw [HRKL.out];exact hlt4)⟩
           have hri:=Q6y (b:=Q6f T rk j) HR2.out
           have hrow:=G3.out.row _ _ _ HV2.out hri
           have hpu:(Q6f T rk j)[j]? =some u:=by rw [Z0M HTL.out (by rw [HRKL.out];exact hlt4)];exact hu
           have hcu:=hrow.cell hpu
           have hfu:=hrow.frozen j
           have hcg3:=G3.out.cell HV2.out
           have hu0:=(hrow.2.2 u (List.mem_of_getElem? hpu)).1
           have HSET:=Qh (Z4g HTL.out (show T[j]? =some (ofF (toF u * inv (toF z))) by rw [HT.out];exact Z6C _ hu))
           have HRI:=Qh hri
           have HROW:=Qh hrow
           clear hu hri hrow hpu
           go_wp2_with fail
           refine Q1X [false,false,false,false,true,false,false,false,false,false,false,false,false,false] (by kernel_rfl) (by kernel_rfl) (fun _ _ _ _ _ h=>h) ?_
           simp only [List.length_cons,List.length_nil,Nat.zero_add,Nat.reduceAdd,List.take_succ_cons,List.take_zero,List.drop_succ_cons,List.drop_zero,Z2Q,Z2R,Q4s,moved]
           simp [Act.put,Act.eval]
           repeat (go_big_quiet_step ((exact Q1b (Q1t _ _ _ hu0 (Q0i _)))))
           refine wpQuiet_nil ?_
           intro nq
           have G4:=Qh ((G3.out.drewN nq).setNum HV2.out HRI.out j (U64.of_ofF (toF u * inv (toF z))))
           have B4:=Qh ((below_drewN B3.out nq).setCell (p:=⟨bk,j,none⟩) hbk1 (.int .u64 (ofF (toF u * inv (toF z)))))
           have KL4:=Qh (show Q0j ((wr.drewN nq).setCell ⟨bk,j,none⟩ (.int .u64 (ofF (toF u * inv (toF z))))) w.heap.size (.slice Al ls.length cl) (Z5I ls) from ⟨Q2l (KL3.out.drewN nq).1 (HROW.out.drewN nq).1 (by decide) (Q0F (wr.drewN nq) bk j _),KL3.out.2⟩)
           go_wp2_with fail
           simp only [Q0m]
           refine ⟨⟨j+1,by omega,by go_num, ?_,KL4.out,B4.out⟩,by simp [intOf]<;>omega⟩
           have h:=G4.out
           rw [List.set_set,HSET.out] at h
           exact h
          ·obtain rfl:j=v+1:=by omega
           have HPE:=Qh (show Q6f T rk (v+1)=T by rw [<-HRKL.out];exact Z4h HTL.out)
           rw [HPE.out] at G3
           have hdj:decide (((v+1:Nat):Int)<(v:Int)+1)=false:=by simp
           go_wp2_with fail
           obtain ⟨S,hS⟩: ∃S,S=mx (rows2.set ls.length T):=⟨_,rfl⟩
           have HSE:=Qh (show S=Q6B (Z0V (mx rows) ls.length k) ls.length (inv (mx rows k col)) by
            rw [hS,HT.out,Y3c HR2.out,MX2.out,HMX.out])
           have HRMS:=Qh (show (rows2.set ls.length T).length=m by rw [List.length_set];exact HRM2.out)
           have HRLS:=Qh (show∀r∈rows2.set ls.length T,r.length=v+1 from fun r hr=>by
            rcases List.mem_or_eq_of_mem_set hr with h|h
            ·exact HRL2.out r h
            ·rw [h,HTL.out];exact HRKL.out)
           have HRAS:=Qh (Q6y (b:=T) HR2.out)
           have HTV:=Qh (show T.length=v+1 by rw [HTL.out];exact HRKL.out)
           have HS:=Qh hS
           clear hS
           go_loopw [116] (fun x wq=> ∃(i:Nat) (rows3:List (List Int)),i<=m/\x= .int .i64 i/\Q1W wq w.heap.size (.slice (some ⟨g,0,none⟩) m cm) vs2 rows3/\rows3.length=m/\(∀r∈rows3,r.length=v+1)/\rows3[ls.length]? =some T/\mx rows3=Q3q S ls.length col i/\Q3r rows3 ls.length/\Q0j wq w.heap.size (.slice Al ls.length cl) (Z5I ls)/\Below w.heap.size w wq) (fun x _=>m - (intOf x).toNat)
           case atStart=>exact ⟨0,_,Nat.zero_le _,rfl,G3.out,HRMS.out,HRLS.out,HRAS.out,by rw [Z4s];exact HS.out.symm,HNR2.out.far (Nat.le_refl _),KL3.out,B3.out⟩
           case round=>
            obtain ⟨i,rows3,hi,rfl,hgr,hrm3,hrl3,hra3,hmx3,hnr3,hls,hbel⟩:=hrel
            have HNR3:=Qh hnr3
            clear hnr3
            clear G3 KL3 B3
            have G3:=Qh hgr
            have KL3:=Qh hls
            have B3:=Qh hbel
            have HRM3:=Qh hrm3
            have HRL3:=Qh hrl3
            have HRA3:=Qh hra3
            have HMX3:=Qh hmx3
            have hsz3:=hbel.size
            clear hgr hls hbel hrm3 hrl3 hra3 hmx3
            by_cases hlt5:i<m
            ·have hdi:decide ((i:Int)<(m:Int))=true:=by simp;omega
             by_cases hia:i=ls.length
             ·have hne5:((i:Int) !=(ls.length:Int))=false:=by rw [bne_eq_false_iff_eq];omega
              have HIA:=Qh hia
              clear hia
              go_wp2_with fail
              exact ⟨⟨i+1,rows3,by omega,by go_num,G3.out,HRM3.out,HRL3.out,HRA3.out,by have h:=HMX3.out;rw [HIA.out] at h⊢;rw [Z5H];exact h,HNR3.out,KL3.out,B3.out⟩,by simp [intOf]<;>omega⟩
             ·have hne5:((i:Int) !=(ls.length:Int))=true:=by rw [bne_iff_ne];omega
              have HIA:=Qh hia
              obtain ⟨ri,hri⟩: ∃ri,rows3[i]? =some ri:=⟨_,List.getElem?_eq_getElem (by rw [HRM3.out];exact hlt5)⟩
              have hril:=HRL3.out ri (List.mem_of_getElem? hri)
              obtain ⟨bi,ci,hvi,hoi,_,_,hbi1,hbi2⟩:=G3.out.at_ hri (by omega)
              rw [hril] at hvi hoi
              obtain ⟨y,hyy⟩: ∃y,ri[col]? =some y:=⟨_,List.getElem?_eq_getElem (by omega)⟩
              have hci:=G3.out.cell hvi
              have hca3:=G3.out.cell HV2.out
              have hcy:=hoi.cell hyy
              have hy0:=(hoi.2.2 y (List.mem_of_getElem? hyy)).1
              have HRI:=Qh hri
              have HVI:=Qh hvi
              have HOI:=Qh hoi
              have HRIL:=Qh hril
              have HYY:=Qh hyy
              clear hia hri hvi hoi hril hyy
              go_wp2_with fail
              refine Q0D 15 (by kernel_rfl) (by kernel_rfl) ?_
              simp only [List.take_succ_cons,List.take_zero,List.drop_succ_cons,List.drop_zero]
              repeat (go_big_quiet_step ((fail)))
              refine wpQuiet_nil ?_
              intro nq
              go_wp2_with fail
              refine (Z7A _ w.heap.size _ _ _ vs2 rows3 i ls.length ri T y (G3.out.drewN nq) HVI.out HV2.out HRI.out HRA3.out HIA.out (by rw [HRIL.out,HTV.out]) (by rw [HRIL.out];omega) (by rw [HRIL.out];omega) hy0).mono ?_
              rintro e w7 ⟨rfl,hg7,hb7,hgw7⟩
              have G7:=Qh hg7
              have B7:=Qh ((below_drewN B3.out nq).trans hb7)
              have KL7:=Qh (show Q0j w7 w.heap.size (.slice Al ls.length cl) (Z5I ls) from ⟨Q2l (KL3.out.drewN nq).1 (HOI.out.drewN nq).1 (by decide) hgw7,KL3.out.2⟩)
              have HMX7:=Qh (Y3d HMX3.out HRI.out HRA3.out HIA.out (by rw [HRIL.out,HTV.out]) HYY.out)
              have HRM7:=Qh (show (rows3.set i (Z3v ri T y)).length=m by rw [List.length_set];exact HRM3.out)
              have HRL7:=Qh (show∀r∈rows3.set i (Z3v ri T y),r.length=v+1 from fun r hr=>by
               rcases List.mem_or_eq_of_mem_set hr with h|h
               ·exact HRL3.out r h
               ·rw [h,Q7M y (by rw [HRIL.out,HTV.out])];exact HRIL.out)
              have HRA7:=Qh (show (rows3.set i (Z3v ri T y))[ls.length]? =some T by rw [List.getElem?_set_ne HIA.out];exact HRA3.out)
              clear hg7 hb7 hgw7 hci hca3 hcy
              try dsimp only
              go_wp2_with fail
              exact ⟨⟨i+1,_,by omega,by go_num,G7.out,HRM7.out,HRL7.out,HRA7.out,HMX7.out,(by rw [Z9W];exact HNR3.out.set),KL7.out,B7.out⟩,by simp [intOf]<;>omega⟩
            ·obtain rfl:m=i:=by omega
             have hdi:decide ((m:Int)<(m:Int))=false:=by simp
             have HRED:=Qh (show Red (mx rows0) (mx rows3) m (v+1) (col+1) (ls++ [col]) by
              have h:=RED.out.pivot hk1 hkm HNZ.out
              rw [HMX3.out,HSE.out]
              exact h)
             go_wp2_with (at_builtin;go_loud (refine Q3p rfl _ _ rfl w.heap.size _ (Z5I ls) (col:Int) wr.heap.size 1 rfl (KL3.out.alloc _) rfl (Q0o _ _ _) (by unfold I64;omega) (by rw [Q4x];omega) (by rw [size_alloc];omega) ?_))
             intro v9 w9 ho9 hb9 hgw9
             have KL9:=Qh (show Q0j w9 w.heap.size v9 (Z5I (ls++ [col])) by
              rw [show Z5I (ls++ [col])=Z5I ls++ [(col:Int)] by simp [Z5I]];exact ho9)
             have G9:=Qh ((G3.out.alloc (.cells #[.int .i64 (col:Int)] 3)).apart_kept (KL3.out.alloc (.cells #[.int .i64 (col:Int)] 3)).1 (by decide) (by decide) hgw9)
             have B9:=Qh ((B3.out.alloc hsz3 (.cells #[.int .i64 (col:Int)] 3)).trans hb9)
             have HNR9:=Qh (show Q3r rows3 (ls++ [col]).length from fun q hq=>by
              rw [List.length_append,List.length_singleton] at hq
              rcases Nat.lt_or_ge q ls.length with h|h
              ·exact HNR3.out q h
              ·obtain rfl:q=ls.length:=by omega
               exact ⟨_,by rw [HRA3.out,HT.out,Z9X]⟩)
             clear ho9 hb9 hgw9
             go_wp2_with fail
             exact ⟨⟨col+1,vs2,rows3,ls++ [col],by omega,by go_num,G9.out,HRM3.out,HRL3.out,KL9.out,HRED.out,HNR9.out,B9.out⟩,by simp [intOf]<;>omega⟩
       ·obtain rfl:k=m:=by omega
        have hdk:decide ((k:Int)<(k:Int))=false:=by simp
        have hne:((k:Int)==(k:Int))=true:=by simp
        go_wp2_with fail
        exact ⟨⟨col+1,vs,rows,ls,by omega,by go_num,KG.out,HRM.out,HRL.out,KL.out,RED.out.skip HZ.out,HNR.out,BEL.out⟩,by simp [intOf]<;>omega⟩
    ·obtain rfl:v=col:=by omega
     have hdc:decide ((v:Int)<(v:Int))=false:=by simp
     go_wp2_with fail
     exact HPO.out _ _ ⟨_,_,vs,rows,ls,rfl,KG.out,KL.out,HRM.out,HRL.out,RED.out,HNR.out,BEL.out⟩
theorem Z1L (A:Option Addr) (m c lo:Nat) (h1:lo<=m) (W:World):
  (Instr.sliceAt 86 (.slice A m c) (some (.int .i64 (lo:Int))) none none).run Tryz.prog W= .ok (.slice (if c=lo then A else A.map (·.add (lo * 1))) (m - lo) (c - lo)) W:=by
 have hU:Program.underlying Tryz.prog 86=some (.slice (Program.elem Tryz.prog 86)):=by kernel_rfl
 have hs: ∀W,(sizeOf (Program.elem Tryz.prog 86)).run Tryz.prog W= .ok 1 W:=fun W=>by kernel_rfl
 rw [run_sliceAt_slice _ _ _ _ _ _ hU,run_slice_l W _ A m c hU .i64 _ (by omega) (by omega),hs]
 simp [Result.andThen,sliced]
theorem Q3Z.rest {w:World} {A:Option Addr} {n c:Nat} {rows:List (List Int)} (h:Q3Z w (.slice A n c) rows) (lo:Nat) (h1:lo<=rows.length):Q3Z w (.slice (if c=lo then A else A.map (·.add (lo * 1))) (n - lo) (c - lo)) (rows.drop lo):=by
 obtain ⟨A1,c1,vs,e1,e2,e3,e4,e5,e6⟩:=h
 injection e1 with e1a e1b e1c
 subst e1a e1b e1c
 have hl:(rows.drop lo).length=rows.length - lo:=by simp
 refine ⟨_,_,vs.drop lo,by rw [hl],by rw [hl];omega,by omega,by rw [hl];omega, ?_, ?_⟩
 ·rcases Nat.lt_or_ge lo rows.length with hlt|hge
  ·obtain ⟨b,o,rfl,hb,hc⟩:=e5.at_ (j:=lo) (by rw [e6.1];exact hlt)
   rw [if_neg (by omega)]
   refine .inr ⟨b,o+lo,by simp [Q0N],hb,fun j hj=> ?_⟩
   rw [List.length_drop] at hj
   rw [Nat.add_assoc,hc _ (by omega),List.getElem?_drop]
  ·exact .inl (List.drop_eq_nil_of_le (by rw [e6.1];exact hge))
 ·refine ⟨by rw [List.length_drop,List.length_drop,e6.1],fun i x r hx hr=> ?_⟩
  rw [List.getElem?_drop] at hx hr
  exact e6.2 _ x r hx hr
def Z3a (M:Mx) (ls:List Nat) (c n j:Nat):F:=Q1r n fun i=>if ld ls i=j then M i c else 0
def Z4N (M:Mx) (ls:List Nat) (v n:Nat):List F:=(List.range v).map fun j=>Z3a M ls v n j
def Y6j (M:Mx) (ls:List Nat) (v:Nat):List F:=(List.range v).map fun j=>Z5F M ls v j
theorem Q5R (M:Mx) (ls:List Nat) (v n:Nat):(Z4N M ls v n).length=v:=by simp [Z4N]
theorem Y3e (M:Mx) (ls:List Nat) (v:Nat):Z4N M ls v ls.length=Y6j M ls v:=rfl
theorem Z7L (M:Mx) (ls:List Nat) (v:Nat):Q0g (Z4N M ls v 0)=List.replicate v 0:=by
 unfold Z4N Q0g
 rw [List.map_map]
 apply List.ext_getElem
 ·simp
 ·intro j h1 h2
  simp [Z3a,Q1r,Q9J]
theorem Z9Y {M0 M:Mx} {m v:Nat} {ls:List Nat} (h:Red M0 M m (v+1) v ls) {i:Nat} (hi:i<ls.length):(Q0g (Z4N M ls v i)).set (ld ls i) (ofF (M i v))=Q0g (Z4N M ls v (i+1)):=by
 have hlt:=h.lt i hi
 apply List.ext_getElem?
 intro j
 rcases Nat.lt_or_ge j v with hj|hj
 ·have hr:(Q0g (Z4N M ls v (i+1)))[j]? =some (ofF (Z3a M ls v (i+1) j)):=Q1H (by simp [Z4N,hj])
  have hl:(Q0g (Z4N M ls v i))[j]? =some (ofF (Z3a M ls v i j)):=Q1H (by simp [Z4N,hj])
  rw [hr]
  by_cases hc:j=ld ls i
  ·subst hc
   rw [List.getElem?_set_self (by rw [Q0d,Q5R];exact hj)]
   have hz:Z3a M ls v i (ld ls i)=0:=by
    unfold Z3a
    apply Q2i
    intro q hq
    rw [if_neg]
    intro he
    have:=h.inj (show q<ls.length by omega) hi he
    omega
   have:Z3a M ls v (i+1) (ld ls i)=M i v:=by
    show Q1r (i+1) _=_
    rw [Q1r,if_pos rfl]
    have h0:(Q1r i fun q=>if ld ls q=ld ls i then M q v else 0)=0:=hz
    rw [h0,Y1r]
   rw [this]
  ·rw [List.getElem?_set_ne (Ne.symm hc),hl]
   have:Z3a M ls v (i+1) j=Z3a M ls v i j:=by
    show Q1r (i+1) _=Q1r i _
    rw [Q1r,if_neg (fun e=>hc e.symm),Q6b]
   rw [this]
 ·rw [List.getElem?_eq_none (by rw [List.length_set,Q0d,Q5R];exact hj),List.getElem?_eq_none (by rw [Q0d,Q5R];exact hj)]
def Y4k (w:World) (e:Ending) (w':World) (rows0:List (List Int)) (v:Nat):Prop:=
 ∃rows ls,Red (mx rows0) (mx rows) rows0.length (v+1) v ls/\(((∃r,ls.length<=r/\r<rows0.length/\mx rows r v≠0)/\Q1o w e w' [] 4)∨((∀r,ls.length<=r->r<rows0.length->mx rows r v=0)/\Q1o w e w' (Q0g (Y6j (mx rows) ls v)) 0))
theorem Z9Z (va:Value) (rows0:List (List Int)) (v:Nat) (w:World) (h1:Q3Z w va rows0) (h0:Z8B rows0 v=0) (hv1:1<=v) (hv20:v<=20) (hm20:rows0.length<=20) (hlen: ∀r∈rows0,r.length=v+1):
  Calls Tryz.prog 195 #[va,.int .i64 v] w fun e w'=>Y4k w e w' rows0 v:=by
 have KA:=Qh h1
 have H0:=Qh h0
 have HLEN:=Qh hlen
 suffices hgoal: ∀Post:Ending->World->Prop,(∀e w',Y4k w e w' rows0 v->Post e w')->Calls Tryz.prog 195 #[va,.int .i64 v] w Post from hgoal _ fun e w' h=>h
 intro Post hpo
 have HPO:=Qh hpo
 clear h1 h0 hlen hpo
 go_enter Tryz.func195,Tryz.ntmps195
 go_wp2_with fail
 refine (Z2Z _ _ _ _ KA.out).mono ?_
 rintro e W1 ⟨rfl,hb⟩
 rw [H0.out]
 have BEL:=Qh hb
 have KA1:=Qh (KA.out.below hb)
 clear hb
 try dsimp only
 go_wp2_with fail
 refine (Z7K _ rows0 v rows0.length _ KA1.out rfl hm20 hv1 hv20 HLEN.out).mono ?_
 rintro e W2 ⟨vm,vl,vs,rows,ls,rfl,hg,hl,hrm,hrl,hred,hnr,hb⟩
 have RED:=Qh hred
 have B2:=Qh (Q0b BEL.out hb BEL.out.size)
 have hlm:=hred.len
 obtain ⟨m,hm⟩: ∃m,m=rows0.length:=⟨_,rfl⟩
 rw [<-hm] at hrm hlm hm20 RED
 have HM:=Qh hm
 obtain ⟨Al,cl,hvl,_,_⟩:=Q0k hl.1
 rw [Q4x] at hvl
 subst hvl
 obtain ⟨Am,cm,hvm,hcm,_⟩:=Q0k hg.outer
 rw [hrm] at hvm hcm
 subst hvm
 have KG:=Qh hg
 have KL:=Qh hl
 have HRM:=Qh hrm
 have HRL:=Qh hrl
 have HNR:=Qh hnr
 have hsl:=Z1L Am m cm ls.length hlm
 have hrest:=hg.is.rest ls.length (by rw [hrm];exact hlm)
 obtain ⟨vr,hvr⟩: ∃vr,vr=(if cm=ls.length then Am else Am.map (·.add (ls.length * 1))):=⟨_,rfl⟩
 rw [<-hvr] at hsl hrest
 have KR:=Qh hrest
 have hrdl:(rows.drop ls.length).length=m - ls.length:=by rw [List.length_drop,hrm]
 have HRDL:=Qh hrdl
 clear hg hl hrm hrl hred hnr hb hrest hvr hm hrdl KA KA1 BEL
 try dsimp only
 go_wp2_with fail
 clear hsl
 obtain ⟨wo,hwo⟩: ∃wo,wo=W2:=⟨_,rfl⟩
 subst hwo
 obtain ⟨d,hd⟩: ∃d,d=m - ls.length:=⟨_,rfl⟩
 rw [<-hd] at HRDL KR⊢
 have HDD:=Qh hd
 have hd20:d<=20:=by omega
 clear hd
 go_loop [31] (fun x=> ∃q:Nat,q<=d/\x= .int .i64 q/\(∀r,ls.length<=r->r<ls.length+q->mx rows r v=0)) (fun x=>d - (intOf x).toNat)
 case atStart=>exact ⟨0,Nat.zero_le _,rfl,fun r h1 h2=>by omega⟩
 case round=>
  obtain ⟨q,hq,rfl,hz⟩:=hrel
  have HZ:=Qh hz
  clear hz
  by_cases hlt:q<d
  ·obtain ⟨A,c,vs1,hA,_,_,_,hr,ha⟩:=KR.out
   rw [HRDL.out] at hA
   injection hA with hA1 hA2 hA3
   subst hA1 hA3
   clear hA2
   obtain ⟨b1,o1,x,r,rfl,hb1,hx,hgk,hn,hc⟩:=Z2H hr ha (k:=q) (by rw [HRDL.out];exact hlt)
   rw [List.getElem?_drop] at hgk
   have hrl:=HRL.out r (List.mem_of_getElem? hgk)
   obtain ⟨Ar,cr,hxr,_,_,_,hur,hrr⟩:=hn
   rw [hrl] at hxr
   subst hxr
   obtain ⟨b2,o2,z,rfl,hb2,hgz,hz64,hcz⟩:=Q0O hrr hur (k:=v) (by omega)
   have hz0:=hz64.1
   have HMX:=Qh (show mx rows (ls.length+q) v=toF z by rw [Q7t hgk,Q1n hgz])
   have hdq:decide ((q:Int)<(d:Int))=true:=by simp;omega
   clear hr ha hb1 hx hgk hur hrr hb2 hgz hrl
   by_cases hzero:toF z=0
   ·have HZR:=Qh hzero
    go_wp2_with fail
    refine (Q1f _ _ hz0).mono ?_
    rintro e w' ⟨rfl,rfl⟩
    have hbz:(ofF (toF z) !=0)=false:=by rw [HZR.out];rfl
    clear hzero
    try dsimp only
    go_wp2_with fail
    refine ⟨⟨q+1,by omega,by go_num,fun r h1 h2=> ?_⟩,by simp [intOf]<;>omega⟩
    rcases Nat.lt_or_ge r (ls.length+q) with h|h
    ·exact HZ.out r h1 h
    ·obtain rfl:r=ls.length+q:=by omega
     rw [HMX.out,HZR.out]
   ·have HNZ:=Qh hzero
    go_wp2_with fail
    refine (Q1f _ _ hz0).mono ?_
    rintro e w' ⟨rfl,rfl⟩
    have hbz:(ofF (toF z) !=0)=true:=by rw [bne_iff_ne];intro e;exact hzero (Q5y.1 e)
    clear hzero
    try dsimp only
    go_wp2_with fail
    exact HPO.out _ _ ⟨rows,ls,HM.out▸RED.out,.inl ⟨⟨ls.length+q,by omega,by have:=HM.out;have:=HDD.out;omega,by rw [HMX.out];exact HNZ.out⟩,_,rfl,Q0c.nil _ _,B2.out⟩⟩
  ·obtain rfl:q=d:=by omega
   have HZA:=Qh (show∀r,ls.length<=r->r<m->mx rows r v=0 from fun r h1 h2=>HZ.out r h1 (by have:=HDD.out;omega))
   clear KR
   go_wp2_with (refine Q1a rfl _ _ rfl wo.heap.size _ v rfl rfl rfl (by omega) (Nat.le_refl _) ?_)
   intro W3 ho hb
   have KO:=Qh (show Q0c W3 wo.heap.size (.slice (some ⟨wo.heap.size,0,none⟩) v v) (Q0g (Z4N (mx rows) ls v 0)) from by rw [Z7L];exact ho)
   have B3:=Qh hb
   clear ho hb
   go_wp2_with fail
   go_loopw [46] (fun x wr=> ∃i:Nat,i<=ls.length/\x= .int .i64 i/\Q0c wr wo.heap.size (.slice (some ⟨wo.heap.size,0,none⟩) v v) (Q0g (Z4N (mx rows) ls v i))/\Below wo.heap.size wo wr) (fun x _=>ls.length - (intOf x).toNat)
   case atStart=>exact ⟨0,Nat.zero_le _,rfl,KO.out,B3.out⟩
   case round=>
    obtain ⟨i,hi,rfl,hown,hbel⟩:=hrel
    clear KO B3
    have KO:=Qh hown
    have B3:=Qh hbel
    clear hown hbel
    by_cases hlt2:i<ls.length
    ·have hdi:decide ((i:Int)<(ls.length:Int))=true:=by simp;omega
     obtain ⟨A,c,hA,_,_,_,hu,hr⟩:=KL.out.is.below B3.out
     rw [Q4x] at hA
     injection hA with hA1 hA2 hA3
     subst hA1 hA3
     clear hA2
     obtain ⟨b1,o1,cz,rfl,hb1,hgc,hc64,hcc⟩:=ints_at hr hu (k:=i) (by rw [Q4x];exact hlt2)
     have hce:cz=((ld ls i:Nat):Int):=by
      unfold Z5I at hgc
      rw [List.getElem?_map,Y5K hlt2] at hgc
      simpa using hgc.symm
     subst hce
     obtain ⟨col,hcol⟩: ∃col,col=ld ls i:=⟨_,rfl⟩
     have hcv:col<v:=by rw [hcol];exact RED.out.lt i hlt2
     rw [<-hcol] at hcc
     obtain ⟨l,hl⟩:=HNR.out i hlt2
     have hll:=HRL.out _ (List.mem_of_getElem? hl)
     have KGr:=KG.out.below B3.out
     obtain ⟨bi,ci,hvi,hoi,_,_,_,_⟩:=KGr.at_ hl (by omega)
     rw [hll] at hvi hoi
     have hgm:=KGr.outer.form (by rw [HRM.out];omega)
     obtain ⟨gm,cgm,hgmv,_,_⟩:=hgm
     injection hgmv with hg1 hg2 hg3
     subst hg1
     clear hg2 hg3
     have hci:=KGr.cell hvi
     rw [Q0d] at hll
     have hcy:=hoi.cell (Q1H (Q2r (l:=l) (j:=v) (by omega)))
     have HMX:=Qh (show mx rows i v=co l v by rw [Q7t hl,Q0A])
     have hoc:(Q0g (Z4N (mx rows) ls v i))[col]? =some (ofF (co (Z4N (mx rows) ls v i) col)):=Q1H (Q2r (by rw [Q5R];exact hcv))
     have hcs:=KO.out.cell hoc
     have hfs:=KO.out.frozen col
     have K4:=Qh (show Q0c (wr.setCell ⟨wo.heap.size,col,none⟩ (.int .u64 (ofF (co l v)))) wo.heap.size (.slice (some ⟨wo.heap.size,0,none⟩) v v) (Q0g (Z4N (mx rows) ls v (i+1))) from by
      rw [<-Z9Y RED.out hlt2,HMX.out,<-hcol]
      exact KO.out.set_ col (U64.of_ofF _))
     have B4:=Qh (B3.out.setCell (p:=⟨wo.heap.size,col,none⟩) (Nat.le_refl _) (.int .u64 (ofF (co l v))))
     clear hr hu hb1 hgc hcol hl hll KGr hvi hoi hoc
     go_wp2_with fail
     exact ⟨⟨i+1,by omega,by go_num,K4.out,B4.out⟩,by simp [intOf]<;>omega⟩
    ·obtain rfl:ls.length=i:=by omega
     rw [Y3e] at KO
     go_wp2_with fail
     exact HPO.out _ _ ⟨rows,ls,HM.out▸RED.out,.inr ⟨fun r h1 h2=>HZA.out r h1 (by have:=HM.out;omega),_,rfl,KO.out.less B2.out.size,Q0b B2.out B3.out B2.out.size⟩⟩
end Go.Proofs.YtploomncapiloaaGreatDoor
