/- Parts of the proof, put together by a program: ShamW WeiW ShamQ Fill ShamK. No condition. -/
import Derived.Test.YtploomncapiloaaGreatDoorSAF
import Derived.Test.YtploomncapiloaaGreatDoorSAL
import Derived.Laws.CopyOwn
set_option maxRecDepth 100000
set_option maxHeartbeats 8000000
namespace Go.Proofs.YtploomncapiloaaGreatDoor
open Go.RowKit Croft
theorem Z3V (n:Nat) (p:List F):Q0g (Q4D (n+1) p)=Q0g (Q4D n p)++ [ofF (Q0n p (toF ((n:Int)+1)))]:=by simp [Q4D,Q0g,List.range_succ,pt]
def Z0D (ds:List Int) (n:Int):Prop:=ds.length<=4/\(ds.length:Int)+1<=n/\n<=9
theorem Z9q (secret:Int) (vd:Value) (ds:List Int) (n:Int) (w:World) (h1:Q0h w vd ds) (h: ¬Z0D ds n):
  Calls Tryz.prog 56 #[.int .u64 secret,vd,.int .i64 n] w fun e w'=>Q1o w e w' [] 1:=by
 obtain ⟨A1,c1,rfl,hc1,hm1,hl1,hu1,hr1⟩:=h1
 unfold Z0D at h
 clear hu1 hr1 hm1
 by_cases k1:(ds.length:Int)>4
 ·clear h
  go_enter Tryz.func56,Tryz.ntmps56
  go_wp2_with fail
  go_ret2
  exact ⟨_,rfl,Q0c.nil _ _,Below.refl _ _⟩
 ·by_cases k2:n<(ds.length:Int)+1
  ·clear h
   go_enter Tryz.func56,Tryz.ntmps56
   go_wp2_with fail
   go_ret2
   exact ⟨_,rfl,Q0c.nil _ _,Below.refl _ _⟩
  ·have k3:n>9:=by omega
   clear h
   go_enter Tryz.func56,Tryz.ntmps56
   go_wp2_with fail
   go_ret2
   exact ⟨_,rfl,Q0c.nil _ _,Below.refl _ _⟩
theorem Q8n (secret:Int) (vd:Value) (ds:List Int) (n:Nat) (w:World) (hs:U64 secret) (h1:Q0h w vd ds) (hd:ds.length<=4) (hn1:ds.length+1<=n) (hn2:n<=9):
  Calls Tryz.prog 56 #[.int .u64 secret,vd,.int .i64 n] w fun e w'=>Q1o w e w' (Q0g (Q4D n (Q0f (secret::ds)))) 0:=by
 have KD:=Qh h1
 suffices hgoal: ∀Post:Ending->World->Prop,(∀e w',Q1o w e w' (Q0g (Q4D n (Q0f (secret::ds)))) 0->Post e w')->Calls Tryz.prog 56 #[.int .u64 secret,vd,.int .i64 n] w Post from hgoal _ fun e w' h=>h
 intro Post hp
 have HP:=Qh hp
 obtain ⟨A1,c1,rfl,hc1,hm1,hl1,hu1,hr1⟩:=h1
 clear hp hu1 hr1 hm1
 have HLO:=Qh (Q5a w w.heap.size [secret] (by simpa using hs) (by simp) (Nat.le_refl _))
 go_enter Tryz.func56,Tryz.ntmps56
 go_wp2_with (at_builtin;go_loud (refine Q3H rfl _ _ rfl w.heap.size _ _ [secret] ds rfl HLO.out rfl (KD.out.alloc _) (by simp;omega) (by rw [size_alloc];omega) ?_))
 intro v3 W3 ho3 hb3
 have KL:=Qh (show Q0h W3 v3 (secret::ds) from Q0c.is ho3)
 have B3:=Qh (((Below.refl w.heap.size w).alloc (Nat.le_refl _) (.cells #[.int .u64 secret] 67)).trans hb3)
 clear ho3 hb3 HLO
 go_wp2_with fail
 go_loopw [10,11] (fun v i wr=> ∃k:Nat,k<=n/\i= .int .i64 ((k:Int)+1)/\Q0c wr W3.heap.size v (Q0g (Q4D k (Q0f (secret::ds))))/\Below W3.heap.size W3 wr) (fun _ i _=>n+1 - (intOf i).toNat)
 case atStart=>exact ⟨0,Nat.zero_le _,rfl,Q0c.nil _ _,Below.refl _ _⟩
 case round=>
  obtain ⟨k,hk,rfl,hown,hbel⟩:=hrel
  have KO:=Qh hown
  have BEL:=Qh hbel
  have hsz:=hbel.size
  clear hown hbel
  by_cases hlt:k<n
  ·have KL2:=Qh (KL.out.below BEL.out)
   go_wp2_with fail
   refine (Q8L _ _ _ _ KL2.out (by omega)).mono ?_
   rintro e w' ⟨rfl,nd,rfl⟩
   try dsimp only
   go_wp2_with (at_builtin;go_loud (refine Q0B rfl _ _ rfl W3.heap.size _ _ (ofF (Q0n (Q0f (secret::ds)) (toF ((k:Int)+1)))) (wr.drewN nd).heap.size 1 rfl ((KO.out.drewN nd).alloc _) rfl (Q0o _ _ _) (U64.of_ofF _) (by rw [Q0d,Q0K];omega) (by simp;omega) ?_))
   intro v' w5 hown' hbel'
   rw [<-Z3V] at hown'
   have K5:=Qh hown'
   have B5:=Qh (((below_drewN BEL.out nd).alloc (by simp;omega) (.cells #[.int .u64 (ofF (Q0n (Q0f (secret::ds)) (toF ((k:Int)+1))))] 67)).trans hbel')
   clear hown' hbel'
   go_wp2_with fail
   exact ⟨⟨k+1,by omega,by go_num,K5.out,B5.out⟩,by simp [intOf]<;>omega⟩
  ·obtain rfl:n=k:=by omega
   go_wp2_with fail
   exact HP.out _ _ ⟨_,rfl,KO.out.less B3.out.size,Q0b B3.out BEL.out B3.out.size⟩
def Q0T (t:Int) (l:List (Int×Int)):Int:=if 0<=t/\t<=4 then if Q3B (l.map (·.1))=true then if (l.length:Int)<t+1 then 4 else 0 else 5 else 1
theorem Q5j {l:List (Int×Int)}:Q3B (l.map (·.1))=true↔Q1P l 9:=by
 unfold Q3B Q1P
 rw [decide_eq_true_eq]
 simp
theorem Q1P.more {l:List (Int×Int)} (h:Q1P l 9):Q1P l 2147483646:=⟨fun s hs=>by have:=h.1 s hs;omega,h.2⟩
theorem Q1P.few {l:List (Int×Int)} (h:Q1P l 9):l.length<=9:=by
 have h1:(l.map fun s=>s.1.toNat).Nodup:=by
  have h2:=h.2
  rw [List.nodup_iff_pairwise_ne,List.pairwise_map] at h2⊢
  refine List.Pairwise.imp_of_mem (fun ha hb hne he=>hne ?_) h2
  have:=h.1 _ ha;have:=h.1 _ hb;omega
 have h2:(l.map fun s=>s.1.toNat) ⊆ (List.range 10).erase 0:=by
  intro x hx
  obtain ⟨s,hs,rfl⟩:=List.mem_map.1 hx
  have:=h.1 s hs
  rw [List.Nodup.mem_erase_iff List.nodup_range,List.mem_range]
  omega
 have h3:=List.Nodup.length_le_of_subset h1 h2
 rw [List.length_map] at h3
 simpa using h3
theorem Q5k (t:Int) (va:Value) (l:List (Int×Int)) (w:World) (h1:Q0V w va l):
  Calls Tryz.prog 154 #[.int .i64 t,va] w fun e w'=>e= .returned (.int .i64 (Q0T t l))/\Below w.heap.size w w':=by
 have KA:=Qh h1
 obtain ⟨A1,c1,rfl,hc1,hm1,hl1,hu1,hr1⟩:=h1
 clear hu1 hr1 hm1
 by_cases ht:0<=t/\t<=4
 ·have HE:=Qh (show Q0T t l=if Q3B (l.map (·.1))=true then if (l.length:Int)<t+1 then 4 else 0 else 5 from if_pos ht)
  obtain ⟨ht1,ht2⟩:=ht
  have hd1:decide (t<0)=false:=by simpa using ht1
  have hd2:decide (t>4)=false:=by simpa using ht2
  go_enter Tryz.func154,Tryz.ntmps154
  go_wp2_with fail
  go_loopw [5,16] (fun v i wr=> ∃k:Nat,k<=l.length/\i= .int .i64 k/\Q0j wr w.heap.size v ((l.map (·.1)).take k)/\Below w.heap.size w wr) (fun _ i _=>l.length - (intOf i).toNat)
  case atStart=>exact ⟨0,Nat.zero_le _,rfl,Q0j.nil _ _,Below.refl _ _⟩
  case round=>
   obtain ⟨k,hk,rfl,hown,hbel⟩:=hrel
   have KO:=Qh hown
   have BEL:=Qh hbel
   have hsz:=hbel.size
   clear hown hbel
   by_cases hlt:k<l.length
   ·obtain ⟨A,c,hA,_,_,_,hu,hr⟩:=KA.out.below BEL.out
    injection hA with hA1 hA2 hA3
    subst hA1 hA3
    obtain ⟨b1,o1,at_,y,rfl,hb1,hgk,hat,huy,hca,hcb⟩:=Q2S hr hu hlt
    have HT:=Qh (show (l.map (·.1)).take (k+1)=(l.map (·.1)).take k++ [at_] by rw [List.take_add_one,List.getElem?_map,hgk];rfl)
    clear hr hu hgk hb1
    go_wp2_with (at_builtin;go_loud (refine Q1M rfl _ _ rfl w.heap.size _ _ at_ (wr.heap.size+1) 1 rfl ((KO.out.alloc _).alloc _) rfl (by rw [<-size_alloc wr (.cells #[.int .i64 at_,.int .u64 y] 71)];exact Q0o _ _ _) hat (by simp only [List.length_take,List.length_map];omega) (by rw [size_alloc,size_alloc];omega) ?_))
    intro v' w5 hown' hbel'
    rw [<-HT.out] at hown'
    have K5:=Qh hown'
    have B5:=Qh (((BEL.out.alloc hsz (.cells #[.int .i64 at_,.int .u64 y] 71)).alloc (by rw [size_alloc];omega) (.cells #[.int .i64 at_] 3)).trans hbel')
    clear hown' hbel'
    go_wp2_with fail
    exact ⟨⟨k+1,by omega,by go_num,K5.out,B5.out⟩,by simp [intOf]<;>omega⟩
   ·have hkl:k=l.length:=by omega
    have hts:(l.map (·.1)).take k=l.map (·.1):=List.take_of_length_le (by simp;omega)
    rw [hts] at KO
    clear hts hkl
    go_wp2_with fail
    refine (Q6u _ _ _ KO.out.is).mono ?_
    rintro e w' ⟨rfl,rfl⟩
    cases hp:Q3B (l.map (·.1)) with
    |false=>
     have HPP:=Qh hp
     clear hp
     try dsimp only
     go_wp2_with fail
     go_ret
     exact ⟨by rw [HE.out,if_neg (by rw [HPP.out];simp)];rfl,BEL.out⟩
    |true=>
     have HPP:=Qh hp
     clear hp
     by_cases hs:(l.length:Int)<t+1
     ·try dsimp only
      go_wp2_with fail
      go_ret
      exact ⟨by rw [HE.out,if_pos HPP.out,if_pos hs];rfl,BEL.out⟩
     ·try dsimp only
      go_wp2_with fail
      go_ret
      exact ⟨by rw [HE.out,if_pos HPP.out,if_neg (by omega)];rfl,BEL.out⟩
 ·have HE:=Qh (show Q0T t l=1 from if_neg ht)
  by_cases h1:t<0
  ·clear ht
   go_enter Tryz.func154,Tryz.ntmps154
   go_wp2_with fail
   go_ret
   exact ⟨by rw [HE.out];rfl,Below.refl _ _⟩
  ·have h2:t>4:=by omega
   have hd1:decide (t<0)=false:=by simpa using h1
   clear ht
   go_enter Tryz.func154,Tryz.ntmps154
   go_wp2_with fail
   go_ret
   exact ⟨by rw [HE.out];rfl,Below.refl _ _⟩
def Y4c (w:World) (e:Ending) (w':World) (x err:Int):Prop:=e= .returned (.tuple #[.int .u64 x,.int .i64 err])/\Below w.heap.size w w'
theorem Q1V {t:Int} {l:List (Int×Int)}:Q0T t l=0↔(0<=t/\t<=4)/\Q1P l 9/\t+1<=l.length:=by
 unfold Q0T
 rw [<-Q5j]
 by_cases h1:0<=t/\t<=4
 ·rw [if_pos h1]
  by_cases h2:Q3B (l.map (·.1))=true
  ·rw [if_pos h2]
   by_cases h3:(l.length:Int)<t+1
   ·rw [if_pos h3]
    exact ⟨fun h=>by omega,fun h=>by omega⟩
   ·rw [if_neg h3]
    exact ⟨fun _=>⟨h1,h2,by omega⟩,fun _=>rfl⟩
  ·rw [if_neg h2]
   exact ⟨fun h=>by omega,fun h=>absurd h.2.1 h2⟩
 ·rw [if_neg h1]
  exact ⟨fun h=>by omega,fun h=>absurd h.1 h1⟩
def Q9z (t:Int) (Q:List F):Int:=if t+1<Q.length then 0 else ofF (Q0n Q 0)
def Q9A (t:Int) (Q:List F):Int:=if t+1<Q.length then 6 else 0
theorem Z6t (t:Int) (va:Value) (l:List (Int×Int)) (Q:List F) (w:World) (h1:Q0V w va l) (h:Q0T t l=0) (hQ:Interp (Q2X l) Q):
  Calls Tryz.prog 125 #[.int .i64 t,va] w fun e w'=>Y4c w e w' (Q9z t Q) (Q9A t Q):=by
 have KA:=Qh h1
 have HE:=Qh h
 have OK:=Qh (Q1V.1 h)
 have HQ:=Qh hQ
 have ht1:=(Q1V.1 h).1.1
 have ht2:=(Q1V.1 h).1.2
 clear h h1 hQ
 go_enter Tryz.func125,Tryz.ntmps125
 go_wp2_with fail
 refine (Q5k _ _ _ _ KA.out).mono ?_
 rintro e W1 ⟨rfl,hb⟩
 rw [HE.out]
 replace KA:=Qh (KA.out.below hb)
 have BEL:=Qh hb
 clear hb
 try dsimp only
 go_wp2_with fail
 refine (Z1E _ _ _ KA.out (by have:=OK.out.2.1.few;omega)).mono ?_
 rintro e W2 hh
 obtain ⟨Q2,hQ2,vT,rfl,ho,hb⟩:=hh.1 OK.out.2.1.more
 obtain rfl:=HQ.out.unique (Q2v OK.out.2.1.more) hQ2
 clear hh hQ2
 have KQ:=Qh ho.is
 obtain ⟨A,c,hv,_,_⟩:=Q0k ho.1
 rw [Q0d] at hv
 subst hv
 have hql:Q.length<=9:=by
  have:=HQ.out.2.1
  have h9:=OK.out.2.1.few
  simp only [Q2X,List.length_map] at this
  omega
 replace BEL:=Qh (Q0b BEL.out hb BEL.out.size)
 clear ho hb
 try dsimp only
 by_cases hbig:(Q.length:Int)>t+1
 ·have HX:=Qh (show Q9z t Q=0 from if_pos (by omega))
  have HEE:=Qh (show Q9A t Q=6 from if_pos (by omega))
  go_wp2_with fail
  go_ret2
  exact ⟨by rw [HX.out,HEE.out];rfl,BEL.out⟩
 ·have HX:=Qh (show Q9z t Q=ofF (Q0n Q 0) from if_neg (by omega))
  have HEE:=Qh (show Q9A t Q=0 from if_neg (by omega))
  go_wp2_with fail
  refine (Q8L _ _ _ _ KQ.out (Int.le_refl 0)).mono ?_
  rintro e w' ⟨rfl,nd,rfl⟩
  rw [Q0A,Q1G]
  try dsimp only
  go_wp2_with fail
  go_ret2
  exact ⟨by rw [HX.out,HEE.out];rfl,below_drewN BEL.out _⟩
theorem Z0E (xs:List F) (a b:F):others (xs++ [b]) a=if b=a then others xs a else others xs a++ [b]:=by
 unfold others
 rw [List.filter_append]
 by_cases h:b=a
 ·rw [if_pos h,h];simp
 ·rw [if_neg h];simp [h]
theorem Z3W (l:List Int) (z:Int):Q0f (l++ [z])=Q0f l++ [toF z]:=by simp [Q0f]
def upL (l:List Int) (a:Int):F:=Q3x (others (Q0f l) (toF a))
def unL (l:List Int) (a:Int):F:=Q3x ((others (Q0f l) (toF a)).map fun b=>b - toF a)
theorem Y2v {l:List Int} {a b:Int} (h:toF b=toF a):upL (l++ [b]) a=upL l a/\unL (l++ [b]) a=unL l a:=by
 unfold upL unL
 rw [Z3W,Z0E,if_pos h]
 exact ⟨rfl,rfl⟩
theorem Z9r {l:List Int} {a b:Int} (h:toF b≠toF a):upL (l++ [b]) a=upL l a * toF b/\unL (l++ [b]) a=unL l a * (toF b - toF a):=by
 unfold upL unL
 rw [Z3W,Z0E,if_neg h,Z2k,List.map_append,List.map_cons,List.map_nil,Z2k]
 exact ⟨rfl,rfl⟩
def wtL (ats:List Int) (k:Nat):List Int:=(ats.take k).map fun a=>ofF (wtF (Q0f ats) (toF a))
theorem Y2w {ats:List Int} {k:Nat} {a:Int} (h:ats[k]? =some a):wtL ats (k+1)=wtL ats k++ [ofF (upL ats a * inv (unL ats a))]:=by
 unfold wtL
 rw [List.take_add_one,h]
 simp [wtF,upL,unL]
theorem Y4d (va:Value) (ats:List Int) (w:World) (h1:Q0y w va ats) (h: ¬(ats≠ []/\Q3B ats=true)):
  Calls Tryz.prog 161 #[va] w fun e w'=>Q1o w e w' [] 5:=by
 have KA:=Qh h1
 obtain ⟨A1,c1,rfl,hc1,hm1,hl1,hu1,hr1⟩:=h1
 clear hu1 hr1 hm1
 by_cases h0:ats= []
 ·have b0:((ats.length:Int)==0)=true:=by rw [h0];rfl
  have H0:=Qh h0
  clear h h0
  go_enter Tryz.func161,Tryz.ntmps161
  go_wp2_with fail
  go_ret2
  exact ⟨_,rfl,Q0c.nil _ _,Below.refl _ _⟩
 ·have b0:((ats.length:Int)==0)=false:=by rw [beq_eq_false_iff_ne];intro e;exact h0 (List.eq_nil_of_length_eq_zero (by omega))
  have hp:Q3B ats=false:=by
   cases hp:Q3B ats with
   |false=>rfl
   |true=>exact absurd ⟨h0,hp⟩ h
  have HP:=Qh hp
  clear h h0 hp
  go_enter Tryz.func161,Tryz.ntmps161
  go_wp2_with fail
  refine (Q6u _ _ _ KA.out).mono ?_
  rintro e w' ⟨rfl,rfl⟩
  rw [HP.out]
  try dsimp only
  go_wp2_with fail
  go_ret2
  exact ⟨_,rfl,Q0c.nil _ _,Below.refl _ _⟩
theorem Z5l (va:Value) (ats:List Int) (w:World) (h1:Q0y w va ats) (h0:ats≠ []) (hp:Q3B ats=true) (h9:ats.length<=9):
  Calls Tryz.prog 161 #[va] w fun e w'=>Q1o w e w' (wtL ats ats.length) 0:=by
 have KA:=Qh h1
 suffices hgoal: ∀Post:Ending->World->Prop,(∀e w',Q1o w e w' (wtL ats ats.length) 0->Post e w')->Calls Tryz.prog 161 #[va] w Post from hgoal _ fun e w' h=>h
 intro Post hp'
 have HPP:=Qh hp'
 obtain ⟨A1,c1,rfl,hc1,hm1,hl1,hu1,hr1⟩:=h1
 have b0:((ats.length:Int)==0)=false:=by rw [beq_eq_false_iff_ne];intro e;exact h0 (List.eq_nil_of_length_eq_zero (by omega))
 have HP:=Qh hp
 have HIN:=Qh (of_decide_eq_true hp).1
 clear h0 hp hp' hu1 hr1 hm1
 go_enter Tryz.func161,Tryz.ntmps161
 go_wp2_with fail
 refine (Q6u _ _ _ KA.out).mono ?_
 rintro e w' ⟨rfl,rfl⟩
 rw [HP.out]
 try dsimp only
 go_wp2_with fail
 go_loopw [4,23] (fun v i wr=> ∃k:Nat,k<=ats.length/\i= .int .i64 k/\Q0c wr w.heap.size v (wtL ats k)/\Below w.heap.size w wr) (fun _ i _=>ats.length - (intOf i).toNat)
 case atStart=>exact ⟨0,Nat.zero_le _,rfl,Q0c.nil _ _,Below.refl _ _⟩
 case round=>
  obtain ⟨k,hk,rfl,hown,hbel⟩:=hrel
  have KO:=Qh hown
  have BEL:=Qh hbel
  have hsz:=hbel.size
  clear hown hbel
  by_cases hlt:k<ats.length
  ·have hdk:decide ((k:Int)<(ats.length:Int))=true:=by simp;omega
   have KA2:=Qh (KA.out.below BEL.out)
   obtain ⟨A,c,hA,_,_,_,hu,hr⟩:=KA2.out
   injection hA with hA1 hA2 hA3
   subst hA1 hA3
   have HU:=Qh hu
   have HR:=Qh hr
   obtain ⟨b1,o1,a,rfl,hb1,hga,ha64,hca⟩:=ints_at hr hu hlt
   have HGA:=Qh hga
   have hain:=HIN.out a (List.mem_of_getElem? hga)
   obtain ⟨ha1,ha2⟩:=hain
   clear hu hr hga hb1
   go_wp2_with fail
   obtain ⟨wo,hwo⟩: ∃wo,wo=wr:=⟨_,rfl⟩
   subst hwo
   go_loop [7,8,29] (fun u n j=> ∃q:Nat,q<=ats.length/\j= .int .i64 q/\u= .int .u64 (ofF (upL (ats.take q) a))/\n= .int .u64 (ofF (unL (ats.take q) a))) (fun _ _ j=>ats.length - (intOf j).toNat)
   case atStart=>exact ⟨0,Nat.zero_le _,rfl,rfl,rfl⟩
   case round=>
    obtain ⟨q,hq,rfl,rfl,rfl⟩:=hrel
    clear hca
    by_cases hlt2:q<ats.length
    ·obtain ⟨b2,o2,b,hA2,hb2,hgb,hb64,hcb⟩:=ints_at HR.out HU.out hlt2
     injection hA2 with hA2
     injection hA2 with hA3 hA4
     subst hA3 hA4
     have hbin:=HIN.out b (List.mem_of_getElem? hgb)
     obtain ⟨hb3,hb4⟩:=hbin
     have HT:=Qh (show ats.take (q+1)=ats.take q++ [b] by rw [List.take_add_one,hgb];rfl)
     clear hgb hb2
     by_cases hab:a=b
     ·subst hab
      obtain ⟨e1,e2⟩:=Y2v (l:=ats.take q) (a:=a) (b:=a) rfl
      have E1:=Qh e1
      have E2:=Qh e2
      have hne:(a !=a)=false:=by simp
      clear e1 e2
      go_wp2_with fail
      exact ⟨⟨q+1,by omega,by go_num,by rw [HT.out,E1.out],by rw [HT.out,E2.out]⟩,by simp [intOf]<;>omega⟩
     ·have hne:(a !=b)=true:=by rw [bne_iff_ne];exact hab
      obtain ⟨e1,e2⟩:=Z9r (l:=ats.take q) (a:=a) (b:=b) (fun e=>hab (Z0s ⟨by omega,by omega⟩ ⟨by omega,by omega⟩ e.symm))
      have E1:=Qh e1
      have E2:=Qh e2
      clear hab e1 e2
      go_wp2_with fail
      refine (Q1t _ _ _ (Q0i _) (by omega)).mono ?_
      rintro e w' ⟨rfl,rfl⟩
      rw [Q0m]
      try dsimp only
      go_wp2_with fail
      refine (Q4N _ _ _ (by omega) (by omega)).mono ?_
      rintro e w' ⟨rfl,rfl⟩
      try dsimp only
      go_wp2_with fail
      refine (Q1t _ _ _ (Q0i _) (Q0i _)).mono ?_
      rintro e w' ⟨rfl,rfl⟩
      rw [Q0m,Q0m]
      try dsimp only
      go_wp2_with fail
      exact ⟨⟨q+1,by omega,by go_num,by rw [HT.out,E1.out],by rw [HT.out,E2.out]⟩,by simp [intOf]<;>omega⟩
    ·have hqe:q=ats.length:=by omega
     have HQE:=Qh (show ats.take q=ats by rw [hqe,List.take_length])
     clear hqe
     rw [HQE.out]
     go_wp2_with fail
     refine (Q9M _ _ (Q0i _)).mono ?_
     rintro e w' ⟨rfl,rfl⟩
     rw [Q0m]
     try dsimp only
     go_wp2_with fail
     refine (Q1t _ _ _ (Q0i _) (Q0i _)).mono ?_
     rintro e w' ⟨rfl,rfl⟩
     rw [Q0m,Q0m]
     try dsimp only
     have hwl:(wtL ats k).length<=9:=by unfold wtL;rw [List.length_map,List.length_take];omega
     have HWL:=Qh hwl
     clear hwl
     go_wp2_with (at_builtin;go_loud (refine Q0B rfl _ _ rfl w.heap.size _ _ (ofF (upL ats a * inv (unL ats a))) wo.heap.size 1 rfl (KO.out.alloc _) rfl (Q0o _ _ _) (U64.of_ofF _) (by have:=HWL.out;omega) (by rw [size_alloc];omega) ?_))
     intro v' w5 hown' hbel'
     rw [<-Y2w HGA.out] at hown'
     have K5:=Qh hown'
     have B5:=Qh ((BEL.out.alloc hsz (.cells #[.int .u64 (ofF (upL ats a * inv (unL ats a)))] 67)).trans hbel')
     clear hown' hbel'
     go_wp2_with fail
     exact ⟨⟨k+1,by omega,by go_num,K5.out,B5.out⟩,by simp [intOf]<;>omega⟩
  ·obtain rfl:k=ats.length:=by omega
   go_wp2_with fail
   exact HPP.out _ _ ⟨_,rfl,KO.out,BEL.out⟩
end Go.Proofs.YtploomncapiloaaGreatDoor
namespace Croft
theorem Y5H {ps:List (F×F)} (hn:(ps.map (·.1)).Nodup) {i:Nat} (hi:i<ps.length): ∀k,k<=ps.length-> ∃one,Q8V ps i k one:=by
 intro k
 induction k with
 |zero=>intro _;exact ⟨_,Q8V.start (x:=ps[i].1) (y:=ps[i].2) (List.getElem?_eq_getElem hi)⟩
 |succ k ih=>
  intro hk
  obtain ⟨one,h⟩:=ih (by omega)
  by_cases hki:k=i
  ·subst hki;exact ⟨_,h.skip⟩
  ·exact ⟨_,h.step hn (xi:=ps[i].1) (yi:=ps[i].2) (xk:=ps[k].1) (yk:=ps[k].2) (List.getElem?_eq_getElem hi) (List.getElem?_eq_getElem (by omega)) hki⟩
theorem Z3X {ps:List (F×F)} (hn:(ps.map (·.1)).Nodup): ∃Q,Interp ps Q:=by
 have h: ∀i,i<=ps.length-> ∃o,Z0z ps i o:=by
  intro i
  induction i with
  |zero=>intro _;exact ⟨_,Z0z.start ps⟩
  |succ i ih=>
   intro hi
   obtain ⟨o,h⟩:=ih (by omega)
   obtain ⟨one,h1⟩:=Y5H hn (i:=i) (by omega) ps.length (Nat.le_refl _)
   exact ⟨_,h.step (by omega) h1⟩
 obtain ⟨o,h⟩:=h ps.length (Nat.le_refl _)
 exact ⟨o,h.done⟩
def Y4L (n:Nat) (l:List F):List (F×F):=(List.range n).map fun i=>(pt i,co l i)
theorem Z5m (n:Nat) (l:List F):(Y4L n l).length=n:=by simp [Y4L]
theorem Y2x {n:Nat} {l:List F} {p:F×F}:p∈Y4L n l↔ ∃i,i<n/\p=(pt i,co l i):=by
 unfold Y4L
 rw [List.mem_map]
 constructor
 ·rintro ⟨i,hi,rfl⟩;exact ⟨i,List.mem_range.1 hi,rfl⟩
 ·rintro ⟨i,hi,rfl⟩;exact ⟨i,List.mem_range.2 hi,rfl⟩
theorem Q7H {n t:Nat} {l:List F} {x:F} (h:Shared n t l x) (hn:t+1<=n): ∃Q,Interp (Y4L n l) Q/\Q.length<=t+1/\Q0n Q 0=x:=by
 obtain ⟨p,hp,rfl,rfl⟩:=h
 have hl:=Q1y p
 refine ⟨Q0w p,⟨Q1K p,by rw [Z5m];omega,fun q hq=> ?_⟩,by omega,Q3b _ _⟩
 obtain ⟨i,hi,rfl⟩:=Y2x.1 hq
 show Q0n (Q0w p) (pt i)=co (Q4D n p) i
 rw [Q3b,Q5d p hi]
end Croft
namespace Go.Proofs.YtploomncapiloaaGreatDoor
open Go.RowKit Croft
def Z1H (xs:List Int) (n:Nat):List Int:=xs.take n++List.replicate (n - xs.length) 0
theorem Q3c (xs:List Int) (n:Nat):(Z1H xs n).length=n:=by simp [Z1H];omega
theorem Z9s {xs:List Int} (h: ∀z∈xs,U64 z) (n:Nat): ∀z∈Z1H xs n,U64 z:=by
 intro z hz
 rcases List.mem_append.1 hz with h1|h1
 ·exact h z (List.mem_of_mem_take h1)
 ·rw [List.eq_of_mem_replicate h1];exact Q5D
theorem Q0c.box {w:World} {base g n:Nat} {zs:List Int} (h:Q0c w base (.slice (some ⟨g,0,none⟩) n n) zs):Box w g 67 (Q2o zs):=by
 rcases h.1.2 with ⟨hv,_⟩|⟨g',cap,cur,hv,hb,hg,hn,hc,hs,ht⟩
 ·simp at hv
 ·injection hv with h1 h2 h3
  injection h1 with h1
  injection h1 with h1
  subst h1
  have hcl:cur.toList=Q2o zs:=by
   rw [<-ht,List.take_of_length_le]
   simp only [Array.length_toList]
   omega
  unfold Box
  rw [hg,<-hcl]
theorem Box.own {w:World} {base g:Nat} {zs:List Int} (h:Box w g 67 (Q2o zs)) (hb:base<=g) (hl:zs.length<=17592186043904) (hz: ∀z∈zs,U64 z):Q0c w base (.slice (some ⟨g,0,none⟩) zs.length zs.length) zs:=by
 refine ⟨⟨by rw [Q0Y];omega,.inr ⟨g,zs.length,(Q2o zs).toArray,rfl,hb,h,Nat.le_refl _,by unfold maxLen;omega,by simp [Q0Y], ?_⟩⟩,hl,hz⟩
 exact List.take_of_length_le (by simp [Q0Y])
theorem Y2y :(Tryz.prog.info? 67).map (·.size)=some 1:=by kernel_rfl
theorem Z5n (xs:List Int) (n:Nat):splice (Q2o (List.replicate n 0)) 0 (Q2o (xs.take n))=Q2o (Z1H xs n):=by
 unfold splice Z1H Q2o
 simp only [List.take_zero,List.nil_append,Nat.zero_add,List.length_map,List.map_append]
 congr 1
 rw [<-List.map_drop,List.drop_replicate,List.length_take]
 congr 2
 omega
def Z1s (k:Nat):List Int:=(List.range k).map fun (i:Nat)=>(i:Int)+1
theorem Z3Y (k:Nat):Z1s (k+1)=Z1s k++ [(k:Int)+1]:=by simp [Z1s,List.range_succ]
theorem Q2w (k:Nat):(Z1s k).length=k:=by simp [Z1s]
theorem Z9t (n:Nat):Q0f (Z1s n)=Z9l n:=by simp [Q0f,Z1s,Z9l,pt,Function.comp_def]
theorem Q8W {n:Nat} (h:n<=9):Q3B (Z1s n)=true:=by
 rcases (show n=0∨n=1∨n=2∨n=3∨n=4∨n=5∨n=6∨n=7∨n=8∨n=9 by omega) with rfl|rfl|rfl|rfl|rfl|rfl|rfl|rfl|rfl|rfl<;>decide
def shL (zs:List Int):List (Int×Int):=(List.range zs.length).map fun (i:Nat)=>((i:Int)+1,zs.getD i 0)
theorem Q6W (zs:List Int):(shL zs).length=zs.length:=by simp [shL]
theorem Z2L {zs:List Int} {k:Nat} {z:Int} (h:zs[k]? =some z):shL (zs.take (k+1))=shL (zs.take k)++ [((k:Int)+1,z)]:=by
 have h1:=(List.getElem?_eq_some_iff.1 h).1
 have hl:(zs.take (k+1)).length=k+1:=by simp;omega
 have hl2:(zs.take k).length=k:=by simp;omega
 unfold shL
 rw [hl,hl2,List.range_succ,List.map_append]
 congr 1
 ·apply List.map_congr_left
  intro i hi
  rw [List.mem_range] at hi
  simp only [List.getD,List.getElem?_take,if_pos hi,if_pos (show i<k+1 by omega)]
 ·simp only [List.map_cons,List.map_nil,List.getD,List.getElem?_take,if_pos (show k<k+1 by omega),h,Option.getD_some]
theorem Y4M (zs:List Int):(shL zs).map (·.1)=Z1s zs.length:=by simp [shL,Z1s,Function.comp_def]
theorem Z5o (zs:List Int):Q2X (shL zs)=Y4L zs.length (Q0f zs):=by
 unfold Q2X shL Y4L
 rw [List.map_map]
 apply List.map_congr_left
 intro i hi
 rw [List.mem_range] at hi
 show (toF ((i:Int)+1),toF (zs.getD i 0))=(pt i,co (Q0f zs) i)
 rw [Q1n (List.getElem?_eq_getElem hi)]
 simp [pt,List.getD,List.getElem?_eq_getElem hi]
theorem Z9u {t:Nat} {zs:List Int} (ht:t<=4) (h:t+1<=zs.length) (h9:zs.length<=9):Q0T t (shL zs)=0:=by
 unfold Q0T
 rw [if_pos (by omega),if_pos (by rw [Y4M];exact Q8W h9),if_neg (by rw [Q6W];omega)]
theorem Q1s {w:World} {base:Nat} {e:TypeId} {size n:Nat} {v:Value} {xs:List Value} (h:w.ownsRow base e size v n xs) (hn:0<n): ∃g c,v= .slice (some ⟨g,0,none⟩) n c/\base<=g/\g<w.heap.size:=by
 rcases h.2 with ⟨_,h0⟩|⟨g,cap,cur,rfl,hb,hg,_⟩
 ·omega
 ·exact ⟨g,cap,rfl,hb,(Array.getElem?_eq_some_iff.1 hg).1⟩
end Go.Proofs.YtploomncapiloaaGreatDoor
