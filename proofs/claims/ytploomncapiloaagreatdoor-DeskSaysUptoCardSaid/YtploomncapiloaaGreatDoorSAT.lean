/- Parts of the proof, put together by a program: RefS TimesW. No condition. -/
import Derived.Test.YtploomncapiloaaGreatDoorSAS
import Derived.Shelf.Slices.In.SortNone
import Derived.Shelf.Sort.Plain
import Derived.Sort.OwnSortedInts
set_option maxRecDepth 100000
set_option maxHeartbeats 8000000
namespace Go.Proofs.YtploomncapiloaaGreatDoor
open Go.Proofs
open Go.Shelf
def Z5A :Go.Shelf.Ren:=⟨fun|189=>170|125=>193|257=>192|128=>212|129=>185|294=>203|295=>204|296=>205|297=>206|298=>207|299=>208|216=>209|300=>210|301=>211|328=>215|329=>216|330=>217|331=>218|332=>219|215=>220|343=>224|n=>n,fun|28=>53|3=>3|46=>122|0=>0|51=>163|53=>67|4=>4|183=>212|182=>211|131=>217|5=>5|9=>9|218=>224|222=>228|228=>233|229=>234|n=>n,fun|n=>n⟩
theorem Z9P :Go.Proofs.Lays.n189 Tryz.prog Z5A:= {
 mixed:=by kernel_rfl
 f125:=Tryz.func193.trans (congrArg some (by kernel_rfl))
 f128:=Tryz.func212.trans (congrArg some (by kernel_rfl))
 f129:=Tryz.func185.trans (congrArg some (by kernel_rfl))
 f189:=Tryz.func170.trans (congrArg some (by kernel_rfl))
 f215:=Tryz.func220.trans (congrArg some (by kernel_rfl))
 f216:=Tryz.func209.trans (congrArg some (by kernel_rfl))
 f257:=Tryz.func192.trans (congrArg some (by kernel_rfl))
 f294:=Tryz.func203.trans (congrArg some (by kernel_rfl))
 f295:=Tryz.func204.trans (congrArg some (by kernel_rfl))
 f296:=Tryz.func205.trans (congrArg some (by kernel_rfl))
 f297:=Tryz.func206.trans (congrArg some (by kernel_rfl))
 f298:=Tryz.func207.trans (congrArg some (by kernel_rfl))
 f299:=Tryz.func208.trans (congrArg some (by kernel_rfl))
 f300:=Tryz.func210.trans (congrArg some (by kernel_rfl))
 f301:=Tryz.func211.trans (congrArg some (by kernel_rfl))
 f328:=Tryz.func215.trans (congrArg some (by kernel_rfl))
 f329:=Tryz.func216.trans (congrArg some (by kernel_rfl))
 f330:=Tryz.func217.trans (congrArg some (by kernel_rfl))
 f331:=Tryz.func218.trans (congrArg some (by kernel_rfl))
 f332:=Tryz.func219.trans (congrArg some (by kernel_rfl))
 f343:=Tryz.func224.trans (congrArg some (by kernel_rfl))
 t0:=Tryz.underlying0
 a0:=Tryz.isAgg0
 z0:=Tryz.sizeOf0
 v0:=Tryz.zeroValue0
 t3:=Tryz.underlying3
 a3:=Tryz.isAgg3
 z3:=Tryz.sizeOf3
 v3:=Tryz.zeroValue3
 t4:=Tryz.underlying4
 a4:=Tryz.isAgg4
 z4:=Tryz.sizeOf4
 v4:=Tryz.zeroValue4
 t5:=Tryz.underlying5
 a5:=Tryz.isAgg5
 z5:=Tryz.sizeOf5
 v5:=Tryz.zeroValue5
 t9:=Tryz.underlying9
 a9:=Tryz.isAgg9
 z9:=Tryz.sizeOf9
 v9:=Tryz.zeroValue9
 t28:=Tryz.underlying53
 a28:=Tryz.isAgg53
 z28:=Tryz.sizeOf53
 v28:=Tryz.zeroValue53
 t46:=Tryz.underlying122
 a46:=Tryz.isAgg122
 z46:=Tryz.sizeOf122
 v46:=Tryz.zeroValue122
 t51:=Tryz.underlying163
 a51:=Tryz.isAgg163
 z51:=Tryz.sizeOf163
 v51:=Tryz.zeroValue163
 t53:=Tryz.underlying67
 a53:=Tryz.isAgg67
 z53:=Tryz.sizeOf67
 v53:=Tryz.zeroValue67
 t131:=Tryz.underlying217
 a131:=Tryz.isAgg217
 z131:=Tryz.sizeOf217
 v131:=Tryz.zeroValue217
 t182:=Tryz.underlying211
 a182:=Tryz.isAgg211
 z182:=Tryz.sizeOf211
 v182:=Tryz.zeroValue211
 t183:=Tryz.underlying212
 a183:=Tryz.isAgg212
 z183:=Tryz.sizeOf212
 v183:=Tryz.zeroValue212
 t218:=Tryz.underlying224
 a218:=Tryz.isAgg224
 z218:=Tryz.sizeOf224
 v218:=Tryz.zeroValue224
 t222:=Tryz.underlying228
 a222:=Tryz.isAgg228
 z222:=Tryz.sizeOf228
 v222:=Tryz.zeroValue228
 t228:=Tryz.underlying233
 a228:=Tryz.isAgg233
 z228:=Tryz.sizeOf233
 v228:=Tryz.zeroValue233
 t229:=Tryz.underlying234
 a229:=Tryz.isAgg234
 z229:=Tryz.sizeOf234
 v229:=Tryz.zeroValue234}
end Go.Proofs.YtploomncapiloaaGreatDoor
namespace Go.Proofs.YtploomncapiloaaGreatDoor
open Go.RowKit Croft Go.Sort
def srt (zs:List Int):List Int:=zs.mergeSort fun x y=>decide (x<=y)
theorem Q7a (zs:List Int):(srt zs).Perm zs:=List.mergeSort_perm _ _
theorem Q4p (zs:List Int):(srt zs).length=zs.length:=(Q7a zs).length_eq
theorem Q9q (zs:List Int):(srt zs).Pairwise (· <= ·):=by
 have h:=List.pairwise_mergeSort (le:=fun x y:Int=>decide (x<=y)) (by intro a b c;simp;omega) (by intro a b;simp;omega) zs
 exact h.imp (by intro a b h;simpa using h)
theorem Z6z (base:Nat) (v:Value) (zs:List Int) (w:World) (h:Q0j w base v zs):
  Calls Tryz.prog 170 #[v] w fun e w'=>e= .returned (.tuple #[])/\Q0j w' base v (srt zs)/\Below base w w':=by
 obtain ⟨h1,h2,h3⟩:=h
 rcases h1.2 with ⟨rfl,h0⟩|⟨g,cap,cur,rfl,hb,hg,hn,hc,hs,ht⟩
 ·obtain rfl:zs= []:=List.length_eq_zero_iff.1 h0
  refine (Any.slices_Sort_int_none Z9P none 0 w).mono fun e w' hh=> ?_
  obtain ⟨rfl,rfl⟩:=hh
  have e:srt []= []:=by simp [srt]
  rw [e]
  exact ⟨rfl,⟨h1,h2,h3⟩,Below.refl _ _⟩
 ·have hgs:g<w.heap.size:=(Array.getElem?_eq_some_iff.1 hg).1
  refine (Any.slices_Sort_int Z9P g 0 cap zs w (holds_of_blockI hg (by rw [<-Nat.mul_one zs.length,ht];rfl)) hgs (by omega)).mono fun e w' hh=> ?_
  obtain ⟨rfl,n,os,rfl⟩:=hh
  refine ⟨rfl,⟨?_,by rw [Q4p];exact h2,fun z hz=>h3 z ((Q7a zs).mem_iff.1 hz)⟩, ?_⟩
  ·have:=ownsRow_sortedI (n:=n) (os:=os) (ss:=zs) (ts:=srt zs) (Q4p zs) hb hg hn hc hs
   rw [Q4p]
   exact this
  ·obtain ⟨q1,q2,q3,q4,q5⟩:=grownBy_sortedI (w:=w) (g:=g) (n:=n) (os:=os) (srt zs).toArray
   exact ⟨q1,q2,q3,q4,fun k hk=>q5 k (by omega) (by simp;omega)⟩
end Go.Proofs.YtploomncapiloaaGreatDoor
namespace Go.Proofs.YtploomncapiloaaGreatDoor
open Go.RowKit Croft
theorem Q0V.take {w:World} {A:Option Addr} {len c:Nat} {l:List (Int×Int)} (h:Q0V w (.slice A len c) l) (k:Nat) (hk:k<=l.length):Q0V w (.slice A k c) (l.take k):=by
 obtain ⟨A1,c1,e1,e2,e3,e4,e5,e6⟩:=h
 injection e1 with e1a e1b e1c
 subst e1a e1b e1c
 have hl:(l.take k).length=k:=by simp;omega
 refine ⟨_,_,by rw [hl],by rw [hl];omega,e3,by rw [hl];omega,fun z hz=>e5 z (List.mem_of_mem_take hz), ?_⟩
 have e:shs (l.take k)=(shs l).take (k * 2):=by
  clear e2 e4 e5 e6 hl hk
  induction l generalizing k with
  |nil=>simp [shs]
  |cons s l ih=>
   cases k with
   |zero=>simp [shs]
   |succ k=>rw [List.take_succ_cons,Z2A,Z2A,ih k,show (k+1) * 2=k * 2+1+1 by omega,List.take_succ_cons,List.take_succ_cons]
 rw [e]
 exact e6.take _
def Q4i (Q:List F) (l:List (Int×Int)):List Int:=(l.filter fun s=>decide (Q0n Q (toF s.1)≠toF s.2)).map (·.1)
theorem Z4l {Q:List F} {l:List (Int×Int)} {k:Nat} {a y:Int} (h:l[k]? =some (a,y)):Q4i Q (l.take (k+1))=Q4i Q (l.take k)++(if Q0n Q (toF a)≠toF y then [a] else []):=by
 unfold Q4i
 rw [List.take_add_one,h,Option.toList_some,List.filter_append,List.map_append]
 congr 1
 by_cases hc:Q0n Q (toF a)=toF y
 ·simp [hc]
 ·simp [hc]
theorem Q5O (Q:List F) (l:List (Int×Int)):(Q4i Q l).length<=l.length:=by
 unfold Q4i
 rw [List.length_map]
 exact List.length_filter_le _ _
theorem Q5P (t:Int) (va:Value) (l:List (Int×Int)) (w:World) (h1:Q0V w va l):
  Calls Tryz.prog 81 #[.int .i64 t,va] w fun e w'=>e= .returned (.int .i64 (Q0T t l))/\ ∃n,w'=w.drewN n:=by
 have KA:=Qh h1
 obtain ⟨A1,c1,rfl,hc1,hm1,hl1,hu1,hr1⟩:=h1
 clear hu1 hr1 hm1
 go_enter Tryz.func81,Tryz.ntmps81
 go_wp2_with fail
 refine (Q1N t 0 4 _).mono ?_
 rintro e w' ⟨rfl,rfl⟩
 by_cases ht:0<=t/\t<=4
 ·have HE:=Qh (show Q0T t l=if Q3B (l.map (·.1))=true then if (l.length:Int)<t+1 then 4 else 0 else 5 from if_pos ht)
  have hd:decide (0<=t/\t<=4)=true:=decide_eq_true ht
  rw [hd]
  obtain ⟨ht1,ht2⟩:=ht
  clear hd
  try dsimp only
  go_wp2_with fail
  refine (Y2l _ _ 9 _ KA.out).mono ?_
  rintro e w' ⟨rfl,nd,rfl⟩
  by_cases hp:Q1P l 9
  ·have hpp:=Q5j.2 hp
   rw [show Y5z l 9=true from decide_eq_true hp]
   have HPP:=Qh hpp
   clear hp hpp
   try dsimp only
   by_cases hs:(l.length:Int)<t+1
   ·go_wp2_with fail
    go_ret
    exact ⟨by rw [HE.out,if_pos HPP.out,if_pos hs];rfl,_,rfl⟩
   ·go_wp2_with fail
    go_ret
    exact ⟨by rw [HE.out,if_pos HPP.out,if_neg (by omega)];rfl,_,rfl⟩
  ·rw [show Y5z l 9=false from decide_eq_false hp]
   have HPP:=Qh (fun hh=>hp (Q5j.1 hh))
   clear hp
   try dsimp only
   go_wp2_with fail
   go_ret
   exact ⟨by rw [HE.out,if_neg HPP.out];rfl,_,rfl⟩
 ·have HE:=Qh (show Q0T t l=1 from if_neg ht)
  rw [show decide (0<=t/\t<=4)=false from decide_eq_false ht]
  clear ht
  try dsimp only
  go_wp2_with fail
  go_ret
  exact ⟨by rw [HE.out];rfl,0,rfl⟩
theorem Z6A (t:Nat) (va:Value) (l:List (Int×Int)) (Q:List F) (w:World) (h1:Q0V w va l) (h9:l.length<=20) (ht:t+1<=l.length) (hok:Q1P (l.take (t+1)) 2147483646) (hat: ∀s∈l,0<=s.1) (hQ:Interp (Q2X (l.take (t+1))) Q):
  Calls Tryz.prog 129 #[.int .i64 t,va] w fun e w'=> ∃vp vb,e= .returned (.tuple #[vp,vb])/\Q0c w' w.heap.size vp (Q0g Q)/\Q0j w' w.heap.size vb (srt (Q4i Q l))/\Below w.heap.size w w':=by
 have KA:=Qh h1
 have HQ:=Qh hQ
 have HOK:=Qh hok
 have HAT:=Qh hat
 suffices hgoal: ∀Post:Ending->World->Prop,(∀e w',(∃vp vb,e= .returned (.tuple #[vp,vb])/\Q0c w' w.heap.size vp (Q0g Q)/\Q0j w' w.heap.size vb (srt (Q4i Q l))/\Below w.heap.size w w')->Post e w')->Calls Tryz.prog 129 #[.int .i64 t,va] w Post from hgoal _ fun e w' h=>h
 intro Post hpo
 have HP:=Qh hpo
 obtain ⟨A1,c1,rfl,hc1,hm1,hl1,hu1,hr1⟩:=h1
 have HT:=Qh (KA.out.take (t+1) ht)
 have htl:(l.take (t+1)).length<=40:=by rw [List.length_take];omega
 have HTL:=Qh htl
 clear hu1 hr1 hm1 hpo hQ hok hat htl
 go_enter Tryz.func129,Tryz.ntmps129
 go_wp2_with fail
 refine (Q9p _ _ _ HT.out HTL.out HOK.out).mono ?_
 rintro e W1 ⟨vT,Q1,rfl,hQ1,ho,hb⟩
 obtain rfl:=HQ.out.unique (Q2v HOK.out) hQ1
 have KQ0:=Qh ho
 have B1:=Qh hb
 have hs1:=hb.size
 clear ho hb hQ1
 try dsimp only
 go_wp2_with fail
 go_loopw [7,8] (fun v i wr=> ∃k:Nat,k<=l.length/\i= .int .i64 k/\Q0j wr W1.heap.size v (Q4i Q (l.take k))/\Below W1.heap.size W1 wr) (fun _ i _=>l.length - (intOf i).toNat)
 case atStart=>exact ⟨0,Nat.zero_le _,rfl,Q0j.nil _ _,Below.refl _ _⟩
 case round=>
  obtain ⟨k,hk,rfl,hown,hbel⟩:=hrel
  have KO:=Qh hown
  have BEL:=Qh hbel
  have hsz:=hbel.size
  clear hown hbel
  by_cases hlt:k<l.length
  ·have KQ:=Qh (KQ0.out.is.below (Q0b (Below.refl _ _) BEL.out (Nat.le_refl _)))
   obtain ⟨A,c,hA,_,_,_,hu,hr⟩:=KA.out.below (Q0b B1.out BEL.out B1.out.size)
   injection hA with hA1 hA2 hA3
   subst hA1 hA3
   clear hA2
   obtain ⟨b1,o1,at_,y,rfl,hb1,hgk,hat,huy,hca,hcb⟩:=Q2S hr hu hlt
   have HBN:=Qh (Z4l (Q:=Q) hgk)
   have HBL:=Qh (Nat.le_trans (Q5O Q (l.take k)) (by rw [List.length_take];exact Nat.min_le_left _ _))
   have hat0:=HAT.out _ (List.mem_of_getElem? hgk)
   have hua:U64 at_:=⟨hat0,by have:=hat.2;dsimp only at this hat0;omega⟩
   have HUA:=Qh hua
   have HUY:=Qh huy
   have HI:=Qh hat
   have hwa:IntKind.u64.wrap at_=at_:=by
    rw [IntKind.wrap_u64];exact Int.emod_eq_of_lt hua.1 (by have:=hua.2;omega)
   clear hr hu hgk hb1 hat0 hua huy hat
   go_wp2_with fail
   go_quiet ((first|exact Q1b (Q8a _ _ _ _ KQ.out HUA.out)|exact Q1b (Q1i _ _ HUY.out)))
   rw [Q0A]
   have hrc: ∃wo,wo=wr.drewN nq:=⟨_,rfl⟩
   obtain ⟨wo,hwo⟩:=hrc
   have KO2:=Qh (KO.out.drewN nq)
   have BEL2:=Qh (below_drewN BEL.out nq)
   have hsz2:W1.heap.size<=wo.heap.size:=by rw [hwo];exact hsz
   replace hca:wo.cell? ⟨b1,o1+k * 2,none⟩=some (.int .i64 at_):=by rw [hwo];exact hca
   rw [<-hwo] at KO2 BEL2⊢
   clear hwo hcb KO BEL
   by_cases hc:Q0n Q (toF at_)=toF y
   ·have hbe:(ofF (Q0n Q (toF at_)) !=ofF (toF y))=false:=by rw [hc];simp
    have HBM:=Qh (show Q4i Q (l.take (k+1))=Q4i Q (l.take k) by rw [HBN.out,if_neg (by simp [hc]),List.append_nil])
    clear hc HBN
    go_wp2_with fail
    exact ⟨⟨k+1,by omega,by go_num,by rw [HBM.out];exact KO2.out,BEL2.out⟩,by simp [intOf]<;>omega⟩
   ·have hbe:(ofF (Q0n Q (toF at_)) !=ofF (toF y))=true:=by rw [bne_iff_ne];exact fun h=>hc (Q5x h)
    have HBM:=Qh (show Q4i Q (l.take (k+1))=Q4i Q (l.take k)++ [at_] by rw [HBN.out,if_pos hc])
    clear hc HBN
    go_wp2_with (at_builtin;go_loud (refine Q1M rfl _ _ rfl W1.heap.size _ _ at_ wo.heap.size 1 rfl (KO2.out.alloc _) rfl (Q0o _ _ _) HI.out (by have:=HBL.out;omega) (by rw [size_alloc];omega) ?_))
    intro v' w5 hown' hbel'
    rw [<-HBM.out] at hown'
    have K5:=Qh hown'
    have B5:=Qh ((BEL2.out.alloc hsz2 (.cells #[.int .i64 at_] 3)).trans hbel')
    clear hown' hbel'
    go_wp2_with fail
    exact ⟨⟨k+1,by omega,by go_num,K5.out,B5.out⟩,by simp [intOf]<;>omega⟩
  ·obtain rfl:l.length=k:=by omega
   have HTE:=Qh (show l.take l.length=l from List.take_of_length_le (Nat.le_refl _))
   rw [HTE.out] at KO
   go_wp2_with fail
   refine (Z6z _ _ _ _ KO.out).mono ?_
   rintro e W8 ⟨rfl,ho,hb⟩
   have KS:=Qh ho
   have B8:=Qh (BEL.out.trans hb)
   clear ho hb
   try dsimp only
   go_wp2_with fail
   exact HP.out _ _ ⟨_,_,rfl,KQ0.out.below B8.out,KS.out.less hs1,Q0b B1.out B8.out hs1⟩
theorem Y2Q {t:Nat} {l:List (Int×Int)} {Q Q1:List F} (hok:Q1P l 2147483646) (ht:t+1<=l.length) (hQ:Interp (Q2X l) Q) (hQ1:Interp (Q2X (l.take (t+1))) Q1):Q4i Q1 l= []↔ ¬(t+1<Q.length):=by
 have hsub: ∀p∈Q2X (l.take (t+1)),p∈Q2X l:=by
  intro p hp
  unfold Q2X at hp⊢
  obtain ⟨s,hs,rfl⟩:=List.mem_map.1 hp
  exact List.mem_map.2 ⟨s,List.mem_of_mem_take hs,rfl⟩
 have hlen:(Q2X (l.take (t+1))).length=t+1:=by simp [Q2X];omega
 have hl2:(Q2X l).length=l.length:=by simp [Q2X]
 constructor
 ·intro hb hlt
  have hI:Interp (Q2X l) Q1:=by
   refine ⟨hQ1.1,by have:=hQ1.2.1;omega,fun p hp=> ?_⟩
   unfold Q2X at hp
   obtain ⟨s,hs,rfl⟩:=List.mem_map.1 hp
   refine Classical.byContradiction fun hne=> ?_
   have:s.1∈Q4i Q1 l:=by
    unfold Q4i
    exact List.mem_map.2 ⟨s,List.mem_filter.2 ⟨hs,by simpa using hne⟩,rfl⟩
   rw [hb] at this
   simp at this
  have:=hQ.unique (Q2v hok) hI
  subst this
  have:=hQ1.2.1
  omega
 ·intro hlt
  have hI:Interp (Q2X (l.take (t+1))) Q:=⟨hQ.1,by omega,fun p hp=>hQ.2.2 p (hsub p hp)⟩
  have:=hI.unique (Q2v (Q3F _ hok)) hQ1
  subst this
  unfold Q4i
  rw [List.map_eq_nil_iff,List.filter_eq_nil_iff]
  intro s hs
  have:=hQ.2.2 (toF s.1,toF s.2) (List.mem_map.2 ⟨s,hs,rfl⟩)
  simpa using this
theorem Y2R (t:Int) (va:Value) (l:List (Int×Int)) (Q:List F) (w:World) (h1:Q0V w va l) (h:Q0T t l=0) (hQ:Interp (Q2X l) Q):
  Calls Tryz.prog 137 #[.int .i64 t,va] w fun e w'=>Y4c w e w' (Q9z t Q) (Q9A t Q):=by
 have KA:=Qh h1
 obtain ⟨⟨ht1,ht2⟩,hok,hlen⟩:=Q1V.1 h
 have HE:=Qh h
 obtain ⟨T,rfl⟩:=Int.eq_ofNat_of_zero_le ht1
 obtain ⟨Q1,hQ1⟩:=Z3X (Q2v (Q3F (T+1) hok.more))
 have HN:=Qh (Y2Q hok.more (by omega) hQ hQ1)
 have HQ1:=Qh hQ1
 have HOK:=Qh hok
 have HQ:=Qh hQ
 have hln9:=hok.few
 clear h h1 hok hQ1 hQ ht1
 go_enter Tryz.func137,Tryz.ntmps137
 go_wp2_with fail
 refine (Q5P _ _ _ _ KA.out).mono ?_
 rintro e w' ⟨rfl,nd,rfl⟩
 rw [HE.out]
 replace KA:=Qh (KA.out.drewn (n:=nd) rfl)
 try dsimp only
 go_wp2_with fail
 refine (Z6A T _ _ Q1 _ KA.out (by omega) (by omega) (Q3F _ HOK.out.more) (fun s hs=>by have:=(HOK.out.1 s hs).1;omega) HQ1.out).mono ?_
 rintro e W1 ⟨vp,vb,rfl,hop,hob,hb⟩
 have KP:=Qh hop.is
 have BEL:=Qh ((below_drewN (Below.refl w.heap.size w) nd).trans hb)
 obtain ⟨A,c,hv,_,_⟩:=Q0k hob.1
 rw [Q4p] at hv
 subst hv
 have hbl:=Nat.le_trans (Q5O Q1 l) hln9
 obtain ⟨bn,hbn⟩: ∃bn,bn=(Q4i Q1 l).length:=⟨_,rfl⟩
 have HBN:=Qh (show 0<bn↔T+1<Q.length by
  rw [hbn]
  have h:=HN.out
  constructor
  ·intro h0
   refine Classical.byContradiction fun hc=> ?_
   rw [h.2 hc] at h0
   simp at h0
  ·intro h0
   refine Nat.pos_of_ne_zero fun hc=> ?_
   exact absurd h0 (h.1 (List.length_eq_zero_iff.1 hc)))
 rw [<-hbn] at hbl⊢
 clear hbn hob hop hb HN
 try dsimp only
 by_cases hbig:0<bn
 ·have HX:=Qh (show Q9z T Q=0 from if_pos (by have:=HBN.out.1 hbig;omega))
  have HEE:=Qh (show Q9A T Q=6 from if_pos (by have:=HBN.out.1 hbig;omega))
  go_wp2_with fail
  go_ret2
  exact ⟨by rw [HX.out,HEE.out];rfl,BEL.out⟩
 ·have hq: ¬(T+1<Q.length):=fun hh=>hbig (HBN.out.2 hh)
  have HX:=Qh (show Q9z T Q=ofF (Q0n Q 0) from if_neg (by omega))
  have HEE:=Qh (show Q9A T Q=0 from if_neg (by omega))
  have hqq:Q1=Q:=by
   have hI:Interp (Q2X (l.take (T+1))) Q:=⟨HQ.out.1,by simp [Q2X];omega,fun p hp=>HQ.out.2.2 p (by
    unfold Q2X at hp⊢
    obtain ⟨s,hs,rfl⟩:=List.mem_map.1 hp
    exact List.mem_map.2 ⟨s,List.mem_of_mem_take hs,rfl⟩)⟩
   exact HQ1.out.unique (Q2v (Q3F _ HOK.out.more)) hI
  subst hqq
  clear hq
  go_wp2_with fail
  refine (Q8a _ _ _ _ KP.out (show U64 0 from ⟨by omega,by omega⟩)).mono ?_
  rintro e w' ⟨rfl,rfl⟩
  rw [Q0A,Q1G]
  try dsimp only
  go_wp2_with fail
  go_ret2
  exact ⟨by rw [HX.out,HEE.out];rfl,BEL.out⟩
theorem Z9Q (secret:Int) (vd:Value) (ds:List Int) (n:Int) (w:World) (h1:Q0h w vd ds) (h: ¬Z0D ds n):
  Calls Tryz.prog 37 #[.int .u64 secret,vd,.int .i64 n] w fun e w'=>Q1o w e w' [] 1:=by
 obtain ⟨A1,c1,rfl,hc1,hm1,hl1,hu1,hr1⟩:=h1
 unfold Z0D at h
 clear hu1 hr1 hm1
 by_cases k1:(ds.length:Int)>4
 ·clear h
  go_enter Tryz.func37,Tryz.ntmps37
  go_wp2_with fail
  go_ret2
  exact ⟨_,rfl,Q0c.nil _ _,Below.refl _ _⟩
 ·have hb:decide ((ds.length:Int)+1<=n/\n<=9)=false:=decide_eq_false (by omega)
  clear h
  go_enter Tryz.func37,Tryz.ntmps37
  go_wp2_with fail
  refine (Q1N n ((ds.length:Int)+1) 9 _).mono ?_
  rintro e w' ⟨rfl,rfl⟩
  rw [hb]
  try dsimp only
  go_wp2_with fail
  go_ret2
  exact ⟨_,rfl,Q0c.nil _ _,Below.refl _ _⟩
theorem Y2S (secret:Int) (vd:Value) (ds:List Int) (n:Nat) (w:World) (hs:U64 secret) (h1:Q0h w vd ds) (hd:ds.length<=4) (hn1:ds.length+1<=n) (hn2:n<=9):
  Calls Tryz.prog 37 #[.int .u64 secret,vd,.int .i64 n] w fun e w'=>Q1o w e w' (Q0g (Q4D n (Q0f (secret::ds)))) 0:=by
 have KD:=Qh h1
 obtain ⟨A1,c1,rfl,hc1,hm1,hl1,hu1,hr1⟩:=h1
 clear hu1 hr1 hm1
 have hb:decide ((ds.length:Int)+1<=(n:Int)/\(n:Int)<=9)=true:=decide_eq_true (by omega)
 go_enter Tryz.func37,Tryz.ntmps37
 go_wp2_with fail
 refine (Q1N (n:Int) ((ds.length:Int)+1) 9 _).mono ?_
 rintro e w' ⟨rfl,rfl⟩
 rw [hb]
 try dsimp only
 go_wp2_with fail
 refine (Q6Y _ _ _ _ _ hs KD.out (by omega) hn2).mono ?_
 rintro e W1 ⟨v,rfl,ho,hb⟩
 have KO:=Qh ho
 have BEL:=Qh hb
 clear ho hb
 try dsimp only
 go_wp2_with fail
 go_ret2
 exact ⟨_,rfl,KO.out,BEL.out⟩
def Z2U (w:World) (e:Ending) (w':World) (l:List Int) (g:List (List Int)):Prop:=
 ∃v vg vs,e= .returned (.tuple #[v,vg])/\Q0c w' w.heap.size v l/\Q1W w' w.heap.size vg vs g/\Below w.heap.size w w'
theorem Z9R (n T:Nat) (va vb vd:Value) (xs ys ds:List Int) (w:World) (h1:Q0h w va xs) (h2:Q0h w vb ys) (h3:Q0h w vd ds) (hx:xs.length=n) (hy:ys.length=n) (hd:ds.length=n * T) (hT:T<=4) (hn1:1<=n) (hn2:n<=9):
  Calls Tryz.prog 136 #[.int .i64 T,va,vb,vd] w fun e w'=>Z2U w e w' (Q0g (Q2d n T (Q0f xs) (Q0f ys) (Q0f ds))) ((Q9k n T (Q0f xs) (Q0f ys) (Q0f ds)).map Q0g):=by
 have KX:=Qh h1
 have KY:=Qh h2
 have KD:=Qh h3
 have HXL:=Qh hx
 have HYL:=Qh hy
 have HDL:=Qh hd
 obtain ⟨A1,c1,rfl,hc1,hm1,hl1,hu1,hr1⟩:=h1
 obtain ⟨A2,c2,rfl,hc2,hm2,hl2,hu2,hr2⟩:=h2
 obtain ⟨A3,c3,rfl,hc3,hm3,hl3,hu3,hr3⟩:=h3
 clear hu1 hr1 hm1 hu2 hr2 hm2 hu3 hr3
 unfold maxLen at hm3
 rw [hx] at KX hc1 hl1⊢
 rw [hy] at KY hc2 hl2⊢
 rw [hd] at KD hc3 hl3⊢
 clear hx hy hd
 have hnT:n * T<=36:=Nat.mul_le_mul hn2 hT
 obtain ⟨f,hf⟩: ∃f,f=Q9l T (Q0f xs) (Q0f ys) (Q0f ds):=⟨_,rfl⟩
 have HF:=Qh hf
 have HFU:=Qh (show∀i q,U64 (f i q) from fun i q=>by rw [hf];exact U64.of_ofF _)
 clear hf
 suffices hgoal: ∀Post:Ending->World->Prop,(∀e w',Z2U w e w' (Q0g (Q2d n T (Q0f xs) (Q0f ys) (Q0f ds))) ((Q9k n T (Q0f xs) (Q0f ys) (Q0f ds)).map Q0g)->Post e w')->Calls Tryz.prog 136 #[.int .i64 T,.slice A1 n c1,.slice A2 n c2,.slice A3 (n * T) c3] w Post from hgoal _ fun e w' h=>h
 intro Post hp
 have HP:=Qh hp
 clear hp
 go_enter Tryz.func136,Tryz.ntmps136
 go_wp2_with (refine Q4a rfl _ _ rfl w.heap.size _ n rfl rfl rfl (by omega) (Nat.le_refl _) ?_)
 intro W1 hgr hb
 have KG:=Qh (show Q1W W1 w.heap.size (.slice (some ⟨w.heap.size,0,none⟩) n n) (List.replicate n (.slice none 0 0)) (Q4w n f 0 0) from by
  rw [Z0F];exact hgr)
 have BEL:=Qh hb
 clear hgr hb
 go_wp2_with fail
 go_loopw [12,13] (fun v i wr=> ∃(k:Nat) (vs:List Value),k<=n/\i= .int .i64 k/\Q0j wr w.heap.size v (Z1s k)/\Q1W wr w.heap.size (.slice (some ⟨w.heap.size,0,none⟩) n n) vs (Q4w n f k 0)/\Below w.heap.size w wr) (fun _ i _=>n - (intOf i).toNat)
 case atStart=>exact ⟨0,_,Nat.zero_le _,rfl,Q0j.nil _ _,KG.out,BEL.out⟩
 case round=>
  obtain ⟨k,vs,hk,rfl,hown,hgr,hbel⟩:=hrel
  have KA:=Qh hown
  have hsz:=hbel.size
  have hgsz:=(hgr.outer.lt w.heap.size rfl).2
  clear KG BEL
  have KG:=Qh hgr
  have BEL:=Qh hbel
  clear hown hgr hbel
  by_cases hlt:k<n
  ·have hdk:decide ((k:Int)<(n:Int))=true:=by simp;omega
   go_wp2_with (at_builtin;go_loud (refine Q3p rfl _ _ rfl w.heap.size _ (Z1s k) ((k:Int)+1) wr.heap.size 1 rfl (KA.out.alloc _) rfl (Q0o _ _ _) (by unfold I64;omega) (by rw [Q2w];omega) (by rw [size_alloc];omega) ?_))
   intro v13 w5 ho5 hb5 hg5
   rw [<-Z3Y] at ho5
   have KG5:=Qh ((KG.out.alloc (.cells #[.int .i64 ((k:Int)+1)] 3)).apart_kept (KA.out.alloc (.cells #[.int .i64 ((k:Int)+1)] 3)).1 (by decide) (by decide) hg5)
   have KA5:=Qh ho5
   have B5:=Qh ((BEL.out.alloc hsz (.cells #[.int .i64 ((k:Int)+1)] 3)).trans hb5)
   have hsz5:=B5.out.size
   have hgsz5:=(KG5.out.outer.lt w.heap.size rfl).2
   clear ho5 hb5 hg5 KA KG BEL
   have KX5:=Qh (KX.out.below B5.out)
   have KY5:=Qh (KY.out.below B5.out)
   have KD5:=Qh (KD.out.below B5.out)
   obtain ⟨A,c,hA,_,_,_,hux,hrx⟩:=KX5.out
   injection hA with hA1 hA2 hA3
   subst hA1 hA3
   clear hA2
   obtain ⟨bx,ox,x,rfl,hbx,hgx,hx64,hcx⟩:=Q0O hrx hux (k:=k) (by rw [HXL.out];exact hlt)
   obtain ⟨A,c,hA,_,_,_,huy,hry⟩:=KY5.out
   injection hA with hA1 hA2 hA3
   subst hA1 hA3
   clear hA2
   obtain ⟨by_,oy,y,rfl,hby,hgy,hy64,hcy⟩:=Q0O hry huy (k:=k) (by rw [HYL.out];exact hlt)
   have hbx':=hbx
   have hby':=hby
   have HGX:=Qh (Q1n hgx)
   have HGY:=Qh (Q1n hgy)
   clear hux hrx huy hry hgx hgy hbx hby
   have hk1:(k+1) * T<=n * T:=Nat.mul_le_mul hlt (Nat.le_refl _)
   have hk2:(k+1) * T=k * T+T:=Nat.succ_mul k T
   have e1:(k:Int) * (T:Int)=((k * T:Nat):Int):=by simp
   have e2:(k:Int) * (T:Int)+(T:Int)=((k * T+T:Nat):Int):=by simp
   have hw2:IntKind.i64.wrap ((k:Int) * (T:Int))=(k:Int) * (T:Int):=IntWalk.i64_in _ (by rw [e1];omega)
   have hw3:IntKind.i64.wrap ((k:Int) * (T:Int)+(T:Int))=(k:Int) * (T:Int)+(T:Int):=IntWalk.i64_in _ (by rw [e2];omega)
   have hsl:=Q5l A3 (n * T) c3 (k * T) (k * T+T) _ _ e1 e2 (by omega) (by omega)
   have hcut:=KD5.out.cut (k * T) (k * T+T) (by omega) (by rw [HDL.out];omega)
   rw [show k * T+T - k * T=T by omega] at hsl hcut
   obtain ⟨vc,hvc⟩: ∃vc,vc=Value.slice (if c3=k * T then A3 else A3.map (·.add (k * T * 1))) T (c3 - k * T):=⟨_,rfl⟩
   rw [<-hvc] at hsl hcut
   have HCL:=Qh (show ((ds.drop (k * T)).take T).length=T by simp;rw [HDL.out];omega)
   have HCUT:=Qh hcut
   have BD1:=Qh (below_drewN (Below.refl w5.heap.size w5) 1)
   have HCUT1:=Qh (HCUT.out.below BD1.out)
   clear hcut hvc e1 e2 hk1 hk2
   go_wp2_with fail
   go_region_held3 (fun w'=>w'.cell? ⟨bx,ox+k,none⟩=some (.int .u64 x)/\w'.cell? ⟨by_,oy+k,none⟩=some (.int .u64 y)) (go_keep) (first|(go_at_call 168;refine (Q3k _ _ _ hx64 hy64).mono ?_;rintro e w' ⟨rfl,rfl⟩)|(go_at_call 80;refine (Q6Y _ _ _ n _ (U64.of_ofF _) HCUT1.out (by rw [HCL.out];omega) hn2).mono ?_;rintro e w6 ⟨vl,rfl,ho6,hb6⟩;have q0:=(hb6.cell (p:=⟨bx,ox+k,none⟩) hbx').trans hcx;have q1:=(hb6.cell (p:=⟨by_,oy+k,none⟩) hby').trans hcy))
   have hb6':=Q0b BD1.out hb6 BD1.out.size
   obtain ⟨dl,hdl⟩: ∃dl,dl=Q0g (Q4D n (Q0f (ofF (toF x * toF y)::(ds.drop (k * T)).take T))):=⟨_,rfl⟩
   rw [<-hdl] at ho6
   have HDLn:=Qh (show dl.length=n by rw [hdl,Q0d,Q0K])
   have HDG:=Qh (show∀q,q<n->dl[q]? =some (f k q) from fun q hq=>by
    rw [hdl]
    unfold Q0g
    rw [List.getElem?_map,Q2r (by rw [Q0K];exact hq),Q5d _ hq,HF.out]
    show some (ofF _)=some (Q9l T (Q0f xs) (Q0f ys) (Q0f ds) k q)
    unfold Q9l
    rw [HGX.out,HGY.out,<-Z2m]
    simp [Q0f,Q0m])
   have KG6:=Qh (KG5.out.below hb6')
   have KA6:=Qh (KA5.out.below hb6')
   have B6:=Qh (Q0b B5.out hb6' hsz5)
   have KDL:=Qh ho6
   obtain ⟨gd,cd,hv,hgd1,hgd2⟩:=Q1s ho6.1 (by rw [HDLn.out];omega)
   rw [HDLn.out] at hv
   subst hv
   have H0:=Qh (show∀(q:Nat) (u:Value) (b:Nat),vs[q]? =some u->u.ownBlock=some b->b<gd from fun q u b hu hub=>by
    have hq:=(List.getElem?_eq_some_iff.1 hu).1
    rw [KG5.out.vlen] at hq
    have:=((KG5.out.row q u _ hu (List.getElem?_eq_getElem hq)).1.lt b hub).2
    exact Nat.lt_of_lt_of_le this hgd1)
   have hgg:w.heap.size<gd:=Nat.lt_of_lt_of_le hgsz5 hgd1
   clear ho6 hb6 hb6' hdl q0 q1 hsl hw2 hw3 hcx hcy KG5 KA5 B5 KX5 KY5 KD5 HCUT HCUT1 BD1 hgd1 hgd2 hbx' hby'
   go_wp2_with fail
   obtain ⟨w6',hw6'⟩: ∃w6',w6'=w6:=⟨_,rfl⟩
   subst hw6'
   go_loopw [15] (fun i wr=> ∃(j:Nat) (us:List Value),j<=n/\i= .int .i64 j/\Q1W wr w.heap.size (.slice (some ⟨w.heap.size,0,none⟩) n n) us (Q4w n f k j)/\(∀q,j<=q->us[q]? =vs[q]?)/\Q0c wr 0 (.slice (some ⟨gd,0,none⟩) n cd) dl/\Q0j wr w.heap.size v13 (Z1s (k+1))/\Below w.heap.size w wr) (fun i _=>n - (intOf i).toNat)
   case atStart=>exact ⟨0,vs,Nat.zero_le _,rfl,KG6.out,fun _ _=>rfl,KDL.out.less (Nat.zero_le _),KA6.out,B6.out⟩
   case round=>
    obtain ⟨j,us,hj,rfl,hgr,hus,hdl,hats,hbel⟩:=hrel
    clear KG6 KDL KA6 B6
    have KG:=Qh hgr
    have HUS:=Qh hus
    have KDL:=Qh hdl
    have KA:=Qh hats
    have BEL:=Qh hbel
    have hsz:=hbel.size
    have hgsz:=(hgr.outer.lt w.heap.size rfl).2
    clear hgr hus hdl hats hbel
    by_cases hlt2:j<n
    ·have hdj:decide ((j:Int)<(n:Int))=true:=by simp;omega
     have hcd:=KDL.out.cell (HDG.out j hlt2)
     obtain ⟨vj,hvj⟩: ∃vj,us[j]? =some vj:=⟨_,List.getElem?_eq_getElem (by rw [KG.out.vlen,Q3d];exact hlt2)⟩
     have hcg:=KG.out.cell hvj
     have HVJ:=Qh hvj
     have HFR:=Qh (Z6u (k:=k) f hlt2)
     clear hvj
     go_wp2_with fail
     have hne1:(Value.slice (some ⟨gd,0,none⟩) n cd).ownBlock≠vj.ownBlock:=fun e=>by
      have:=H0.out j vj gd ((HUS.out j (Nat.le_refl _)).symm.trans HVJ.out) e.symm
      omega
     go_region_law ((refine Z1G rfl _ _ (by rfl) w.heap.size w.heap.size n n j vj us (Q4w n f k j) (Z8A f k j) (f k j) _ 1 (by rfl) (KG.out.drewN 1|>.alloc _) HVJ.out HFR.out (by rfl) (Q0o _ _ _) (HFU.out k j) (by rw [Q3J];omega) (by simp;omega) ?_;intro bb cap w7 hc7 hf7 hg7 hb7 hgr7))
     all_goals
      rw [Z3Z f hlt2,Q3J] at hg7
      try rw [Q3J]
      obtain ⟨A,hA⟩: ∃A:Option Addr,A=some ⟨bb,0,none⟩:=⟨_,rfl⟩
      rw [<-hA] at hg7⊢
      clear hA
      have K7:=Qh ((((KDL.out.drewN 1).alloc (.cells #[.int .u64 (f k j)] 67)).kept hgr7 (.inr hne1)).kept (Q0F w7 w.heap.size j (.slice A (k+1) cap)) (.inr (by intro e;simp [Value.ownBlock] at e;omega)))
      have KAa:=(KA.out.drewN 1).alloc (.cells #[.int .u64 (f k j)] 67)
      have KGa:=(KG.out.drewN 1).alloc (.cells #[.int .u64 (f k j)] 67)
      have hrow:=(KGa.row j vj _ HVJ.out HFR.out).1
      have hA7:Q0j w7 w.heap.size v13 (Z1s (k+1)):=⟨Q2l KAa.1 hrow (by decide) hgr7,KAa.2⟩
      have hout7:=KGa.outer.kept hgr7 (.inr (fun e=>Q0W hrow KGa.outer (by decide) e.symm rfl))
      have A7:=Qh (show Q0j (w7.setCell ⟨w.heap.size,j,none⟩ (.slice A (k+1) cap)) w.heap.size v13 (Z1s (k+1)) from ⟨Q2l hA7.1 hout7 (by decide) (Q0F w7 w.heap.size j (.slice A (k+1) cap)),hA7.2⟩)
      have B7:=Qh ((((below_drewN BEL.out 1).alloc hsz (.cells #[.int .u64 (f k j)] 67)).trans hb7).setCell (p:=⟨w.heap.size,j,none⟩) (Nat.le_refl _) (.slice A (k+1) cap))
      have G7:=Qh hg7
      clear hg7 hb7 hgr7 hne1 KAa KGa hrow hA7 hout7 hcd hcg
      go_wp2_with fail
      refine ⟨⟨j+1,us.set j (.slice A (k+1) cap),by omega,by go_num,G7.out,fun q hq=> ?_,K7.out,A7.out,B7.out⟩,by simp [intOf]<;>omega⟩
      rw [List.getElem?_set_ne (by omega)]
      exact HUS.out q (by omega)
    ·obtain rfl:n=j:=by omega
     have KG2:=Qh (show Q1W wr w.heap.size (.slice (some ⟨w.heap.size,0,none⟩) n n) us (Q4w n f (k+1) 0) by rw [<-Z4a];exact KG.out)
     clear KG
     go_wp2_with fail
     exact ⟨⟨k+1,us,by omega,by go_num,KA.out,KG2.out,BEL.out⟩,by simp [intOf]<;>omega⟩
  ·obtain rfl:n=k:=by omega
   go_wp2_with fail
   refine (Z4k _ _ _ KA.out.is (Q8W hn2) (by rw [Q2w];omega)).mono ?_
   rintro e W8 ⟨vw,rfl,hw,hb8⟩
   rw [Q2w,Z9x] at hw
   have BEL8:=Q0b BEL.out hb8 hsz
   have KG8:=KG.out.below hb8
   rw [HF.out,Z4b] at KG8
   obtain ⟨G,hG⟩: ∃G,G=Q9k n T (Q0f xs) (Q0f ys) (Q0f ds):=⟨_,rfl⟩
   have HMO:=Qh (show Q2d n T (Q0f xs) (Q0f ys) (Q0f ds)=G.map (Q4F n) by rw [hG];rfl)
   have HGL:=Qh (show G.length=n by rw [hG];simp [Q9k])
   have HGR:=Qh (show∀r∈G,r.length=n from fun r hr=>by
    rw [hG] at hr
    unfold Q9k at hr
    obtain ⟨j,_,rfl⟩:=List.mem_map.1 hr
    simp)
   rw [<-hG] at KG8
   replace HP:=Qh (show∀e w',Z2U w e w' (Q0g (G.map (Q4F n))) (G.map Q0g)->Post e w' from fun e w' h=>HP.out e w' (by rw [HMO.out,<-hG];exact h))
   replace KG:=Qh KG8
   replace BEL:=Qh BEL8
   have KW:=Qh (hw.less (Nat.zero_le _))
   obtain ⟨gw,cw,hv,hgw1,hgw2⟩:=Q1s hw.1 (by rw [Q0d];simp [wts];omega)
   rw [Q0d,show (wts n).length=n by simp [wts]] at hv
   subst hv
   clear hw hb8 BEL8 KG8 hG KA HMO HF hgw1 hgw2 hsz hgsz
   try dsimp only
   go_wp2_with fail
   obtain ⟨w8',hw8'⟩: ∃w8',w8'=W8:=⟨_,rfl⟩
   subst hw8'
   go_loopw [17,18] (fun v i wr=> ∃q:Nat,q<=n/\i= .int .i64 q/\Q0c wr w8'.heap.size v (Q0g ((G.map (Q4F n)).take q))/\Below w8'.heap.size w8' wr) (fun _ i _=>n - (intOf i).toNat)
   case atStart=>exact ⟨0,Nat.zero_le _,rfl,Q0c.nil _ _,Below.refl _ _⟩
   case round=>
    obtain ⟨q,hq,rfl,hown,hbel⟩:=hrel
    have KO:=Qh hown
    have B9:=Qh hbel
    have hsz9:=hbel.size
    clear hown hbel
    by_cases hlt3:q<n
    ·have KGr:=KG.out.below B9.out
     have KWr:=Qh (KW.out.below B9.out)
     obtain ⟨row,hrow⟩: ∃row,G[q]? =some row:=⟨_,List.getElem?_eq_getElem (by rw [HGL.out];exact hlt3)⟩
     have hrl:=HGR.out row (List.mem_of_getElem? hrow)
     obtain ⟨br,cr,hvr,hor,_,_,_,_⟩:=KGr.at_ (i:=q) (r:=Q0g row) (by rw [List.getElem?_map,hrow];rfl) (by rw [Q0d,hrl];omega)
     rw [Q0d,hrl] at hvr hor
     have HVR:=Qh hvr
     have HKG:=Qh KGr
     have KR:=Qh hor
     have HT:=Qh (show Q0g ((G.map (Q4F n)).take (q+1))=Q0g ((G.map (Q4F n)).take q)++ [ofF (Q4F n row)] by rw [List.take_add_one,List.getElem?_map,hrow];simp [Q0g])
     have HTL:=Qh (show (Q0g ((G.map (Q4F n)).take q)).length<=9 by rw [Q0d,List.length_take];omega)
     have HRL:=Qh hrl
     have hdq:decide ((q:Int)<(n:Int))=true:=by simp;omega
     clear KGr hvr hor hrow hrl
     go_wp2_with fail
     obtain ⟨wo,hwo⟩: ∃wo,wo=wr:=⟨_,rfl⟩
     subst hwo
     go_loopw [19,20] (fun s i wq=> ∃p m:Nat,p<=n/\i= .int .i64 p/\s= .int .u64 (ofF (Q1r p fun i=>co (wts n) i * co row i))/\wq=wo.drewN m) (fun _ i _=>n - (intOf i).toNat)
     case atStart=>exact ⟨0,0,Nat.zero_le _,rfl,rfl,rfl⟩
     case round=>
      obtain ⟨p,m,hp,rfl,rfl,hwm⟩:=hrel
      have HWM:=Qh hwm
      clear hwm
      by_cases hlt4:p<n
      ·have KWq:Q0c wr 0 _ _:=HWM.out▸KWr.out.drewN m
       have KRq:Q0c wr w.heap.size _ _:=HWM.out▸KR.out.drewN m
       have KGq:Q1W wr w.heap.size _ _ _:=HWM.out▸HKG.out.drewN m
       have hc0:=KGq.cell HVR.out
       have hc1:=KWq.cell (j:=p) (z:=ofF (co (wts n) p)) (Q1H (Q2r (by simp [wts];exact hlt4)))
       have hc2:=KRq.cell (j:=p) (z:=ofF (co row p)) (Q1H (Q2r (by rw [HRL.out];exact hlt4)))
       have hdp:decide ((p:Int)<(n:Int))=true:=by simp;omega
       clear KWq KRq KGq
       go_wp2_with fail
       go_quiet ((first|exact Q1b (Q3k _ _ _ (U64.of_ofF _) (U64.of_ofF _))|exact Q1b (Q2C _ _ _ (U64.of_ofF _) (U64.of_ofF _))))
       go_wp2_with fail
       refine ⟨⟨p+1,_,by omega,by go_num, ?_,Q4n HWM.out _⟩,by simp [intOf]<;>omega⟩
       simp only [Q0m]
       rfl
      ·obtain rfl:n=p:=by omega
       have KOq:=Qh (show Q0c wr w8'.heap.size _ _ from HWM.out▸KO.out.drewN m)
       have B9q:=Qh (show Below w8'.heap.size w8' wr from HWM.out▸below_drewN B9.out m)
       have hszq:=B9q.out.size
       go_wp2_with (at_builtin;go_loud (refine Q0B rfl _ _ rfl w8'.heap.size _ _ (ofF (Q1r n fun i=>co (wts n) i * co row i)) wr.heap.size 1 rfl (KOq.out.alloc _) rfl (Q0o _ _ _) (U64.of_ofF _) (by have:=HTL.out;omega) (by rw [size_alloc];omega) ?_))
       intro v' w10 hown' hbel'
       have K10:=Qh (show Q0c w10 w8'.heap.size v' (Q0g ((G.map (Q4F n)).take (q+1))) by rw [HT.out];exact hown')
       have B10:=Qh ((B9q.out.alloc hszq (.cells #[.int .u64 (ofF (Q1r n fun i=>co (wts n) i * co row i))] 67)).trans hbel')
       clear hown' hbel'
       go_wp2_with fail
       exact ⟨⟨q+1,by omega,by go_num,K10.out,B10.out⟩,by simp [intOf]<;>omega⟩
    ·obtain rfl:n=q:=by omega
     have HTE:=Qh (show (G.map (Q4F n)).take n=G.map (Q4F n) from List.take_of_length_le (by rw [List.length_map,HGL.out];exact Nat.le_refl _))
     rw [HTE.out] at KO
     go_wp2_with fail
     exact HP.out _ _ ⟨_,_,vs,rfl,KO.out.less BEL.out.size,KG.out.less_below BEL.out B9.out,Q0b BEL.out B9.out BEL.out.size⟩
end Go.Proofs.YtploomncapiloaaGreatDoor
