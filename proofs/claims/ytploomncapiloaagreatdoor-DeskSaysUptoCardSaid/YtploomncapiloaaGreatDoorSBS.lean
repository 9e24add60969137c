/- Parts of the proof, put together by a program: DeskY LawDs LaidC LawReads. No condition. -/
import Derived.Test.YtploomncapiloaaGreatDoorSBR
import Derived.Lib.LaidTab
import Derived.Test.YtploomncapiloaaGreatDoorRows
set_option maxRecDepth 100000
set_option maxHeartbeats 8000000
namespace Go.Proofs.YtploomncapiloaaGreatDoor
open Go.RowKit Go.Sort Go.PlainAid Croft
theorem Z8x (b:Nat) (l x:List UInt8) (w:World) (h:Z8E w b l) (hl:l.length+x.length<=140737488355328):
  Calls Tryz.prog 15 #[.pointer (some ⟨b,0,none⟩),.string (bs x)] w fun e w'=>e= .returned (.tuple #[.int .i64 x.length,.nilIface])/\Z8E w' b (l++x)/\Below b w w'/\Lib.OthersKept 5 (some b) w w':=by
 have hlt:b<w.heap.size:=by rcases h with h|h<;>exact h.lt
 refine (Q5i b b _ (bs x) w h (by rw [Lib.byteCells_length,Q0q];exact hl) (Nat.le_of_lt hlt)).mono fun e w' hh=> ?_
 obtain ⟨rfl,h1,h2,h3⟩:=hh
 rw [Q0q]
 refine ⟨rfl,.inr ?_,h2,h3⟩
 rw [Lib.byteCells_append]
 exact h1
theorem Z8E.new (w:World):Z8E (w.alloc (.cells #[.pointer none,.slice none 0 0] 36)) w.heap.size []:=
 Lib.IsBuilderF.of (.inl ⟨Nat.le_refl _,_,heap_alloc_new w _,World.ownsRow_nil _ _ _ _,by simp [Value.ownBlock]⟩)
theorem Z8E.lt {w:World} {b:Nat} {l:List UInt8} (h:Z8E w b l):b<w.heap.size:=by
 rcases h with h|h<;>exact h.lt
theorem Y3M (l:List UInt8) (w:World) (hl:l.length<=4294967290):
  Calls Tryz.prog 14 #[.string (bs l),.string ⟨#[10]⟩] w fun e w'=>e= .returned (.string (bs (Q9I l)))/\w=w':=
 (Q6t (bs l) ⟨#[10]⟩ w (by rw [Q0q];omega)).mono fun e w' hh=>⟨by rw [hh.1];simp [bs,Q9I],hh.2.symm⟩
theorem Y5o (s:List UInt8) (w:World) (hs:s.length<=4294967270) (hL:Lay w):
  Calls Tryz.prog 6 #[.string (bs s)] w fun e w'=>e= .returned (.string (bs (Croft.runT Q0C Q1l s)))/\Below w.heap.size w w':=by
 have HL:=Qh hL
 suffices hgoal: ∀Post:Ending->World->Prop,(∀w',Below w.heap.size w w'->Post (.returned (.string (bs (Croft.runT Q0C Q1l s)))) w')->Calls Tryz.prog 6 #[.string (bs s)] w Post from hgoal _ fun w' h1=>⟨rfl,h1⟩
 intro Post hpo
 have HP:=Qh hpo
 have CS:=Qh (Z3n 10 s w (by omega) hL.1)
 obtain ⟨T,hT⟩: ∃T,T=Q9w s:=⟨_,rfl⟩
 obtain ⟨P,hPe⟩: ∃P,P=pieces 10 s:=⟨_,rfl⟩
 have hPne:P≠ []:=by rw [hPe];exact Q0I 10 s
 have HLA:=Qh (show (Q8F P hPne).map Q9I=T by subst hPe;rw [hT];exact Z6d s)
 have HLL:=Qh (show∀y∈Q8F P hPne,y.length<=s.length+2 by subst hPe;exact Z8q s)
 have HR:=Qh (show Croft.runT Q0C Q1l s=if 65536<s.length∨200<T.length then [101,114,114,111,114,32,50,10] else (Q0v Q0C Q1l T).1 by rw [hT];rfl)
 rw [<-hPe] at CS
 have hAne:Q4C 10 P≠ []:=fun e=>by
  have:=congrArg List.length e
  rw [Q2J] at this
  exact hPne (List.length_eq_zero_iff.1 this)
 obtain ⟨Q,x,hQ⟩: ∃Q x,Q4C 10 P=Q++ [x]:=⟨_,_,(List.dropLast_concat_getLast hAne).symm⟩
 have HLI:=Qh (show Q8F P hPne=if x= [] then Q else Q++ [x] by
  have h1:P.getLast hPne=x:=by rw [<-Z1p P hPne hAne];simp [hQ]
  unfold Q8F
  rw [h1,hQ,List.dropLast_concat])
 rw [hQ] at CS
 have HPL:=Qh (show Q.length<=s.length+1 by
  have h1:=congrArg List.length hQ
  rw [Q2J,List.length_append,List.length_singleton] at h1
  have h2:=Q3m 10 s
  rw [<-hPe] at h2
  omega)
 obtain ⟨LL,hLL⟩: ∃LL,LL=Q8F P hPne:=⟨_,rfl⟩
 rw [<-hLL] at HLA HLL HLI
 obtain ⟨st,hst⟩: ∃st,st=bs s:=⟨_,rfl⟩
 have hsz:st.size=s.length:=by rw [hst,Q0q]
 rw [<-hst] at CS⊢
 clear hpo hL hT hst hQ hLL hPe hAne
 go_enter Tryz.func6,Tryz.ntmps6
 go_wp2_with fail
 refine CS.out.mono ?_
 rintro e W1 ⟨v,rfl,ho,hb⟩
 have B1:=Qh hb
 have hi:=ho.is
 have KI:=Qh hi
 obtain ⟨A1,c1,rfl,hc1,hm1,hl1,hr⟩:=hi
 obtain ⟨b1,o1,x',rfl,hb1,hx,hcx⟩:=Q2W hr (k:=Q.length) (by simp)
 have hxx:x'=x:=by simpa using hx.symm
 subst hxx
 rw [List.length_append,List.length_singleton] at hc1 hl1
 obtain ⟨n,hn⟩: ∃n,n=Q.length:=⟨_,rfl⟩
 have HN:=Qh hn
 have HNS:=Qh (show n<=s.length+1 by rw [hn];exact HPL.out)
 rw [show (Q++ [x']).length=n+1 by rw [hn];simp]
 rw [<-hn] at hcx hc1 hl1
 clear ho hb hr hx hn
 obtain ⟨sx,hsx⟩: ∃sx,sx=bs x':=⟨_,rfl⟩
 rw [<-hsx] at hcx
 try dsimp only
 have hq:(sx.toList== [])=decide (x'= []):=by
  rw [hsx,Q0a]
  by_cases h:x'= []
  ·rw [h];rfl
  ·rw [decide_eq_false h,beq_eq_false_iff_ne];exact h
 obtain ⟨q,hqe⟩: ∃q,q=decide (x'= []):=⟨_,rfl⟩
 rw [<-hqe] at hq
 have HQE:=Qh hqe
 clear hqe hsx
 go_upto_if 19 with fail
 go_cut [3] from 20 to 24 (fun v wx=>wx=W1/\ ∃M,v= .slice (some ⟨b1,o1,none⟩) M c1/\M=LL.length/\M<=c1/\Q1g W1 v LL)
 case first=>
  cases q with
  |true=>
   go_wp2_with fail
   go_meet
   case rel=>
    have hx0:x'= []:=of_decide_eq_true HQE.out.symm
    have hL:LL=Q:=by rw [HLI.out,if_pos hx0]
    refine ⟨rfl,n,rfl,by rw [hL,HN.out],by omega, ?_⟩
    rw [hL]
    have h:=KI.out.first n (by rw [List.length_append,HN.out];simp)
    rw [HN.out,List.take_left] at h
    rw [HN.out]
    exact h
  |false=>
   go_wp2_with fail
   go_meet
   case rel=>
    have hx0:x'≠ []:=of_decide_eq_false HQE.out.symm
    have hL:LL=Q++ [x']:=by rw [HLI.out,if_neg hx0]
    refine ⟨rfl,n+1,rfl,by rw [hL,HN.out];simp,by omega, ?_⟩
    rw [hL]
    have h:=KI.out
    rw [show (Q++ [x']).length=n+1 by rw [HN.out];simp] at h
    exact h
 case rest=>
  obtain ⟨rfl,M,rfl,hM,hMc,hLI⟩:=hcut
  have KL:=Qh hLI
  have HM:=Qh hM
  clear KI hM hLI hcx hq HQE
  have HTM:=Qh (show T.length=M by rw [<-HLA.out,List.length_map,HM.out])
  by_cases hbig1:65536<s.length
  ·have hI:(st.size:Int)>65536:=by omega
   have hd1:decide ((st.size:Int)>65536)=true:=decide_eq_true hI
   have HRE:=Qh (show Croft.runT Q0C Q1l s= [101,114,114,111,114,32,50,10] by rw [HR.out,if_pos (.inl hbig1)])
   rw [HRE.out] at HP
   clear hbig1 hsz
   go_wp2_with fail
   exact HP.out _ B1.out
  ·have hI: ¬(st.size:Int)>65536:=by omega
   have hd1:decide ((st.size:Int)>65536)=false:=decide_eq_false hI
   by_cases hbig2:200<M
   ·have hI2:(M:Int)>200:=by omega
    have hd2:decide ((M:Int)>200)=true:=decide_eq_true hI2
    have HRE:=Qh (show Croft.runT Q0C Q1l s= [101,114,114,111,114,32,50,10] by rw [HR.out,if_pos (.inr (by rw [HTM.out];exact hbig2))])
    rw [HRE.out] at HP
    clear hbig1 hsz
    go_wp2_with fail
    exact HP.out _ B1.out
   ·have hI2: ¬(M:Int)>200:=by omega
    have hd2:decide ((M:Int)>200)=false:=decide_eq_false hI2
    have HS6:=Qh (show s.length<=65536 by omega)
    have hM200:M<=200:=by omega
    have HRE:=Qh (show Croft.runT Q0C Q1l s=(Q0v Q0C Q1l T).1 by rw [HR.out,if_neg (by rw [HTM.out];omega)])
    rw [HRE.out] at HP
    obtain ⟨w2,hw2⟩: ∃w2,w2=(wc.alloc (.cells #[.string ⟨#[]⟩,.pointer none] 32)).alloc (.cells #[.pointer none,.slice none 0 0] 36):=⟨_,rfl⟩
    have hz1:(wc.alloc (.cells #[.string ⟨#[]⟩,.pointer none] 32)).heap.size=wc.heap.size+1:=by rw [size_alloc]
    have BLD:=Qh (show Z8E w2 (wc.heap.size+1) [] by rw [hw2,<-hz1];exact Z8E.new _)
    have HDK:=Qh (show Q2Q w2 (wc.heap.size+2) wc.heap.size Q1l from ⟨.pointer none,by rw [hw2];exact (Box.new wc 32 [.string ⟨#[]⟩,.pointer none]).alloc _,rfl⟩)
    have BW2:=Qh (show Below wc.heap.size wc w2 by rw [hw2];exact ((Below.refl wc.heap.size wc).alloc (Nat.le_refl _) _).alloc (by rw [hz1];omega) _)
    have hsz2:wc.heap.size+2<=w2.heap.size:=by rw [hw2,size_alloc,hz1];omega
    have HW2:=Qh hw2
    have LYB:=Qh (show Z1t wc.heap.size w2 from ⟨w,HL.out,B1.out.trans (BW2.out.mono B1.out.size),B1.out.size⟩)
    clear hw2 hz1 hbig1 hbig2 hsz
    go_wp2_with fail
    rw [<-HW2.out]
    obtain ⟨B,hB⟩: ∃B,B=wc.heap.size:=⟨_,rfl⟩
    have HB:=Qh hB
    rw [<-hB] at BLD HDK LYB hsz2⊢
    clear hB
    go_loopw [37] (fun i wr=> ∃k:Nat,k<=M/\i= .int .i64 k/\Z8E wr (B+1) (Q0v Q0C Q1l (T.take k)).1/\Q2Q wr (B+2) B (Q0v Q0C Q1l (T.take k)).2/\(Q0v Q0C Q1l (T.take k)).2.Ok k/\(Q0v Q0C Q1l (T.take k)).1.length<=2200001 * k/\Below B w2 wr/\Z1t B wr) (fun i _=>M - (intOf i).toNat)
    case atStart=>
     exact ⟨0,Nat.zero_le _,rfl,BLD.out,HDK.out,⟨by simp [Q0v,Q1l],fun k hk=>by cases hk⟩,by simp [Q0v],Below.refl _ _,LYB.out⟩
    case round=>
     obtain ⟨k,hk,rfl,hbl,hdk,hok,hlen,hbel,hly⟩:=hrel
     have BL:=Qh hbl
     have DK:=Qh hdk
     have OK:=Qh hok
     have BEL:=Qh hbel
     have LY:=Qh hly
     have LEN:=Qh hlen
     have hszr:B+2<=wr.heap.size:=Nat.le_trans hsz2 hbel.size
     have KLr:=Qh (KL.out.below (BW2.out.trans (by have h:=BEL.out;rw [HB.out] at h;exact h)))
     obtain ⟨R,hR⟩: ∃R,R=Q0v Q0C Q1l (T.take k):=⟨_,rfl⟩
     have HRR:=Qh hR.symm
     rw [<-hR] at BL DK OK LEN
     clear hbl hdk hok hlen hbel hly BLD HDK LYB hR
     obtain ⟨wo,hwo⟩: ∃wo,wo=wr:=⟨_,rfl⟩
     subst hwo
     by_cases hlt:k<M
     ·obtain ⟨A,c,hA,_,_,_,hr⟩:=KLr.out
      injection hA with hA1 hA2 hA3
      subst hA1 hA3
      obtain ⟨b2,o2,y,hbb,hb2,hy,hcy⟩:=Q2W hr (k:=k) (by rw [<-HM.out];exact hlt)
      injection hbb with hbb
      injection hbb with hbb1 hbb2 _
      subst hbb1 hbb2
      obtain ⟨l,hl⟩: ∃l,l=Q9I y:=⟨_,rfl⟩
      have HTK:=Qh (show T[k]? =some l by rw [<-HLA.out,List.getElem?_map,hy,hl];rfl)
      have hyl:=HLL.out y (List.mem_of_getElem? hy)
      have hll:l.length<=70000:=by
       have:(Q9I y).length<=y.length:=by unfold Q9I Go.Lib.trimSuffix;split<;>simp
       rw [hl];have:=HS6.out;omega
      have CT:=Qh (Y3M y wo (by have:=HS6.out;omega))
      rw [<-hl] at CT
      have CSP:=Qh (Z6K 32 l wo (by omega) LY.out.lay.1)
      obtain ⟨sy,hsy⟩: ∃sy,sy=bs y:=⟨_,rfl⟩
      rw [<-hsy] at CT hcy
      obtain ⟨P2,hP2e⟩: ∃P2,P2=pieces 32 l:=⟨_,rfl⟩
      rw [<-hP2e] at CSP
      have HW:=Qh (show Q3z l=P2.filter fun x=>decide (x≠ []) by rw [hP2e];rfl)
      have HPN:=Qh (show P2.length<=l.length+1 by rw [hP2e];exact Q3m _ _)
      have HTOT:=Qh (Z4J l)
      have hP2:P2.length<=70001:=by have:=HPN.out;omega
      obtain ⟨N5,hN5⟩: ∃N5,N5=(Q3z l).length:=⟨_,rfl⟩
      have HN5:=Qh hN5
      clear hr hb2 hy hyl hl hsy hP2e hA2 hN5
      go_wp2_with fail
      refine CT.out.mono ?_
      rintro e w' ⟨rfl,rfl⟩
      try dsimp only
      go_wp2_with fail
      refine CSP.out.mono ?_
      rintro e Ws ⟨v,rfl,ho,hb⟩
      have KP:=Qh ho.is
      have B3:=Qh hb
      obtain ⟨A4,c4,rfl,hc4,_⟩:=Q0k ho.1
      clear ho hb
      try dsimp only
      go_upto_block 2 with fail
      go_cut [8,45] from 46 to 55 (fun v x wx=> ∃A5 c5 xi,v= .slice A5 N5 c5/\x= .int .i64 xi/\N5<=c5/\Q1g wx v (Q3z l)/\Below wo.heap.size wo wx)
      case first=>
       as_aux_lemma=>
        go_wp2_with fail
        go_loopw [8,45] (fun v i wr=> ∃j:Nat,j<=P2.length/\i= .int .i64 j/\Q0J wr Ws.heap.size v ((P2.take j).filter fun x=>decide (x≠ []))/\Below Ws.heap.size Ws wr) (fun _ i _=>P2.length - (intOf i).toNat)
        case atStart=>exact ⟨0,Nat.zero_le _,rfl,Q0J.nil _ _,Below.refl _ _⟩
        case round=>
         obtain ⟨j,hj,rfl,hown,hbel⟩:=hrel
         have KW:=Qh hown
         have BI:=Qh hbel
         have hsi:=hbel.size
         clear hown hbel
         by_cases hlj:j<P2.length
         ·obtain ⟨A,c,hA,hcm,_,hl8,hr⟩:=KP.out.below BI.out
          injection hA with hA1 hA2 hA3
          subst hA1 hA3
          obtain ⟨b5,o5,x,rfl,hb5,hx,hcx⟩:=Q2W hr hlj
          have HFL:=Qh (show (List.filter (fun x=>decide (x≠ [])) (List.take j P2)).length<=70001 by
           have h1:=List.length_filter_le (fun x=>decide (x≠ [])) (List.take j P2)
           rw [List.length_take] at h1
           have:=HPN.out
           omega)
          have HTJ:=Qh (show P2.take (j+1)=P2.take j++ [x] by rw [List.take_add_one,hx];rfl)
          obtain ⟨Qj,hQj⟩: ∃Qj,Qj=(P2.take j).filter fun x=>decide (x≠ []):=⟨_,rfl⟩
          have HQ:=Qh hQj
          rw [<-hQj] at KW HFL
          obtain ⟨sw,hsw⟩: ∃sw,sw=bs x:=⟨_,rfl⟩
          have HSX:=Qh hsw
          rw [<-hsw] at hcx
          clear hr hb5 hx hA2 hcm hl8 hQj
          by_cases hxe:x= []
          ·have hq:(sw.toList== [])=true:=by rw [hsw,Q0a,hxe];rfl
           have HNX:=Qh (show (P2.take (j+1)).filter (fun x=>decide (x≠ []))=Qj by rw [HQ.out,HTJ.out,List.filter_append,hxe];simp)
           clear hxe hsw
           go_wp2_with fail
           exact ⟨⟨j+1,by omega,by go_num,by rw [HNX.out];exact KW.out,BI.out⟩,by simp [intOf]<;>omega⟩
          ·have hq:(sw.toList== [])=false:=by rw [hsw,Q0a,beq_eq_false_iff_ne];exact hxe
           have HNX:=Qh (show (P2.take (j+1)).filter (fun x=>decide (x≠ []))=Qj++ [x] by rw [HQ.out,HTJ.out,List.filter_append];simp [hxe])
           clear hxe hsw
           go_wp2_with (at_builtin;go_loud (refine Q3o rfl _ _ rfl Ws.heap.size _ _ x wr.heap.size 1 rfl (KW.out.alloc _) rfl (by rw [<-HSX.out];exact Q0o _ _ _) (by have:=HFL.out;omega) (by rw [size_alloc];omega) ?_))
           intro v' w5 hown' hbel'
           have K5:=Qh hown'
           have B5:=Qh ((BI.out.alloc hsi (.cells #[.string sw] 9)).trans hbel')
           clear hown' hbel'
           go_wp2_with fail
           exact ⟨⟨j+1,by omega,by go_num,by rw [HNX.out];exact K5.out,B5.out⟩,by simp [intOf]<;>omega⟩
         ·obtain rfl:j=P2.length:=by omega
          rw [show P2.take P2.length=P2 from List.take_length,<-HW.out] at KW
          obtain ⟨A5,c5,hv5,hc5,hcm5⟩:=Q0k KW.out.1
          have K9:=Qh KW.out.is
          rw [<-HN5.out] at hv5 hc5
          have HV5:=Qh hv5
          go_wp2_with fail
          go_meet
          case rel=>exact ⟨A5,c5,_,HV5.out,rfl,hc5,K9.out,B3.out.trans (BI.out.mono B3.out.size)⟩
      case rest=>
       obtain ⟨A5,c5,xi,rfl,rfl,hc5,hks5,hb5⟩:=hcut
       have K5:=Qh hks5
       have BI:=Qh hb5
       clear hks5 hb5 KP CT CSP B3
       have hoB:B<=wo.heap.size:=by omega
       have LAYI:=Qh (LY.out.low (BI.out.mono hoB))
       have DKI:=Qh (DK.out.below BI.out)
       have hszi:B+2<=wc.heap.size:=Nat.le_trans hszr BI.out.size
       have BLI:=Qh (BL.out.left (base:=B+2) (db:=B) (.of_below BI.out) (by omega) (by omega) DK.out.type)
       have BELI:=Qh (BEL.out.trans (BI.out.mono hoB))
       have hk1:k<=999:=by omega
       have HNXT:=Qh (show Q0v Q0C Q1l (T.take (k+1))=(R.1++(Q0v Q0C R.2 [l]).1,(Q0v Q0C R.2 [l]).2) by rw [Z2t HTK.out,HRR.out])
       have HOKN:=Qh (Y1g OK.out l)
       cases hw:Q3z l with
       |nil=>
        have h0:N5=0:=by rw [HN5.out,hw];rfl
        have hd0:decide ((N5:Int)>0)=false:=by rw [decide_eq_false_iff_not];omega
        have hd1n:decide (0<N5)=false:=by rw [decide_eq_false_iff_not];omega
        have hl0:Q0v Q0C R.2 [l]=([],R.2):=Q8G (by rw [hw];rfl)
        have HX:=Qh (show Q0v Q0C Q1l (T.take (k+1))=R by rw [HNXT.out,hl0,List.append_nil])
        rw [hl0] at HOKN
        clear h0 hw hl0
        go_wp2_with fail
        exact ⟨⟨k+1,by omega,by go_num,by rw [HX.out];exact BLI.out,by rw [HX.out];exact DKI.out,by rw [HX.out];exact HOKN.out,by rw [HX.out];have:=LEN.out;omega,BELI.out,LAYI.out⟩,by simp [intOf]<;>omega⟩
       |cons x0 ws=>
        have hN1:1<=N5:=by rw [HN5.out,hw];simp
        have hN0:0<N5:=by omega
        have hNI:(0:Int)<(N5:Int):=by omega
        have hd0:decide ((N5:Int)>0)=true:=decide_eq_true hNI
        have hd1n:decide (0<N5)=true:=decide_eq_true hN0
        have hks:=K5.out
        rw [hw] at hks
        have HW2:=Qh hw
        obtain ⟨A,c,hA,_,_,_,hr⟩:=hks
        obtain ⟨b6,o6,x,rfl,hb6,hx,hcx⟩:=Q2W hr (k:=0) (by simp)
        injection hA with hA1 hA2 hA3
        subst hA1 hA3
        have hxx:x0=x:=by simpa using hx
        subst hxx
        rw [Nat.add_zero] at hcx
        clear hA2
        have hx0:x0≠ []:=Z3J (l:=l) (by rw [hw];simp)
        obtain ⟨c0,r0,hc0⟩: ∃c0 r0,x0=c0::r0:=by
         cases x0 with
         |nil=>exact absurd rfl hx0
         |cons c0 r0=>exact ⟨c0,r0,rfl⟩
        obtain ⟨sv,hsv⟩: ∃sv,sv=bs x0:=⟨_,rfl⟩
        have hsz0:(0:Int)<(sv.size:Int):=by rw [hsv,Q0q,hc0];simp
        have hix: ∀W,(Instr.index 9 (.string sv) (.int .i64 0)).run Tryz.prog W= .ok (.int .u8 (c0.toNat:Int)) W:=fun W=>by
         rw [run_index_string W _ _ _ _ Tryz.underlying9,dif_pos ⟨by omega,hsz0⟩]
         subst hsv
         subst hc0
         rfl
        by_cases hc35:c0=35
        ·have hb35:((c0.toNat:Int) !=35)=false:=by rw [hc35];rfl
         have hl0:Q0v Q0C R.2 [l]=([],R.2):=Q8G (by rw [hw,hc0,hc35];rfl)
         have HX:=Qh (show Q0v Q0C Q1l (T.take (k+1))=R by rw [HNXT.out,hl0,List.append_nil])
         rw [hl0] at HOKN
         rw [<-hsv] at hcx
         clear hw hl0 hc35 hsv hc0 hx hx0 hr
         go_wp2_with fail
         exact ⟨⟨k+1,by omega,by go_num,by rw [HX.out];exact BLI.out,by rw [HX.out];exact DKI.out,by rw [HX.out];exact HOKN.out,by rw [HX.out];have:=LEN.out;omega,BELI.out,LAYI.out⟩,by simp [intOf]<;>omega⟩
        ·have hb35:((c0.toNat:Int) !=35)=true:=by
          rw [bne_iff_ne];intro h
          exact hc35 (UInt8.toNat_inj.1 (by rw [show (35:UInt8).toNat=35 from rfl];omega))
         have hl0:Q0v Q0C R.2 [l]=((Q0C R.2 x0 ws).1++ [10],(Q0C R.2 x0 ws).2):=Q9g hw (by
          rw [hw,hc0]
          simp [Z2c,hc35])
         have HX:=Qh (show Q0v Q0C Q1l (T.take (k+1))=(R.1++((Q0C R.2 x0 ws).1++ [10]),(Q0C R.2 x0 ws).2) by rw [HNXT.out,hl0])
         rw [hl0] at HOKN
         have htw:=HTOT.out
         rw [hw] at htw
         have htc:=Q2u x0 ws
         have htj:=Z3o ws
         have htl:=Q4q ws
         have hsl:=Z4K OK.out (by omega) x0 ws (by omega)
         have HSW:=Qh (show∀x∈ws,x.length<=1000000 from fun x hx=>by have:=Z1q ws x hx;omega)
         have hfrom:=(show Q1g wc (.slice (some ⟨b6,o6,none⟩) (x0::ws).length c5) (x0::ws) by have:=K5.out;rw [hw] at this;rw [show (x0::ws).length=N5 by rw [HN5.out,hw]];exact this).from_ 1 (by simp)
         rw [show (x0::ws).length=N5 by rw [HN5.out,hw]] at hfrom
         have hs1:=Q3G (some ⟨b6,o6,none⟩) N5 c5 1 1 rfl hN1
         have hs2: ∀W,(Instr.sliceAt 24 (.slice (some ⟨b6,o6,none⟩) N5 c5) (some (.int .i64 1)) none none).run Tryz.prog W=_:=fun W=>(run_sliceAt_slice W _ _ _ _ _ Tryz.underlying24).trans (hs1 W)
         obtain ⟨vt,hvt⟩: ∃vt,vt=Value.slice (if c5=1 then some ⟨b6,o6,none⟩ else (some (⟨b6,o6,none⟩:Addr)).map (·.add (1 * 1))) (N5 - 1) (c5 - 1):=⟨_,rfl⟩
         rw [<-hvt] at hfrom hs1 hs2
         have KV:=Qh (show Q1g wc vt ws from hfrom)
         have CD:=Qh (fun q=>Y5S (B+2) B k R.2 x0 vt ws (wc.drewN q) (DKI.out.below (below_drewN (Below.refl _ _) q)) OK.out (by omega) (by omega) hszi (KV.out.drewN q) HSW.out (by omega) (by omega) (LAYI.out.low (below_drewN (Below.refl _ _) q)))
         rw [<-hsv] at hcx CD
         obtain ⟨ans,hans⟩: ∃ans,ans=(Q0C R.2 x0 ws).1:=⟨_,rfl⟩
         obtain ⟨st2,hst2⟩: ∃st2,st2=(Q0C R.2 x0 ws).2:=⟨_,rfl⟩
         rw [<-hans,<-hst2] at CD HX HOKN
         rw [<-hans] at hsl
         obtain ⟨sa,hsa⟩: ∃sa,sa=bs ans:=⟨_,rfl⟩
         have hsas:sa.size<=2200000:=by rw [hsa,Q0q];exact hsl
         have t1: ∀W,(Op.stringOp .add sa ⟨#[10]⟩).run Tryz.prog W= .ok (.string (sa++⟨#[10]⟩)) W:=fun W=>run_string_add_sum W sa _ (by have:(⟨#[10]⟩:ByteArray).size=1:=rfl;omega)
         have HSA:=Qh (show sa++(⟨#[10]⟩:ByteArray)=bs (ans++ [10]) by rw [hsa];exact Q0p ans [10])
         rw [<-hsa] at CD
         have hlo:=LEN.out
         have HLN:=Qh (show (R.1++(ans++ [10])).length<=2200001 * (k+1) by simp only [List.length_append,List.length_singleton];omega)
         have HWL:=Qh (show R.1.length+(ans++ [10]).length<=140737488355328 by simp only [List.length_append,List.length_singleton];omega)
         clear hw hl0 hc35 hsv hc0 hx hx0 hr htw htc htj htl hsl hfrom hvt hans hst2 hsa hlo
         go_wp2_with fail
         refine Q0D 6 (by kernel_rfl) (by kernel_rfl) ?_
         simp only [List.take_succ_cons,List.take_zero,List.drop_succ_cons,List.drop_zero]
         repeat (go_big_quiet_step ((fail)))
         refine wpQuiet_nil ?_
         intro nq
         go_wp2_with fail
         refine (CD.out _).mono ?_
         rintro e W6 ⟨rfl,hd6,hl6⟩
         have BL0:=BLI.out.left (base:=B+2) (db:=B) (.of_below (below_drewN (Below.refl wc.heap.size wc) nq)) (by omega) (by omega) DKI.out.type
         have BL6:=Qh (BL0.left hl6 (by omega) (by omega) DKI.out.type)
         have DK6:=Qh hd6
         have B6:=Qh (show Below B wc W6 from (below_drewN (Below.refl B wc) nq).trans (hl6.low (by omega) (Nat.le_refl _) (by have:=DKI.out.lt;show B<=wc.heap.size;omega)))
         have hs6:=B6.out.size
         clear hd6 hl6 BL0
         try dsimp only
         go_wp2_with fail
         rw [HSA.out]
         refine (Z8x (B+1) R.1 (ans++ [10]) W6 BL6.out HWL.out).mono ?_
         rintro e W7 ⟨rfl,hb7,hbl7,hot7⟩
         have BL7:=Qh hb7
         have DK7:=Qh (DK6.out.others hot7 (by omega) (by omega))
         have B7:=Qh (B6.out.trans (hbl7.mono (show B<=B+1 by omega)))
         clear hb7 hbl7 hot7
         try dsimp only
         go_wp2_with fail
         exact ⟨⟨k+1,by omega,by go_num,by rw [HX.out];exact BL7.out,by rw [HX.out];exact DK7.out,by rw [HX.out];exact HOKN.out,by rw [HX.out];exact HLN.out,BELI.out.trans B7.out,LAYI.out.low B7.out⟩,by simp [intOf]<;>omega⟩
     ·obtain rfl:k=M:=by omega
      have HF:=Qh (show Q0v Q0C Q1l T=R by rw [<-HRR.out,List.take_of_length_le (by rw [HTM.out];exact Nat.le_refl _)])
      rw [HF.out] at HP
      have hblt:=BL.out.lt
      have CST:=Qh (Q5I (B+1) (B+1) R.1 wo BL.out (Nat.le_of_lt hblt))
      go_wp2_with fail
      refine CST.out.mono ?_
      rintro e W9 ⟨rfl,_,hb⟩
      have B9:=Qh (BEL.out.trans (hb.mono (show B<=B+1 by omega)))
      have B9w:=Qh (B1.out.trans (BW2.out.mono B1.out.size))
      have hBw:w.heap.size<=B:=by rw [HB.out];exact B1.out.size
      clear hb
      try dsimp only
      go_wp2_with fail
      exact HP.out _ (B9w.out.trans (B9.out.mono hBw))
theorem Z4M (s:List UInt8) (w:World) (hs:s.length<=4294967270) (hL:Lay w):
  Calls Tryz.prog 3 #[.string (bs s)] w fun e w'=>e= .returned (.bool true)/\Below w.heap.size w w':=by
 have HL:=Qh hL
 have CP:=Qh (Y5o s w hs hL)
 have CR:=Qh (fun W (hW:Lay W)=>Y1p s W hs hW)
 obtain ⟨r,hr⟩: ∃r,r=bs (Croft.runT Q0C Q1l s):=⟨_,rfl⟩
 rw [<-hr] at CP CR
 obtain ⟨st,hst⟩: ∃st,st=bs s:=⟨_,rfl⟩
 rw [<-hst] at CP CR⊢
 suffices hgoal: ∀Post:Ending->World->Prop,(∀w',Below w.heap.size w w'->Post (.returned (.bool true)) w')->Calls Tryz.prog 3 #[.string st] w Post from hgoal _ fun w' h=>⟨rfl,h⟩
 intro Post hpo
 have HP:=Qh hpo
 have hb1:(r.toList==r.toList)=true:=by simp
 clear hpo hL hr hst
 go_enter Tryz.func3,Tryz.ntmps3
 go_wp2_with fail
 refine CP.out.mono ?_
 rintro e W1 ⟨rfl,hb⟩
 have B1:=Qh hb
 have L1:=Qh (HL.out.below hb)
 clear hb
 try dsimp only
 go_wp2_with fail
 refine (CR.out _ L1.out).mono ?_
 rintro e W2 ⟨rfl,hb⟩
 have B2:=Qh (Q0b B1.out hb B1.out.size)
 clear hb
 try dsimp only
 go_wp2_with fail
 exact HP.out _ B2.out
end Go.Proofs.YtploomncapiloaaGreatDoor
namespace Go.Proofs.YtploomncapiloaaGreatDoor
open Go.RowKit Croft
theorem Y5V {W:World} {g:Nat} {t:TypeId} {cs:Array Value} {fuel:Nat} {p:List MemPlace} {enc:TypeId×Value->Unit} {sp:Nat->Bool} {held:Bool} {base:Nat} (hg:Tryz.prog.globalNamed "internal/strconv.uint64pow10" =some g) (ht:(Tryz.prog.globals[g]?).map (·.type)=some t) (hv:W.var? Tryz.prog "internal/strconv.uint64pow10" =some cs)
  (hd:DataW.trod enc Tryz.prog W base sp held fuel t cs.toList=some (Rows.laid_internal_strconv_uint64pow10,p)):Lib.TabIs Tryz.prog W "internal/strconv.uint64pow10" .u64 Lib.pow10Tab:=by
 obtain rfl:=Option.some.inj ((show Tryz.prog.globalNamed "internal/strconv.uint64pow10" =some 4 by kernel_rfl).symm.trans hg)
 obtain rfl:=Option.some.inj ((show (Tryz.prog.globals[4]?).map (·.type)=some 201 by kernel_rfl).symm.trans ht)
 unfold Lib.TabIs
 rw [hv,<-Lib.cells_of_tab Tryz.underlying201 Tryz.underlying67 (by kernel_rfl) (by kernel_rfl) (show DataW.trod enc Tryz.prog W base sp held fuel _ cs.toList=some (Lib.tabData .u64 Lib.pow10Tab,p) from hd)]
theorem Y5W {W:World} (h:W.ShapedOpen Tryz.prog):Q9b W:=Z5b.s1_3 W h
theorem Y1q {W : World} {g : Nat} {t : TypeId} {cs : Array Value} {fuel : Nat} {p : List MemPlace} {enc : TypeId × Value -> Unit} {sp : Nat -> Bool} {held : Bool} {base : Nat} (hg : Tryz.prog.globalNamed "sharecroft/croftref.verbs" = some g) (ht : (Tryz.prog.globals[g]?).map (·.type) = some t) (hv : W.var? Tryz.prog "sharecroft/croftref.verbs" = some cs)
    (hd : DataW.trod enc Tryz.prog W base sp held fuel t cs.toList = some (Rows.laid_sharecroft_croftref_verbs, p)) : Q8B W := by
  have hg' := hg
  obtain rfl := Option.some.inj ((show Tryz.prog.globalNamed "sharecroft/croftref.verbs" = some 1 by kernel_rfl).symm.trans hg)
  obtain rfl := Option.some.inj ((show (Tryz.prog.globals[1]?).map (·.type) = some 154 by kernel_rfl).symm.trans ht)
  obtain ⟨xs, m, rfl, hx, hlen, hn, hel⟩ := DataW.trod_array Tryz.underlying154 hd
  have ce : Tryz.prog.cellsOf 9 = 1 := by kernel_rfl
  have ca : Tryz.prog.cellsOf 154 = 7 := by kernel_rfl
  have hx1 := congrArg Prod.fst hx
  simp only [Rows.laid_sharecroft_croftref_verbs, DataW.agg.injEq] at hx1
  have hall : ∀ k : Nat, k <= 6 -> W.cell? ⟨1, k, none⟩ = some (.string (bs (Q2k k))) := by
   intro k h6
   rw [World.var?_cell hg' hv k]
   have hk := hel k (by omega)
   rw [ce, Nat.mul_one] at hk
   rw [ca] at hlen
   obtain ⟨x, hxk⟩ : ∃ x, xs[k]? = some x := ⟨xs[k]'(by omega), List.getElem?_eq_getElem (by omega)⟩
   rw [hxk] at hk
   obtain ⟨s, hc, rfl, _⟩ := DataW.trod_string Tryz.underlying9 hk
   have hcell : cs[k]? = some (.string s) := by
     have := congrArg (·[0]?) hc
     simpa [List.getElem?_take, List.getElem?_drop] using this
   rw [hcell]
   have hm : (xs.map (·.1))[k]? = some (.lit (.string s.data.toList)) := by simp [hxk]
   rw [<- hx1] at hm
   have hs : s = bs (Q2k k) := by
     apply ByteArray.ext
     apply Array.toList_inj.1
     obtain rfl | rfl | rfl | rfl | rfl | rfl | rfl : k = 0 ∨ k = 1 ∨ k = 2 ∨ k = 3 ∨ k = 4 ∨ k = 5 ∨ k = 6 := by omega
     all_goals
       simp at hm
       first | (rw [<- hm]; rfl) | (simp [hm, bs, Q2k])
   rw [hs]
  exact ⟨fun k _ h6 => hall k h6, hall 0 (by omega)⟩
end Go.Proofs.YtploomncapiloaaGreatDoor
