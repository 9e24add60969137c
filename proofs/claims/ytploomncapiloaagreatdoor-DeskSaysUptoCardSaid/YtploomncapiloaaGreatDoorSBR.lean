/- Parts of the proof, put together by a program: BenR. No condition. -/
import Derived.Test.YtploomncapiloaaGreatDoorSBQ
set_option maxRecDepth 100000
set_option maxHeartbeats 8000000
namespace Go.Proofs.YtploomncapiloaaGreatDoor
open Go.RowKit Go.Sort Go.PlainAid Croft
theorem Y1n (base db m:Nat) (b:Q1O) (v:List UInt8) (va:Value) (ws:List (List UInt8)) (w:World) (hd:Q2Z w base db b) (hok:b.Ok m) (hm:m<=999) (hdb:db<base) (hbw:base<=w.heap.size) (h1:Q1g w va ws)
  (htot:tot ws<=100000) (hL:Z1t db w):
  Calls Tryz.prog 18 #[.pointer (some ⟨db,0,none⟩),.string (bs v),va] w fun e w'=>e= .returned (.string (bs (Q0C b v ws).1))/\Q2Z w' base db (Q0C b v ws).2/\Left base db w w':=by
 by_cases n_C:v=Q3M
 ·rw [n_C,show Q0C b Q3M ws=((Q3g b.tx ws).1,⟨(Q3g b.tx ws).2,b.ks⟩) from by unfold Q0C;rw [if_pos rfl]]
  exact Z3r base db b va ws w hd hdb h1 hok.1 (by omega) hL
 by_cases n_W:v=Q9a
 ·rw [n_W,show Q0C b Q9a ws=(Q6g b.tx ws,b) from by unfold Q0C;rw [if_neg (by decide),if_pos rfl]]
  exact (Z8u base db b va ws w hd h1 (by omega) hL).mono fun e w' h=>⟨h.1,hd.below h.2,.of_below h.2⟩
 exact Z8w base db m b v va ws w hd hok hm hdb hbw h1 htot hL n_C n_W
theorem Y1o (s:List UInt8): ∀y∈Q9w s,y.length<=s.length+1:=fun y hy=>by
 unfold Q9w at hy
 split at hy
 ·exact Z3p s y (List.dropLast_subset _ hy)
 ·exact Z3p s y hy
theorem Y1p (s:List UInt8) (w:World) (hs:s.length<=4294967270) (hL:Lay w):
  Calls Tryz.prog 7 #[.string (bs s)] w fun e w'=>e= .returned (.string (bs (Croft.runT Q0C Q1l s)))/\Below w.heap.size w w':=by
 have HL:=Qh hL
 suffices hgoal: ∀Post:Ending->World->Prop,(∀w',Below w.heap.size w w'->Post (.returned (.string (bs (Croft.runT Q0C Q1l s)))) w')->Calls Tryz.prog 7 #[.string (bs s)] w Post from hgoal _ fun w' h1=>⟨rfl,h1⟩
 intro Post hpo
 have HP:=Qh hpo
 have CS:=Qh (Z1U s w (by omega))
 obtain ⟨T,hT⟩: ∃T,T=Q9w s:=⟨_,rfl⟩
 have HLL:=Qh (show∀y∈T,y.length<=s.length+1 by rw [hT];exact Y1o s)
 have HR:=Qh (show Croft.runT Q0C Q1l s=if 65536<s.length∨200<T.length then [101,114,114,111,114,32,50,10] else (Q0v Q0C Q1l T).1 by rw [hT];rfl)
 rw [<-hT] at CS
 obtain ⟨st,hst⟩: ∃st,st=bs s:=⟨_,rfl⟩
 have hsz:st.size=s.length:=by rw [hst,Q0q]
 rw [<-hst] at CS⊢
 clear hpo hL hT hst
 go_enter Tryz.func7,Tryz.ntmps7
 go_wp2_with fail
 refine CS.out.mono ?_
 rintro e W1 ⟨v,rfl,hi,hb⟩
 have B1:=Qh hb
 have KL:=Qh hi
 obtain ⟨A1,c1,rfl,hc1,hm1,hl1,hr⟩:=hi
 obtain ⟨M,hM⟩: ∃M,M=T.length:=⟨_,rfl⟩
 have HM:=Qh hM
 rw [<-hM] at hc1 hl1 KL HR⊢
 clear hb hr hm1 hM CS
 try dsimp only
 by_cases hbig1:65536<s.length
 ·have hI:(st.size:Int)>65536:=by omega
  have hd1:decide ((st.size:Int)>65536)=true:=decide_eq_true hI
  have HRE:=Qh (show Croft.runT Q0C Q1l s= [101,114,114,111,114,32,50,10] by rw [HR.out,if_pos (.inl hbig1)])
  rw [HRE.out] at HP
  clear hbig1 hsz
  go_wp2_with fail
  exact HP.out _ B1.out
 ·have hI: ¬(st.size:Int)>65536:=by omega
  have hd1:decide ((st.size:Int)>65536)=false:=decide_eq_false hI
  by_cases hbig2:200<M
  ·have hI2:(M:Int)>200:=by omega
   have hd2:decide ((M:Int)>200)=true:=decide_eq_true hI2
   have HRE:=Qh (show Croft.runT Q0C Q1l s= [101,114,114,111,114,32,50,10] by rw [HR.out,if_pos (.inr hbig2)])
   rw [HRE.out] at HP
   clear hbig1 hsz
   go_wp2_with fail
   exact HP.out _ B1.out
  ·have hI2: ¬(M:Int)>200:=by omega
   have hd2:decide ((M:Int)>200)=false:=decide_eq_false hI2
   have HS6:=Qh (show s.length<=65536 by omega)
   have hM200:M<=200:=by omega
   have HRE:=Qh (show Croft.runT Q0C Q1l s=(Q0v Q0C Q1l T).1 by rw [HR.out,if_neg (by omega)])
   rw [HRE.out] at HP
   obtain ⟨wc,hwc⟩: ∃wc,wc=W1:=⟨_,rfl⟩
   subst hwc
   obtain ⟨w2,hw2⟩: ∃w2,w2=wc.alloc (.cells #[.string ⟨#[]⟩,.pointer none] 47):=⟨_,rfl⟩
   have HDK:=Qh (show Q2Z w2 (wc.heap.size+1) wc.heap.size Q1l from ⟨.pointer none,by rw [hw2];exact Box.new wc 47 [.string ⟨#[]⟩,.pointer none],rfl⟩)
   have BW2:=Qh (show Below wc.heap.size wc w2 by rw [hw2];exact (Below.refl wc.heap.size wc).alloc (Nat.le_refl _) _)
   have hsz2:wc.heap.size+1<=w2.heap.size:=by rw [hw2,size_alloc];exact Nat.le_refl _
   have HW2:=Qh hw2
   have LYB:=Qh (show Z1t wc.heap.size w2 from ⟨w,HL.out,B1.out.trans (BW2.out.mono B1.out.size),B1.out.size⟩)
   clear hw2 hbig1 hbig2 hsz
   go_wp2_with fail
   rw [<-HW2.out]
   obtain ⟨B,hB⟩: ∃B,B=wc.heap.size:=⟨_,rfl⟩
   have HB:=Qh hB
   rw [<-hB] at HDK LYB hsz2⊢
   clear hB
   go_loopw [5,6] (fun o i wr=> ∃k:Nat,k<=M/\i= .int .i64 k/\o= .string (bs (Q0v Q0C Q1l (T.take k)).1)/\Q2Z wr (B+1) B (Q0v Q0C Q1l (T.take k)).2/\(Q0v Q0C Q1l (T.take k)).2.Ok k/\(Q0v Q0C Q1l (T.take k)).1.length<=2200001 * k/\Below B w2 wr/\Z1t B wr) (fun _ i _=>M - (intOf i).toNat)
   case atStart=>
    exact ⟨0,Nat.zero_le _,rfl,rfl,HDK.out,⟨by simp [Q0v,Q1l],fun k hk=>by cases hk⟩,by simp [Q0v],Below.refl _ _,LYB.out⟩
   case round=>
    obtain ⟨k,hk,rfl,ho,hdk,hok,hlen,hbel,hly⟩:=hrel
    have DK:=Qh hdk
    have OK:=Qh hok
    have BEL:=Qh hbel
    have LY:=Qh hly
    have LEN:=Qh hlen
    have hszr:B+1<=wr.heap.size:=Nat.le_trans hsz2 hbel.size
    have KLr:=Qh (KL.out.below (BW2.out.trans (by have h:=BEL.out;rw [HB.out] at h;exact h)))
    obtain ⟨R,hR⟩: ∃R,R=Q0v Q0C Q1l (T.take k):=⟨_,rfl⟩
    have HRR:=Qh hR.symm
    rw [<-hR] at DK OK LEN ho
    obtain ⟨so,hso⟩: ∃so,so=bs R.1:=⟨_,rfl⟩
    rw [<-hso] at ho
    subst ho
    have HSO:=Qh hso
    clear hdk hok hlen hbel hly HDK LYB hR hso
    obtain ⟨wo,hwo⟩: ∃wo,wo=wr:=⟨_,rfl⟩
    subst hwo
    by_cases hlt:k<M
    ·obtain ⟨A,c,hA,_,_,_,hr⟩:=KLr.out
     injection hA with hA1 hA2 hA3
     subst hA1 hA3
     obtain ⟨b2,o2,l,rfl,hb2,hy,hcy⟩:=Q2W hr (k:=k) (by rw [<-HM.out];exact hlt)
     have HTK:=Qh (show T[k]? =some l from hy)
     have hyl:=HLL.out l (List.mem_of_getElem? hy)
     have hll:l.length<=70000:=by have:=HS6.out;omega
     have CW:=Qh (Z1T l wo (by omega))
     obtain ⟨sy,hsy⟩: ∃sy,sy=bs l:=⟨_,rfl⟩
     rw [<-hsy] at CW hcy
     have HTOT:=Qh (Z4J l)
     obtain ⟨N5,hN5⟩: ∃N5,N5=(Q3z l).length:=⟨_,rfl⟩
     have HN5:=Qh hN5
     clear hr hb2 hy hyl hsy hA2 hN5
     go_wp2_with fail
     refine CW.out.mono ?_
     rintro e wi ⟨v,rfl,hks5,hbi⟩
     have K5:=Qh hks5.is
     obtain ⟨A5,c5,rfl,hc5,_⟩:=Q0k hks5.1
     rw [<-HN5.out] at hc5⊢
     have BI:=Qh hbi
     clear hks5 hbi
     try dsimp only
     have hoB:B<=wo.heap.size:=by omega
     have LAYI:=Qh (LY.out.low (BI.out.mono hoB))
     have DKI:=Qh (DK.out.below BI.out)
     have hszi:B+1<=wi.heap.size:=Nat.le_trans hszr BI.out.size
     have BELI:=Qh (BEL.out.trans (BI.out.mono hoB))
     have hk1:k<=999:=by omega
     have HNXT:=Qh (show Q0v Q0C Q1l (T.take (k+1))=(R.1++(Q0v Q0C R.2 [l]).1,(Q0v Q0C R.2 [l]).2) by rw [Z2t HTK.out,HRR.out])
     have HOKN:=Qh (Y1g OK.out l)
     cases hw:Q3z l with
     |nil=>
      have h0:N5=0:=by rw [HN5.out,hw];rfl
      have hd0:decide ((N5:Int)>0)=false:=by rw [decide_eq_false_iff_not];omega
      have hd1n:decide (0<N5)=false:=by rw [decide_eq_false_iff_not];omega
      have hl0:Q0v Q0C R.2 [l]=([],R.2):=Q8G (by rw [hw];rfl)
      have HX:=Qh (show Q0v Q0C Q1l (T.take (k+1))=R by rw [HNXT.out,hl0,List.append_nil])
      rw [hl0] at HOKN
      clear h0 hw hl0
      go_wp2_with fail
      exact ⟨⟨k+1,by omega,by go_num,by rw [HX.out,HSO.out],by rw [HX.out];exact DKI.out,by rw [HX.out];exact HOKN.out,by rw [HX.out];have:=LEN.out;omega,BELI.out,LAYI.out⟩,by simp [intOf]<;>omega⟩
     |cons x0 ws=>
      have hN1:1<=N5:=by rw [HN5.out,hw];simp
      have hN0:0<N5:=by omega
      have hNI:(0:Int)<(N5:Int):=by omega
      have hd0:decide ((N5:Int)>0)=true:=decide_eq_true hNI
      have hd1n:decide (0<N5)=true:=decide_eq_true hN0
      have hks:=K5.out
      rw [hw] at hks
      obtain ⟨A,c,hA,_,_,_,hr⟩:=hks
      obtain ⟨b6,o6,x,rfl,hb6,hx,hcx⟩:=Q2W hr (k:=0) (by simp)
      injection hA with hA1 hA2 hA3
      subst hA1 hA3
      have hxx:x0=x:=by simpa using hx
      subst hxx
      rw [Nat.add_zero] at hcx
      clear hA2
      have hx0:x0≠ []:=Z3J (l:=l) (by rw [hw];simp)
      obtain ⟨c0,r0,hc0⟩: ∃c0 r0,x0=c0::r0:=by
       cases x0 with
       |nil=>exact absurd rfl hx0
       |cons c0 r0=>exact ⟨c0,r0,rfl⟩
      obtain ⟨sv,hsv⟩: ∃sv,sv=bs x0:=⟨_,rfl⟩
      have hsz0:(0:Int)<(sv.size:Int):=by rw [hsv,Q0q,hc0];simp
      have hix: ∀W,(Instr.index 9 (.string sv) (.int .i64 0)).run Tryz.prog W= .ok (.int .u8 (c0.toNat:Int)) W:=fun W=>by
       rw [run_index_string W _ _ _ _ Tryz.underlying9,dif_pos ⟨by omega,hsz0⟩]
       subst hsv
       subst hc0
       rfl
      by_cases hc35:c0=35
      ·have hb35:((c0.toNat:Int) !=35)=false:=by rw [hc35];rfl
       have hl0:Q0v Q0C R.2 [l]=([],R.2):=Q8G (by rw [hw,hc0,hc35];rfl)
       have HX:=Qh (show Q0v Q0C Q1l (T.take (k+1))=R by rw [HNXT.out,hl0,List.append_nil])
       rw [hl0] at HOKN
       rw [<-hsv] at hcx
       clear hw hl0 hc35 hsv hc0 hx hx0 hr
       go_wp2_with fail
       exact ⟨⟨k+1,by omega,by go_num,by rw [HX.out,HSO.out],by rw [HX.out];exact DKI.out,by rw [HX.out];exact HOKN.out,by rw [HX.out];have:=LEN.out;omega,BELI.out,LAYI.out⟩,by simp [intOf]<;>omega⟩
      ·have hb35:((c0.toNat:Int) !=35)=true:=by
        rw [bne_iff_ne];intro h
        exact hc35 (UInt8.toNat_inj.1 (by rw [show (35:UInt8).toNat=35 from rfl];omega))
       have hl0:Q0v Q0C R.2 [l]=((Q0C R.2 x0 ws).1++ [10],(Q0C R.2 x0 ws).2):=Q9g hw (by
        rw [hw,hc0]
        simp [Z2c,hc35])
       have HX:=Qh (show Q0v Q0C Q1l (T.take (k+1))=(R.1++((Q0C R.2 x0 ws).1++ [10]),(Q0C R.2 x0 ws).2) by rw [HNXT.out,hl0])
       rw [hl0] at HOKN
       have htw:=HTOT.out
       rw [hw] at htw
       have htc:=Q2u x0 ws
       have htl:=Q4q ws
       have hsl:=Z4K OK.out (by omega) x0 ws (by omega)
       have hfrom:=(show Q1g wi (.slice (some ⟨b6,o6,none⟩) (x0::ws).length c5) (x0::ws) by have:=K5.out;rw [hw] at this;exact this).from_ 1 (by simp)
       rw [show (x0::ws).length=N5 by rw [HN5.out,hw]] at hfrom
       have hs1:=Q3G (some ⟨b6,o6,none⟩) N5 c5 1 1 rfl hN1
       have hs2: ∀W,(Instr.sliceAt 24 (.slice (some ⟨b6,o6,none⟩) N5 c5) (some (.int .i64 1)) none none).run Tryz.prog W=_:=fun W=>(run_sliceAt_slice W _ _ _ _ _ Tryz.underlying24).trans (hs1 W)
       obtain ⟨vt,hvt⟩: ∃vt,vt=Value.slice (if c5=1 then some ⟨b6,o6,none⟩ else (some (⟨b6,o6,none⟩:Addr)).map (·.add (1 * 1))) (N5 - 1) (c5 - 1):=⟨_,rfl⟩
       rw [<-hvt] at hfrom hs1 hs2
       have KV:=Qh (show Q1g wi vt ws from hfrom)
       have CD:=Qh (fun q=>Y1n (B+1) B k R.2 x0 vt ws (wi.drewN q) (DKI.out.below (below_drewN (Below.refl _ _) q)) OK.out (by omega) (by omega) hszi (KV.out.drewN q) (by omega) (LAYI.out.low (below_drewN (Below.refl _ _) q)))
       rw [<-hsv] at hcx CD
       obtain ⟨ans,hans⟩: ∃ans,ans=(Q0C R.2 x0 ws).1:=⟨_,rfl⟩
       obtain ⟨st2,hst2⟩: ∃st2,st2=(Q0C R.2 x0 ws).2:=⟨_,rfl⟩
       rw [<-hans,<-hst2] at CD HX HOKN
       rw [<-hans] at hsl
       obtain ⟨sa,hsa⟩: ∃sa,sa=bs ans:=⟨_,rfl⟩
       have hsas:sa.size<=2200000:=by rw [hsa,Q0q];exact hsl
       have hlo:=LEN.out
       have hsos:so.size<=2200001 * k:=by rw [HSO.out,Q0q];exact hlo
       have t1: ∀W,(Op.stringOp .add sa ⟨#[10]⟩).run Tryz.prog W= .ok (.string (sa++⟨#[10]⟩)) W:=fun W=>run_string_add_sum W sa _ (by have:(⟨#[10]⟩:ByteArray).size=1:=rfl;omega)
       have hsb:(sa++(⟨#[10]⟩:ByteArray)).size=sa.size+1:=by rw [ByteArray.size_append];rfl
       obtain ⟨sb,hsbe⟩: ∃sb,sb=sa++(⟨#[10]⟩:ByteArray):=⟨_,rfl⟩
       rw [<-hsbe] at t1 hsb
       have t2: ∀W,(Op.stringOp .add so sb).run Tryz.prog W= .ok (.string (so++sb)) W:=fun W=>run_string_add_sum W so _ (by omega)
       have HSA:=Qh (show so++sb=bs (R.1++(ans++ [10])) by rw [hsbe,HSO.out,hsa,<-Q0p R.1,<-Q0p ans];rfl)
       rw [<-hsa] at CD
       have HLN:=Qh (show (R.1++(ans++ [10])).length<=2200001 * (k+1) by simp only [List.length_append,List.length_singleton];omega)
       clear hw hl0 hc35 hsv hc0 hx hx0 hr htw htc htl hsl hfrom hvt hans hst2 hsa hlo hsbe
       go_wp2_with fail
       refine Q1X [true,false,false,false,false,false,false] (by kernel_rfl) (by kernel_rfl) (fun _ _ _ _ _ h=>h) ?_
       simp only [List.length_cons,List.length_nil,Nat.zero_add,Nat.reduceAdd,List.take_succ_cons,List.take_zero,List.drop_succ_cons,List.drop_zero,Z2Q,Z2R,Q4s,moved]
       simp [Act.put,Act.eval]
       repeat (go_big_quiet_step ((fail)))
       refine wpQuiet_nil ?_
       intro nq
       go_wp2_with fail
       refine (CD.out _).mono ?_
       rintro e W6 ⟨rfl,hd6,hl6⟩
       have DK6:=Qh hd6
       have B6:=Qh (show Below B wi W6 from (below_drewN (Below.refl B wi) nq).trans (hl6.low (by omega) (Nat.le_refl _) (by have:=hszi;show B<=wi.heap.size;omega)))
       clear hd6 hl6
       try dsimp only
       go_wp2_with fail
       exact ⟨⟨k+1,by omega,by go_num,by rw [HX.out,<-HSA.out],by rw [HX.out];exact DK6.out,by rw [HX.out];exact HOKN.out,by rw [HX.out];exact HLN.out,BELI.out.trans B6.out,LAYI.out.low B6.out⟩,by simp [intOf]<;>omega⟩
    ·obtain rfl:k=M:=by omega
     have HF:=Qh (show Q0v Q0C Q1l T=R by rw [<-HRR.out,List.take_of_length_le (by rw [HM.out];exact Nat.le_refl _)])
     rw [HF.out] at HP
     have B9:=Qh (B1.out.trans (BW2.out.mono B1.out.size))
     have hBw:w.heap.size<=B:=by rw [HB.out];exact B1.out.size
     rw [<-HSO.out] at HP
     go_wp2_with fail
     exact HP.out _ (B9.out.trans (BEL.out.mono hBw))
end Go.Proofs.YtploomncapiloaaGreatDoor
