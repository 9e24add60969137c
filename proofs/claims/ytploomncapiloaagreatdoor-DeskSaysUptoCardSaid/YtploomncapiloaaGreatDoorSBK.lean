/- Parts of the proof, put together by a program: RefU RefE. No condition. -/
import Derived.Test.YtploomncapiloaaGreatDoorSBJ
set_option maxRecDepth 100000
set_option maxHeartbeats 8000000
namespace Go.Proofs.YtploomncapiloaaGreatDoor
open Go.RowKit Go.Maps Croft
theorem Q1S.frozen {w:World} {base g n c:Nat} {gs:List Gt} (h:Q1S w base (.slice (some ⟨g,0,none⟩) n c) gs) (i:Nat):w.frozen? ⟨g,i,none⟩=false:=by
 have hn:n=gs.length:=by
  rcases h.1.2 with ⟨hv,_⟩|⟨g',cap,cur,hv,_⟩
  ·simp at hv
  ·injection hv
 subst hn
 exact h.1.frozenAt i
theorem Z6M (v vi:Value) (gs:List Gt) (os ins:List Int) (w:World) (h:Q1m w v gs os) (hi:Q0h w vi ins) (h0:Q0U gs os=0) (hl:ins.length=(Q0E gs).length):
  Calls Tryz.prog 89 #[v,vi] w fun e w'=> ∃v,e= .returned v/\Q0c w' w.heap.size v (Q0g (Q3P gs os (Q0f ins)))/\Below w.heap.size w w':=by
 have OK:=Qh (Q0Q.1 h0)
 have hg30:=OK.out.g2
 have ho30:=OK.out.o2
 have HL:=Qh hl
 have KI:=Qh hi
 obtain ⟨vg,vo,rfl,hg,ho⟩:=h
 have KG:=Qh hg
 have KO:=Qh ho
 obtain ⟨A1,c1,rfl,hc1,hm1,hl1,hu1,hr1⟩:=hg
 obtain ⟨A2,c2,rfl,hc2,hm2,hl2,hu2,hr2⟩:=ho
 obtain ⟨A3,c3,rfl,hc3,hm3,hl3,hu3,hr3⟩:=hi
 have BB:=Qh (((Below.refl w.heap.size w).alloc (Nat.le_refl _) (.cells #[.slice A1 gs.length c1,.slice A2 os.length c2] 85)).alloc (by rw [size_alloc];omega) (.map #[] 0))
 have BX0:=Qh ((Box.new w 85 [.slice A1 gs.length c1,.slice A2 os.length c2]).alloc (.map #[] 0))
 have VM0:=Qh (show Q3f ((w.alloc (.cells #[.slice A1 gs.length c1,.slice A2 os.length c2] 85)).alloc (.map #[] 0)) (w.heap.size+1) [] by
  have h:=Q3f.made (w.alloc (.cells #[.slice A1 gs.length c1,.slice A2 os.length c2] 85))
  rw [size_alloc] at h
  exact h)
 obtain ⟨I,hI⟩: ∃I,I=Q0f ins:=⟨_,rfl⟩
 rw [<-hI]
 have HI:=Qh hI
 have HIL:=Qh (show I.length=(Q0E gs).length by rw [hI,Q0l];exact hl)
 suffices hgoal: ∀Post:Ending->World->Prop,(∀v w',Q0c w' w.heap.size v (Q0g (Q3P gs os I))->Below w.heap.size w w'->Post (.returned v) w')->Calls Tryz.prog 89 #[.agg #[.slice A1 gs.length c1,.slice A2 os.length c2],.slice A3 ins.length c3] w Post from hgoal _ fun v w' h1 h2=>⟨v,rfl,h1,h2⟩
 intro Post hpo
 have HP:=Qh hpo
 clear hpo hu1 hr1 hm1 hu2 hr2 hm2 hu3 hr3 hm3 h0 hl hI
 have hmk:= @run_makeMap Tryz.prog
 go_enter Tryz.func89,Tryz.ntmps89
 go_wp2_with fail
 go_loopw [7] (fun i wr=> ∃k:Nat,k<=gs.length/\i= .int .i64 k/\Q3f wr (w.heap.size+1) (cw gs I k)/\Box wr w.heap.size 85 [.slice A1 gs.length c1,.slice A2 os.length c2]/\Below w.heap.size w wr) (fun i _=>gs.length - (intOf i).toNat)
 case atStart=>exact ⟨0,Nat.zero_le _,rfl,VM0.out,BX0.out,BB.out⟩
 case round=>
  clear hmk VM0 BX0
  obtain ⟨k,hk,rfl,hvals,hbox,hbel⟩:=hrel
  have VM:=Qh hvals
  have BX:=Qh hbox
  have BEL:=Qh hbel
  have hsz:=hbel.size
  have hvl:=hvals.lt
  have hc0:=hbox.cell (i:=0) rfl
  clear hvals hbox hbel
  by_cases hlt:k<gs.length
  ·have KGF:=Qh ((KG.out.below BEL.out).first (k+1) (by omega))
   obtain ⟨A,c,hA,_,_,_,hu,hr⟩:=(KG.out.below BEL.out)
   injection hA with hA1 hA2 hA3
   subst hA1 hA3
   obtain ⟨b1',o1,g,rfl,hb1,hgk,hgo,ha1,ha2,ha3,ha4⟩:=Q2V hr hu hlt
   have HGK:=Qh hgk
   have hsl:=Z8l (some ⟨b1',o1,none⟩) gs.length c1 (k+1) (by omega)
   obtain ⟨L,hL⟩: ∃L,L=gs.take (k+1):=⟨_,rfl⟩
   have HLL:=Qh (show L.length=k+1 by rw [hL,List.length_take];omega)
   have HLS:=Qh (show L=Q6H gs (cw gs I k) k 0 by rw [hL,Z5Z _ hlt])
   rw [<-hL] at KGF
   clear hL
   clear hr hu hgk hb1 hA2 hgo ha1 ha2 ha3 ha4
   have hsl': ∀W,(Instr.sliceAt 83 (.slice (some ⟨b1',o1,none⟩) gs.length c1) none (some (.int .i64 ((k:Int)+1))) none).run Tryz.prog W= .ok (.slice (some ⟨b1',o1,none⟩) (k+1) c1) W:=hsl
   clear hsl
   go_wp2_with (at_builtin;go_loud (refine Q9e rfl _ _ rfl L (k+1) b1' o1 c1 HLL.out rfl rfl KGF.out (by rw [HLL.out];omega) (by rw [HLL.out];omega) ?_))
   intro gb cap W1 ho1 hgb hb1
   rw [HLS.out] at ho1
   have hs1:=hb1.size
   have KD:=Qh ((show Q1S W1 wr.heap.size _ _ from ho1))
   have hb2:Below w.heap.size w (W1.alloc (.cells #[.slice (some ⟨gb,0,none⟩) (k+1) cap,.slice none 0 0] 85)):=(Q0b BEL.out hb1 hsz).alloc (by omega) _
   have hbw:Below wr.heap.size wr (W1.alloc (.cells #[.slice (some ⟨gb,0,none⟩) (k+1) cap,.slice none 0 0] 85)):=hb1.alloc hs1 _
   have hgs:gb<W1.heap.size:=(ho1.1.lt gb rfl).2
   have BW:=Qh hbw
   have B2:=Qh hb2
   have KD2:=Qh (ho1.below ((Below.refl W1.heap.size W1).alloc (Nat.le_refl _) (.cells #[.slice (some ⟨gb,0,none⟩) (k+1) cap,.slice none 0 0] 85)))
   have BXD:=Qh (Box.new W1 85 [.slice (some ⟨gb,0,none⟩) (k+1) cap,.slice none 0 0])
   clear ho1 hb1 hb2 hbw hc0
   go_wp2_with fail
   obtain ⟨db,hdb⟩: ∃db,db=W1.heap.size:=⟨_,rfl⟩
   obtain ⟨W2,hW2⟩: ∃W2,W2=W1.alloc (.cells #[.slice (some ⟨gb,0,none⟩) (k+1) cap,.slice none 0 0] 85):=⟨_,rfl⟩
   rw [<-hW2] at BW B2 KD2 BXD⊢
   rw [<-hdb] at BXD hgs⊢
   have VM2:=Qh (VM.out.below BW.out)
   have BX2:=Qh (BX.out.below BW.out)
   have hs2:=BW.out.size
   have hdw:wr.heap.size<=db:=by omega
   clear hW2 hdb hs1
   obtain ⟨wo,hwo⟩: ∃wo,wo=wr:=⟨_,rfl⟩
   subst hwo
   go_loopw [9] (fun i wr=> ∃j:Nat,j<=k/\i= .int .i64 j/\Q1S wr wo.heap.size (.slice (some ⟨gb,0,none⟩) (k+1) cap) (Q6H gs (cw gs I k) k j)/\Q3f wr (w.heap.size+1) (cw gs I k)/\Box wr w.heap.size 85 [.slice (some ⟨b1',o1,none⟩) gs.length c1,.slice A2 os.length c2]/\Box wr db 85 [.slice (some ⟨gb,0,none⟩) (k+1) cap,.slice none 0 0]/\Below wo.heap.size wo wr) (fun i _=>k - (intOf i).toNat)
   case atStart=>exact ⟨0,Nat.zero_le _,rfl,KD2.out,VM2.out,BX2.out,BXD.out,BW.out⟩
   case round=>
    obtain ⟨j,hj,rfl,hgs2,hvals,hbx,hbd,hbel⟩:=hrel
    clear KD2 VM2 BX2 BXD BW B2 KD
    have KD2:=Qh hgs2
    have VM2:=Qh hvals
    have BX2:=Qh hbx
    have BXD:=Qh hbd
    have BW:=Qh hbel
    have hszw:=hbel.size
    have hd0:=hbd.cell (i:=0) rfl
    clear hgs2 hvals hbx hbd hbel
    by_cases hltj:j<k
    ·have hgj:gs[j]? =some gs[j]:=List.getElem?_eq_getElem (by omega)
     obtain ⟨g',hg'⟩: ∃g',g'=gs[j]:=⟨_,rfl⟩
     rw [<-hg'] at hgj
     have hsg:(Q6H gs (cw gs I k) k j)[j]? =some g':=by rw [Q3U _ _ _ _ _ (by omega),Q7U hgj (Nat.le_refl _)]
     obtain ⟨A,c,hA,_,_,_,hu,hr⟩:=KD2.out.is
     rw [Q2e] at hA
     injection hA with hA1 hA2 hA3
     subst hA1 hA3
     obtain ⟨b3,o3,g3,he3,hb3,hgk3,hgo3,hd1,hd2,hd3,hd4⟩:=Q2V hr hu (k:=j) (by rw [Q2e];omega)
     injection he3 with he3
     injection he3 with he4 he5
     subst he4 he5
     rw [hsg] at hgk3
     obtain rfl:=Option.some.inj hgk3
     simp only [Nat.zero_add] at hd1 hd2 hd3 hd4
     have HST:=Qh (Z8k (cw gs I k) hgj hltj hlt)
     have hlk:=VM2.out.look (j:=j) (by rw [Q2j];exact hltj) (by omega)
     clear hr hu hgk3 hgo3 hsg hg' hA2 hgj
     by_cases hk1:g'.kind=1
     ·have HK:=Qh hk1
      rw [hk1] at hd1
      clear hk1
      go_wp2_with fail
      exact ⟨⟨j+1,by omega,by go_num,by rw [HST.out,if_pos HK.out];exact KD2.out,VM2.out,BX2.out,BXD.out,BW.out⟩,by simp [intOf]<;>omega⟩
     ·have hkb:(g'.kind !=1)=true:=by rw [bne_iff_ne];exact hk1
      have HK:=Qh hk1
      have hf0:=KD2.out.frozen (j * 4)
      have hf1:=KD2.out.frozen (j * 4+1)
      have hf2:=KD2.out.frozen (j * 4+2)
      have hf3:=KD2.out.frozen (j * 4+3)
      obtain ⟨xv,hxv⟩: ∃xv,xv=ofF (co (cw gs I k) j):=⟨_,rfl⟩
      have hux:U64 xv:=by rw [hxv];exact U64.of_ofF _
      have hgr:wr.grownBy (wr.setCells gb (j * 4) (Q6Q ⟨2,0,0,xv⟩)) (some gb):=Q7q gb _ _ _
      have KD5:=Qh (show Q1S (wr.setCells gb (j * 4) (Q6Q ⟨2,0,0,xv⟩)) wo.heap.size (.slice (some ⟨gb,0,none⟩) (k+1) cap) (Q6H gs (cw gs I k) k (j+1)) by
       rw [HST.out,if_neg HK.out,<-hxv]
       exact KD2.out.set (by rw [Q2e];omega) _ ⟨show I64 2 by unfold I64;omega,show I64 0 by unfold I64;omega,show I64 0 by unfold I64;omega,hux⟩)
      have VM5:=Qh (VM2.out.grown hgr (by intro e;injection e with e;omega))
      have BX5:=Qh (BX2.out.grown hgr (by intro e;injection e with e;omega))
      have BXD5:=Qh (BXD.out.grown hgr (by intro e;injection e with e;omega))
      have BW5:=Qh (BW.out.grown hgr hszw (fun q hq=>by injection hq with hq;omega))
      rw [<-hxv] at hlk
      clear hk1 hgr hxv hux
      go_wp2_with fail
      exact ⟨⟨j+1,by omega,by go_num,KD5.out,VM5.out,BX5.out,BXD5.out,BW5.out⟩,by simp [intOf]<;>omega⟩
    ·obtain rfl:j=k:=by omega
     have hB9:Below w.heap.size w wr:=Q0b BEL.out BW.out hsz
     have B9:=Qh hB9
     have hd1:=BXD.out.cell (i:=1) rfl
     have KC9:=Qh (show Q1m wr (.agg #[.slice (some ⟨gb,0,none⟩) (j+1) cap,.slice none 0 0]) (Q6H gs (cw gs I j) j j) [] from ⟨_,_,rfl,KD2.out.is,(Q0j.nil wr 0).is⟩)
     have HDJ:=Qh (show (Q6H gs (cw gs I j) j j)[j]? =some g by rw [Q3U _ _ _ _ _ (by omega),Q7U HGK.out (Nat.le_refl _)])
     have hcj:=Y0U (cw gs I j) hlt j (Nat.le_refl _)
     have HLF:=Qh (Y3G hlt HIL.out)
     obtain ⟨x,hx⟩: ∃x,x=Z2C (cw gs I j) (co I (cin gs j)) g:=⟨_,rfl⟩
     have CV:=Qh (show Calls Tryz.prog 131 #[.agg #[.slice (some ⟨gb,0,none⟩) (j+1) cap,.slice none 0 0],.slice A3 ins.length c3,.int .i64 j] wr fun e w'=>e= .returned (.int .u64 (ofF x))/\Below wr.heap.size wr w' by
      have h:=Y5l _ _ _ _ ins j g (cw gs I j) wr KC9.out (KI.out.below hB9) HDJ.out (OK.out.right j g HGK.out) (by rw [<-HI.out];exact HLF.out) (fun hk=>by rw [hcj,HL.out];exact Z6m HGK.out hk)
      rw [hcj,<-HI.out,<-hx] at h
      exact h)
     have HCW:=Qh (show cw gs I (j+1)=cw gs I j++ [x] by rw [Z2D HGK.out,hx])
     clear hcj hx hB9 KC9
     go_wp2_with fail
     refine CV.out.mono ?_
     rintro e W6 ⟨rfl,hb6⟩
     have VM6:=VM2.out.below hb6
     have BX6:=Qh (BX2.out.below hb6)
     have B6:=Qh (Q0b B9.out hb6 B9.out.size)
     have hs6:=B6.out.size
     obtain ⟨D,hD⟩:=VM6
     have HD:=Qh hD
     have hown:=hD.1
     rw [Q2j] at hown
     have HOWN:=Qh hown
     clear hb6 hD hown hd0 hd1 CV
     try dsimp only
     go_wp2_with (at_mapUpdate;refine wpList_mapUpdate_own _ rfl _ _ _ 156 rfl 3 67 vlaw Tryz.underlying156 _ (w.heap.size+1) j D rfl HOWN.out (by unfold maxLen;omega) _ _ (.int .i64 (j:Int)) rfl rfl (vkey (by unfold I64;omega)) (.lit (.int .u64 (ofF x))) [] (plainElem_int Tryz.underlying67 (vwf x)) ?_)
     intro w1 hown1 hgrow1
     have VM1:=Qh (show Q3f w1 (w.heap.size+1) (cw gs I (j+1)) by
      rw [HCW.out]
      exact Q3f.put HD.out (by rw [Q2j];exact hown1))
     have BX1:=Qh (BX6.out.grown hgrow1 (by intro e;injection e with e;omega))
     have B1:=Qh (B6.out.grown hgrow1 hs6 (fun q hq=>by injection hq with hq;omega))
     clear hown1 hgrow1
     go_wp2_with fail
     exact ⟨⟨j+1,by omega,by go_num,VM1.out,BX1.out,B1.out⟩,by simp [intOf]<;>omega⟩
  ·obtain rfl:k=gs.length:=by omega
   obtain ⟨wo,hwo⟩: ∃wo,wo=wr:=⟨_,rfl⟩
   subst hwo
   have hc1':=BX.out.cell (i:=1) rfl
   go_wp2_with fail
   clear hc0 hc1'
   go_loopw [5,10] (fun v i wr=> ∃q:Nat,q<=os.length/\i= .int .i64 q/\Q0c wr wo.heap.size v (Q0g (Q4f gs os I q))/\Below wo.heap.size wo wr) (fun _ i _=>os.length - (intOf i).toNat)
   case atStart=>exact ⟨0,Nat.zero_le _,rfl,Q0c.nil _ _,Below.refl _ _⟩
   case round=>
    obtain ⟨q,hq,rfl,hown,hbel⟩:=hrel
    have KW:=Qh hown
    have BW:=Qh hbel
    have hszw:=hbel.size
    have BX2:=Qh (BX.out.below hbel)
    have hc1':=BX2.out.cell (i:=1) rfl
    have B9:=Qh (Q0b BEL.out hbel hsz)
    have VM2:=Qh (VM.out.below hbel)
    clear hown hbel
    by_cases hltq:q<os.length
    ·obtain ⟨A,c,hA,_,_,_,hu,hr⟩:=KO.out.below B9.out
     injection hA with hA1 hA2 hA3
     subst hA1 hA3
     clear hA2
     obtain ⟨b2,o2,z,rfl,hb2,hgz,hat,hcz⟩:=ints_at hr hu hltq
     obtain ⟨hz0,hz1⟩:=OK.out.outs z (List.mem_of_getElem? hgz)
     obtain ⟨n,rfl⟩: ∃n:Nat,z=n:=⟨z.toNat,by omega⟩
     have HN:=Qh (Q7I gs os I hgz)
     rw [Int.toNat_natCast] at HN
     have hlk:=VM2.out.look (j:=n) (by rw [Q2j];omega) (by omega)
     have HOL:=Qh (show (Q0g (Q4f gs os I q)).length<=30 by rw [Q0d];unfold Q4f;rw [List.length_map,List.length_take];omega)
     clear hr hu hb2 hgz
     go_wp2_with (at_builtin;go_loud (refine Q0B rfl _ _ rfl wo.heap.size _ _ (ofF (co (cw gs I gs.length) n)) wr.heap.size 1 rfl (KW.out.alloc _) rfl (Q0o _ _ _) (U64.of_ofF _) (by have:=HOL.out;omega) (by rw [size_alloc];omega) ?_))
     intro v' w5 hown' hbel'
     rw [<-HN.out] at hown'
     have K5:=Qh hown'
     have B5:=Qh ((BW.out.alloc hszw (.cells #[.int .u64 (ofF (co (cw gs I gs.length) n))] 67)).trans hbel')
     clear hown' hbel' hlk hc1'
     go_wp2_with fail
     exact ⟨⟨q+1,by omega,by go_num,K5.out,B5.out⟩,by simp [intOf]<;>omega⟩
    ·obtain rfl:q=os.length:=by omega
     have HF:=Qh (Q7J gs os I)
     rw [HF.out] at KW
     go_wp2_with fail
     exact HP.out _ _ (KW.out.less BEL.out.size) B9.out
end Go.Proofs.YtploomncapiloaaGreatDoor
namespace Go.Proofs.YtploomncapiloaaGreatDoor
open Go.RowKit Croft
theorem Y0V (v:Value) (gs:List Gt) (os:List Int) (n t:Int) (w:World) (h:Q1m w v gs os):
  Calls Tryz.prog 86 #[v,.int .i64 n,.int .i64 t] w fun e w'=>e= .returned (.int .i64 (Q3i gs os n t))/\Below w.heap.size w w':=by
 have KC:=Qh h
 obtain ⟨vg,vo,rfl,hg,ho⟩:=h
 obtain ⟨A1,c1,rfl,hc1,hm1,hl1,hu1,hr1⟩:=hg
 obtain ⟨A2,c2,rfl,hc2,hm2,hl2,hu2,hr2⟩:=ho
 have BB:=Qh ((Below.refl w.heap.size w).alloc (Nat.le_refl _) (.cells #[.slice A1 gs.length c1,.slice A2 os.length c2] 85))
 have BX:=Qh (Box.new w 85 [.slice A1 gs.length c1,.slice A2 os.length c2])
 clear hu1 hr1 hm1 hu2 hr2 hm2
 suffices hgoal: ∀Post:Ending->World->Prop,(∀w',Below w.heap.size w w'->Post (.returned (.int .i64 (Q3i gs os n t))) w')->Calls Tryz.prog 86 #[.agg #[.slice A1 gs.length c1,.slice A2 os.length c2],.int .i64 n,.int .i64 t] w Post from hgoal _ fun w' h=>⟨rfl,h⟩
 intro Post hpo
 have HP:=Qh hpo
 clear hpo
 obtain ⟨E,hE⟩: ∃E,E=Q0U gs os:=⟨_,rfl⟩
 have HE:=Qh hE
 clear hE
 by_cases h0:E=0
 ·have HCE:=Qh (show Q0U gs os=0 by rw [<-HE.out];exact h0)
  have HWL:=Qh (show (Q0E gs).length<=30 from Nat.le_trans (Z0G gs) (Q0Q.1 HCE.out).g2)
  subst h0
  obtain ⟨B0,hB0⟩: ∃B0,B0=decide (Q5M n t):=⟨_,rfl⟩
  have HCR:=Qh (show Q3i gs os n t=if (B0 && (Q0E gs).all fun z=>decide (z<=n))=true then 0 else 1 by
   have hall:((Q0E gs).any (over n))= !((Q0E gs).all fun z=>decide (z<=n)):=by
    rw [List.not_all_eq_any_not]
    congr 1
    funext z
    unfold over
    rw [Bool.eq_iff_iff]
    simp
   unfold Q3i
   rw [if_pos HCE.out,hall,hB0]
   by_cases hc:Q5M n t
   ·rw [if_pos hc,decide_eq_true hc]
    cases (Q0E gs).all fun z=>decide (z<=n)<;>rfl
   ·rw [if_neg hc,decide_eq_false hc]
    rfl)
  obtain ⟨b1,hb1⟩: ∃b1,b1=decide (0<=t/\t<=4):=⟨_,rfl⟩
  obtain ⟨b2,hb2⟩: ∃b2,b2=decide (1<=n/\n<=9):=⟨_,rfl⟩
  have CT:=Qh (show∀W,Calls Tryz.prog 41 #[.int .i64 t,.int .i64 0,.int .i64 4] W fun e w'=>e= .returned (.bool b1)/\W=w' from fun W=>by rw [hb1];exact Q1N t 0 4 W)
  have CN:=Qh (show∀W,Calls Tryz.prog 41 #[.int .i64 n,.int .i64 1,.int .i64 9] W fun e w'=>e= .returned (.bool b2)/\W=w' from fun W=>by rw [hb2];exact Q1N n 1 9 W)
  have hcases:(b1=false/\B0=false)∨(b1=true/\b2=false/\B0=false)∨(b1=true/\b2=true/\0<=t/\t<=4/\decide (2 * t+1<=n)=false/\B0=false)∨(b1=true/\b2=true/\0<=t/\t<=4/\decide (2 * t+1<=n)=true/\B0=true):=by
   by_cases q1:0<=t/\t<=4
   ·by_cases q2:1<=n/\n<=9
    ·by_cases q3:n>=2 * t+1
     ·exact .inr (.inr (.inr ⟨by rw [hb1,decide_eq_true q1],by rw [hb2,decide_eq_true q2],q1.1,q1.2,decide_eq_true q3,by rw [hB0];exact decide_eq_true (by unfold Q5M;omega)⟩))
     ·exact .inr (.inr (.inl ⟨by rw [hb1,decide_eq_true q1],by rw [hb2,decide_eq_true q2],q1.1,q1.2,decide_eq_false q3,by rw [hB0];exact decide_eq_false (by unfold Q5M;omega)⟩))
    ·exact .inr (.inl ⟨by rw [hb1,decide_eq_true q1],by rw [hb2,decide_eq_false q2],by rw [hB0];exact decide_eq_false (by unfold Q5M;omega)⟩)
   ·exact .inl ⟨by rw [hb1,decide_eq_false q1],by rw [hB0];exact decide_eq_false (by unfold Q5M;omega)⟩
  clear hb1 hb2 hB0
  rcases hcases with ⟨rfl,hB⟩|⟨rfl,rfl,hB⟩|⟨rfl,rfl,ht0,ht4,hnt,hB⟩|⟨rfl,rfl,ht0,ht4,hnt,hB⟩
  all_goals
   have HB0:=Qh hB
   clear hB
   go_enter Tryz.func86,Tryz.ntmps86
   go_wp2_with fail
   refine (Z1h _ gs os _ (KC.out.below BB.out)).mono ?_
   rintro e W1 ⟨rfl,hb⟩
   rw [HCE.out]
   have B1:=Qh (Q0b BB.out hb BB.out.size)
   have BX1:=Qh (BX.out.below hb)
   have hc0:=BX1.out.cell (i:=0) rfl
   have hc1':=BX1.out.cell (i:=1) rfl
   clear hb
   try dsimp only
   go_wp2_with fail
   refine (CT.out _).mono ?_
   rintro e w' ⟨rfl,rfl⟩
   try dsimp only
   go_wp2_with fail
   first
    |(have hskip:=b2;clear hskip)
    |(refine (CN.out _).mono ?_;rintro e w' ⟨rfl,rfl⟩;try dsimp only;go_wp2_with fail)
   refine (Q7e _ gs os _ (KC.out.below B1.out)).mono ?_
   rintro e W2 ⟨vw,rfl,ho,hb⟩
   have B2:=Qh (Q0b B1.out hb B1.out.size)
   have KW:=Qh ho.is
   obtain ⟨Aw,cw',hv,_,_⟩:=Q0k ho.1
   subst hv
   clear ho hb hc0 hc1'
   try dsimp only
   go_wp2_with fail
   go_loopw [8,10] (fun x i wr=> ∃k:Nat,k<=(Q0E gs).length/\i= .int .i64 k/\x= .bool (B0 && ((Q0E gs).take k).all fun z=>decide (z<=n))/\wr=W2) (fun _ i _=>(Q0E gs).length - (intOf i).toNat)
   case atStart=>exact ⟨0,Nat.zero_le _,rfl,by rw [HB0.out];rfl,rfl⟩
   case round=>
    obtain ⟨k,hk,rfl,rfl,rfl⟩:=hrel
    obtain ⟨bk,hbk⟩: ∃bk,bk=(B0 && ((Q0E gs).take k).all fun z=>decide (z<=n)):=⟨_,rfl⟩
    rw [<-hbk]
    have HBK:=Qh hbk
    clear hbk
    have hwl30:=HWL.out
    by_cases hlt:k<(Q0E gs).length
    ·obtain ⟨A,c,hA,_,_,_,hu,hr⟩:=KW.out
     injection hA with hA1 hA2 hA3
     subst hA1 hA3
     clear hA2
     obtain ⟨b1',o1,z,rfl,hb1,hgk,hat,hca⟩:=ints_at hr hu hlt
     have HN:=Qh (show (B0 && ((Q0E gs).take (k+1)).all fun z=>decide (z<=n))=(bk && decide (z<=n)) by
      rw [List.take_add_one,hgk,Option.toList_some,List.all_append,<-Bool.and_assoc,<-HBK.out]
      simp)
     clear hr hu hgk hb1
     cases bk with
     |false=>
      go_wp2_with fail
      exact ⟨⟨k+1,by omega,by go_num,by rw [HN.out];rfl,by first|rfl|trivial⟩,by simp [intOf]<;>omega⟩
     |true=>
      go_wp2_with fail
      exact ⟨⟨k+1,by omega,by go_num,by rw [HN.out];simp,by first|rfl|trivial⟩,by simp [intOf]<;>omega⟩
    ·obtain rfl:k=(Q0E gs).length:=by omega
     have HTK:=Qh (show (Q0E gs).take (Q0E gs).length=Q0E gs from List.take_length)
     have HR:=Qh (show Q3i gs os n t=if bk=true then 0 else 1 by rw [HCR.out,HBK.out,HTK.out])
     cases bk with
     |false=>
      go_wp2_with fail
      have hp:=HP.out
      rw [HR.out] at hp
      exact hp _ B2.out
     |true=>
      go_wp2_with fail
      have hp:=HP.out
      rw [HR.out] at hp
      exact hp _ B2.out
 ·have hb:(E !=0)=true:=by rw [bne_iff_ne];exact h0
  have HR:=Qh (show Q3i gs os n t=E by unfold Q3i;rw [if_neg (by rw [<-HE.out];exact h0)];exact HE.out.symm)
  clear h0
  rw [HR.out] at HP
  go_enter Tryz.func86,Tryz.ntmps86
  go_wp2_with fail
  refine (Z1h _ gs os _ (KC.out.below BB.out)).mono ?_
  rintro e W1 ⟨rfl,hb1⟩
  rw [<-HE.out]
  have B1:=Qh (Q0b BB.out hb1 BB.out.size)
  clear hb1
  try dsimp only
  go_wp2_with fail
  exact HP.out _ B1.out
theorem Z8m (v:Value) (gs:List Gt) (os:List Int) (n t:Nat) (w:World) (h:Q1m w v gs os) (hg30:gs.length<=30) (hn9:n<=9) (ht4:t<=4):
  Calls Tryz.prog 88 #[v,.int .i64 n,.int .i64 t] w fun e w'=>e= .returned (.int .i64 (dat n t gs gs.length))/\Below w.heap.size w w':=by
 obtain ⟨vg,vo,rfl,hg,ho⟩:=h
 have KG:=Qh hg
 obtain ⟨A1,c1,rfl,hc1,hm1,hl1,hu1,hr1⟩:=hg
 obtain ⟨A2,c2,rfl,hc2,hm2,hl2,hu2,hr2⟩:=ho
 have BB:=Qh ((Below.refl w.heap.size w).alloc (Nat.le_refl _) (.cells #[.slice A1 gs.length c1,.slice A2 os.length c2] 85))
 have BX:=Qh (Box.new w 85 [.slice A1 gs.length c1,.slice A2 os.length c2])
 clear hu1 hr1 hm1 hu2 hr2 hm2
 have hmT:(n:Int) * (t:Int)=((n * t:Nat):Int):=by simp
 have hmT2:n * t<=36:=Nat.mul_le_mul hn9 ht4
 have hmT0:0<=(n:Int) * (t:Int)/\(n:Int) * (t:Int)<=36:=by rw [hmT];omega
 have HMT:=Qh hmT
 clear hmT hmT2
 go_enter Tryz.func88,Tryz.ntmps88
 go_wp2_with fail
 go_loopw [7,8] (fun x i wr=> ∃k:Nat,k<=gs.length/\i= .int .i64 k/\x= .int .i64 (dat n t gs k)/\Below w.heap.size w wr/\Box wr w.heap.size 85 [.slice A1 gs.length c1,.slice A2 os.length c2]) (fun _ i _=>gs.length - (intOf i).toNat)
 case atStart=>exact ⟨0,Nat.zero_le _,rfl,rfl,BB.out,BX.out⟩
 case round=>
  obtain ⟨k,hk,rfl,rfl,hbel,hbox⟩:=hrel
  have BEL:=Qh hbel
  have KB:=Qh hbox
  have hc0:=hbox.cell (i:=0) rfl
  have hsz:=hbel.size
  have hdl:dat n t gs k<=36 * k:=Z3P hn9 ht4 k
  clear hbel hbox
  by_cases hlt:k<gs.length
  ·obtain ⟨A,c,hA,_,_,_,hu,hr⟩:=KG.out.below BEL.out
   injection hA with hA1 hA2 hA3
   subst hA1 hA3
   clear hA2
   obtain ⟨b1',o1,g,rfl,hb1,hgk,hgo,ha1,ha2,ha3,ha4⟩:=Q2V hr hu hlt
   obtain ⟨hs1,hs5,hs0⟩:=Z6w (n:=n) (t:=t) hgk
   clear hr hu hgk hgo hb1 ha2 ha3 ha4
   by_cases hk1:g.kind=1
   ·have e:=Qh (hs1 hk1)
    rw [hk1] at ha1
    clear hs1 hs5 hs0 hk1
    go_wp2_with fail
    exact ⟨⟨k+1,by omega,by go_num,by rw [e.out];rfl,BEL.out,KB.out⟩,by simp [intOf]<;>omega⟩
   ·by_cases hk5:g.kind=5
    ·have e:=Qh (hs5 hk5)
     rw [hk5] at ha1
     clear hs1 hs5 hs0 hk5 hk1
     go_wp2_with fail
     exact ⟨⟨k+1,by omega,by go_num,by rw [e.out,HMT.out];rfl,BEL.out,KB.out⟩,by simp [intOf]<;>omega⟩
    ·have e:=Qh (hs0 hk1 hk5)
     have hb1':(g.kind==1)=false:=by rw [beq_eq_false_iff_ne];exact hk1
     have hb5':(g.kind==5)=false:=by rw [beq_eq_false_iff_ne];exact hk5
     clear hs1 hs5 hs0 hk1 hk5
     go_wp2_with fail
     exact ⟨⟨k+1,by omega,by go_num,by rw [e.out],BEL.out,KB.out⟩,by simp [intOf]<;>omega⟩
  ·obtain rfl:k=gs.length:=by omega
   go_wp2_with fail
   go_ret
   exact ⟨rfl,BEL.out⟩
end Go.Proofs.YtploomncapiloaaGreatDoor
