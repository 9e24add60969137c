/- Parts of the proof, put together by a program: RefRe. No condition. -/
import Derived.Test.YtploomncapiloaaGreatDoorSBE
set_option maxRecDepth 100000
set_option maxHeartbeats 8000000
namespace Go.Proofs.YtploomncapiloaaGreatDoor
open Go.RowKit Go.Sort Go.PlainAid Croft
theorem Q1g.pre {w:World} {A:Option Addr} {n c:Nat} {l:List (List UInt8)} (h:Q1g w (.slice A n c) l) (k:Nat) (hk:k<=l.length):Q1g w (.slice A k c) (l.take k):=by
 obtain ⟨A1,c1,e1,e2,e3,e4,e6⟩:=h
 injection e1 with e1a e1b e1c
 subst e1a e1b e1c
 have hl:(l.take k).length=k:=by rw [List.length_take];omega
 refine ⟨_,_,by rw [hl],by rw [hl];omega,by omega,by rw [hl];omega, ?_⟩
 rcases e6 with e6|⟨b,o,rfl,hb,hc⟩
 ·have:l= []:=by simpa [sts] using e6
  subst this;exact .inl (by simp [sts])
 ·refine .inr ⟨b,o,rfl,hb,fun j hj=> ?_⟩
  rw [Q1d,hl] at hj
  rw [hc j (by rw [Q1d];omega),Q3Y,Q3Y,List.getElem?_take,if_pos hj]
theorem Y3F (A:Option Addr) (m c hi:Nat) (y:Int) (hy:y=hi) (h2:hi<=c) (W:World):
  (Instr.slice 24 (.slice A m c) none (some (.int .i64 y)) none).run Tryz.prog W= .ok (.slice A hi c) W:=by
 subst hy
 have hU:Program.underlying Tryz.prog 24=some (.slice (Program.elem Tryz.prog 24)):=by kernel_rfl
 have hs: ∀W,(sizeOf (Program.elem Tryz.prog 24)).run Tryz.prog W= .ok 1 W:=fun W=>by kernel_rfl
 rw [run_slice_h W _ A m c hU .i64 _ (by omega) (by omega),hs]
 have e0:(if c=0 then A else A.map (·.add (0 * 1)))=A:=by
  split
  ·rfl
  ·cases A with
   |none=>rfl
   |some a=>obtain ⟨b,o,p⟩:=a;simp [Addr.add]
 simp [Result.andThen,sliced]
 try simpa using e0
theorem Q8D (l:List UInt8) (w:World) (hvb:Q8B w):
  Calls Tryz.prog 84 #[.string (bs l)] w fun e w'=> ∃v,e= .returned (.tuple #[v,.int .i64 (Q0s l).at_,.int .i64 (Q0s l).e])/\Q1m w' v (Q0s l).gs (Q0s l).os/\Below w.heap.size w w':=by
 have HV:=Qh hvb
 clear hvb
 suffices hgoal: ∀Post:Ending->World->Prop,(∀v w',Q1m w' v (Q0s l).gs (Q0s l).os->Below w.heap.size w w'->Post (.returned (.tuple #[v,.int .i64 (Q0s l).at_,.int .i64 (Q0s l).e])) w')->Calls Tryz.prog 84 #[.string (bs l)] w Post from hgoal _ fun v w' h1 h2=>⟨v,rfl,h1,h2⟩
 intro Post hpo
 have HP:=Qh hpo
 clear hpo
 obtain ⟨s,hs⟩: ∃s,s=bs l:=⟨_,rfl⟩
 have hz:s.size=l.length:=by rw [hs,Q0q]
 have HS:=Qh hs
 rw [<-hs]
 clear hs
 obtain ⟨rb,hrb⟩: ∃rb,rb=w.heap.size:=⟨_,rfl⟩
 have HRB:=Qh hrb
 have HP2:=Qh (show∀v w',Q1m w' v (Q0s l).gs (Q0s l).os->Below rb w w'->Post (.returned (.tuple #[v,.int .i64 (Q0s l).at_,.int .i64 (Q0s l).e])) w' from by rw [hrb];exact HP.out)
 have BR:=Qh (show Box (w.alloc (.cells #[.slice none 0 0,.slice none 0 0] 85)) rb 85 [.slice none 0 0,.slice none 0 0] by rw [hrb];exact Box.new _ _ _)
 have BB:=Qh (show Below rb w (w.alloc (.cells #[.slice none 0 0,.slice none 0 0] 85)) by rw [hrb];exact (Below.refl _ _).alloc (Nat.le_refl _) _)
 by_cases h2048:2048<l.length
 ·have HR:=Qh (show Q0s l=⟨[], [],0,2⟩ by unfold Q0s;rw [if_pos h2048])
  go_enter Tryz.func84,Tryz.ntmps84
  go_wp2_with fail
  refine bodyPost_ret (v:= .tuple #[.agg #[.slice none 0 0,.slice none 0 0],.int .i64 0,.int .i64 2]) ?_ rfl ?_
  ·rw [Q1e rfl]
   go_simp
  ·have hp:=HP.out (.agg #[.slice none 0 0,.slice none 0 0]) (w.alloc (.cells #[.slice none 0 0,.slice none 0 0] 85)) (by rw [HR.out];exact ⟨_,_,rfl,Q2g.nil _,Q0y.nil _⟩) (hrb▸BB.out)
   rw [HR.out] at hp
   exact hp
 ·have CP:=Qh (fun (x:List UInt8) (c:UInt8) (W:World) (hx:x.length<=2048)=>Q7G x c W (by omega))
  have HL2:=Qh (show l.length<=2048 by omega)
  have HR:=Qh (show Q0s l=Q2t (Q1z [] [] 1 (pieces 10 l)) by unfold Q0s;rw [if_neg h2048])
  have CP1:=Qh (fun W=>CP.out l 10 W HL2.out)
  rw [<-HS.out] at CP1
  go_enter Tryz.func84,Tryz.ntmps84
  go_wp2_with fail
  refine (CP1.out _).mono ?_
  rintro e W1 ⟨v,rfl,ho,hb⟩
  have B1:=Qh (show Below rb w W1 from Q0b BB.out hb (Nat.le_trans (Nat.le_of_eq HRB.out) BB.out.size))
  have BR1:=Qh (BR.out.below hb)
  have KP:=Qh ho
  obtain ⟨A,cap,rfl,hca,hcm⟩:=Q0k ho.1
  obtain ⟨n,hn⟩: ∃n,(pieces 10 l).length=n+1:=⟨(pieces 10 l).length - 1,by have:=List.length_pos_iff.2 (Q0I 10 l);omega⟩
  obtain ⟨g,rfl⟩: ∃g,A=some ⟨g,0,none⟩:=by
   rcases ho.1.2 with ⟨hv,_⟩|⟨g,cap',cur,hv,_⟩
   ·injection hv with _ hv _;omega
   ·injection hv with hv;exact ⟨g,hv⟩
  obtain ⟨x,hx⟩: ∃x,(pieces 10 l)[n]? =some x:=⟨_,List.getElem?_eq_getElem (by omega)⟩
  rw [hn] at ho KP hca⊢
  have hcl:=ho.cell hx
  have hnl:n+1<=2049:=by have:=Q3m 10 l;have:=HL2.out;omega
  have hxw:Q4g l=(x== []):=by
   have h1:(pieces 10 l).getLast (Q0I 10 l)=x:=by
    rw [List.getLast_eq_getElem]
    rw [List.getElem?_eq_getElem (by omega)] at hx
    rw [<-Option.some.inj hx];congr 1;omega
   unfold Q4g
   rw [h1]
   cases x<;>simp
  obtain ⟨wb,hwb⟩: ∃wb,wb=Q4g l:=⟨_,rfl⟩
  have HWB:=Qh hwb
  obtain ⟨sx,hsx⟩: ∃sx,sx=bs x:=⟨_,rfl⟩
  rw [<-hsx] at hcl
  have hq:(sx.toList== [])=wb:=by rw [hsx,Q0a,hwb,hxw]
  have hsn:=Y3F (some ⟨g,0,none⟩) (n+1) cap n (n:Int) rfl (by omega)
  obtain ⟨m,hm⟩: ∃m,m=(Q2R l).length:=⟨_,rfl⟩
  have HM:=Qh hm
  have hmw:m=if wb=true then n else n+1:=by
   cases hw2:Q4g l with
   |true=>have:=(Q5U hw2).1;rw [hwb,hw2,if_pos rfl];omega
   |false=>have:=(Q7g hw2).1;rw [hwb,hw2,if_neg (by simp),hm,this];exact hn
  have KL:=Qh (show Q1g W1 (.slice (some ⟨g,0,none⟩) m cap) (Q2R l) by
   have h:=KP.out.is
   cases hw2:Q4g l with
   |true=>
    have h2:=h.pre n (by omega)
    rw [hmw,hwb,hw2,if_pos rfl]
    have:Q2R l=(pieces 10 l).take n:=by
     have h':(pieces 10 l).getLast (Q0I 10 l)= []:=by simpa [Q4g] using hw2
     unfold Q2R;rw [if_pos h',List.dropLast_eq_take,hn];rfl
    rw [this];exact h2
   |false=>rw [hmw,hwb,hw2,if_neg (by simp),(Q7g hw2).1];exact h)
  clear hwb hxw hsx hx hn hm hb ho
  rw [<-hrb]
  clear hrb
  try dsimp only
  go_upto_if 27 with fail
  go_cut [5] from 28 to 32 (fun v wx=>v= .slice (some ⟨g,0,none⟩) m cap/\wx=W1)
  case first=>
   cases wb with
   |true=>
    rw [if_pos rfl] at hmw
    subst hmw
    go_wp2_with fail
    go_meet
    case rel=>exact ⟨rfl,rfl⟩
   |false=>
    rw [if_neg (by simp)] at hmw
    subst hmw
    go_wp2_with fail
    go_meet
    case rel=>exact ⟨rfl,rfl⟩
  case rest=>
   obtain ⟨rfl,rfl⟩:=hcut
   rename World=>wo
   obtain ⟨cb,hcb⟩: ∃cb,cb=wo.heap.size:=⟨_,rfl⟩
   have HCB:=Qh hcb
   obtain ⟨w1,hw1⟩: ∃w1,w1=wo.alloc (.cells #[.slice none 0 0,.slice none 0 0] 85):=⟨_,rfl⟩
   have CI1:=Qh (show Q4y w1 cb [] [] by rw [hw1,hcb];exact ⟨_,_,Q2n.new _⟩)
   have BRC:=Qh (show Box w1 rb 85 [.slice none 0 0,.slice none 0 0] by rw [hw1];exact BR1.out.alloc _)
   have BBC:=Qh (show Below rb w w1 by rw [hw1];exact B1.out.alloc (Nat.le_trans (Nat.le_of_eq HRB.out) B1.out.size) _)
   have BCC:=Qh (show Below cb wo w1 by rw [hw1,hcb];exact (Below.refl _ _).alloc (Nat.le_refl _) _)
   have HLT:=Qh (show rb<cb by rw [hcb];exact BR1.out.lt)
   obtain ⟨R,hR⟩: ∃R,R=Q1z [] [] 1 (pieces 10 l):=⟨_,rfl⟩
   rw [<-hR] at HR
   have HRR:=Qh hR
   have h0m:wb=false->0<m:=fun h=>by rw [hmw,h,if_neg (by simp)];omega
   have HM0:=Qh h0m
   have hm2:m<=2049:=by rw [hmw];split<;>omega
   clear hR hmw hcl hq hsn h0m
   go_wp2_with fail
   rw [<-hw1,<-hcb]
   clear hw1 hcb
   go_loopw [8] (fun i wr=> ∃(k:Nat) (gs:List Gt) (os:List Int),i= .int .i64 k/\k<=m/\(wb=false->k<m)/\gs.length+os.length<=k/\Q1z gs os (k+1) ((pieces 10 l).drop k)=R/\Q4y wr cb gs os/\Box wr rb 85 [.slice none 0 0,.slice none 0 0]/\Below rb w wr/\Below cb wo wr) (fun i _=>m - (intOf i).toNat)
   case atStart=>exact ⟨0, [], [],rfl,Nat.zero_le _,HM0.out,Nat.le_refl _,HRR.out.symm,CI1.out,BRC.out,BBC.out,BCC.out⟩
   case round=>
    obtain ⟨k,gs,os,rfl,hk,hkw,hgo,hpr,hci,hbr,hbel,hbcc⟩:=hrel
    have HCI:=Qh hci
    have BRR:=Qh hbr
    have BEL:=Qh hbel
    have BCE:=Qh (show Below wo.heap.size wo wr from HCB.out▸hbcc)
    have HPR:=Qh hpr
    have HKW:=Qh hkw
    clear hci hbr hbel hbcc hpr hkw
    by_cases hlt:k<m
    ·obtain ⟨A,c,hA,hc1,_,_,hr⟩:=KL.out.below BCE.out
     injection hA with hA1 hA2 hA3
     subst hA1 hA3
     obtain ⟨b1,o1,x,hA,hb1,hx,hcx⟩:=Q2W hr (show k<(Q2R l).length by have:=HM.out;omega)
     injection hA with hA
     injection hA with hA4 hA5
     subst hA4 hA5
     rw [Nat.zero_add] at hcx
     have HX:=Qh hx
     have hxl:x.length<=2048:=by
      have h1:x∈pieces 10 l:=by
       have h2:=List.mem_of_getElem? hx
       unfold Q2R at h2
       split at h2
       ·rw [List.dropLast_eq_take] at h2;exact List.mem_of_mem_take h2
       ·exact h2
      have:=Q2N 10 l x h1
      have:=HL2.out
      omega
     have CPX:=Qh (fun W=>CP.out x 32 W hxl)
     have HXL:=Qh hxl
     obtain ⟨w0,ws,hpx⟩: ∃w0 ws,pieces 32 x=w0::ws:=by
      cases hp:pieces 32 x with
      |nil=>exact absurd hp (Q0I _ _)
      |cons a b=>exact ⟨a,b,rfl⟩
     have HRL:=Qh (show Q8e gs os x=Q3Q gs os w0 ws by unfold Q8e;rw [hpx];rfl)
     have HWL:=Qh (show∀y∈w0::ws,y.length<=1000000000 from fun y hy=>by have:=Q2N 32 x y (by rw [hpx];exact hy);omega)
     have HWN:=Qh (show (w0::ws).length<=2049 by rw [<-hpx];have:=Q3m 32 x;omega)
     rw [hpx] at CPX
     clear hx hr hb1 hA2 hxl hpx
     go_wp2_with fail
     refine (CPX.out _).mono ?_
     rintro e W3 ⟨v,rfl,ho,hb⟩
     have KW:=Qh ho
     have BR3:=Qh (BRR.out.below hb)
     have BE3:=Qh (Q0b BEL.out hb (Nat.le_trans (Nat.le_of_eq HRB.out) BEL.out.size))
     have BC3:=Qh (Q0b BCE.out hb BCE.out.size)
     have HC3:=Qh (show Q4y W3 cb gs os from by obtain ⟨vg,vo,h⟩:=HCI.out;exact ⟨vg,vo,h.below hb⟩)
     obtain ⟨A,cap2,rfl,hca2,hcm2⟩:=Q0k ho.1
     obtain ⟨q,hq⟩: ∃q,q=ws.length:=⟨_,rfl⟩
     have HQ:=Qh hq
     have hq2:q<=2048:=by have:=HWN.out;simp at this;omega
     obtain ⟨g2,rfl⟩: ∃g2,A=some ⟨g2,0,none⟩:=by
      rcases ho.1.2 with ⟨hv,_⟩|⟨g,cap',cur,hv,_⟩
      ·injection hv with _ hv _;simp at hv
      ·injection hv with hv;exact ⟨g,hv⟩
     rw [show (w0::ws).length=q+1 by rw [hq];rfl] at hca2 KW⊢
     have hsl:=Q3G (some ⟨g2,0,none⟩) (q+1) cap2 1 1 rfl (by omega)
     have KT:=Qh (show Q1g W3 (.slice (if cap2=1 then some ⟨g2,0,none⟩ else (some ⟨g2,0,none⟩:Option Addr).map (·.add (1 * 1))) q (cap2 - 1)) ws by
      have h:=KW.out.is
      rw [show q+1=(w0::ws).length by rw [hq];rfl] at h
      have h2:=h.from_ 1 (by simp)
      rw [show (w0::ws).length - 1=q by rw [hq];rfl] at h2
      exact h2)
     obtain ⟨At,hAt⟩: ∃At,At=(if cap2=1 then some (⟨g2,0,none⟩:Addr) else (some ⟨g2,0,none⟩:Option Addr).map (·.add (1 * 1))):=⟨_,rfl⟩
     rw [<-hAt] at hsl KT
     rw [show q+1 - 1=q by omega] at hsl
     have hw0:=KW.out.cell (j:=0) (x:=w0) rfl
     obtain ⟨s0,hs0⟩: ∃s0,s0=bs w0:=⟨_,rfl⟩
     rw [<-hs0] at hw0
     have HS0:=Qh hs0
     have CN:=Qh (Q3R _ ws W3 KT.out (fun y hy=>HWL.out y (List.mem_cons_of_mem _ hy)))
     clear hb ho hq hAt hs0 hcx
     try dsimp only
     go_wp2_with fail
     refine CN.out.mono ?_
     rintro e W4 ⟨v,rfl,ho,hb⟩
     have KN:=Qh ho
     have BR4:=Qh (BR3.out.below hb)
     have BE4:=Qh (Q0b BE3.out hb (Nat.le_trans (Nat.le_of_eq HRB.out) BE3.out.size))
     have BC4:=Qh (Q0b BC3.out hb BC3.out.size)
     have HC4:=Qh (show Q4y W4 cb gs os from by obtain ⟨vg,vo,h⟩:=HC3.out;exact ⟨vg,vo,h.below hb⟩)
     have hw4:W4.cell? ⟨g2,0,none⟩=some (.string s0):=(hb.cell (p:=⟨g2,0,none⟩) (World.block_lt_of_cell? _ _ hw0)).trans hw0
     have HV4:=Qh (HV.out.below (HRB.out▸BE4.out))
     obtain ⟨An,cn,rfl,hcn,hcnm⟩:=Q0k ho.1
     obtain ⟨nl,hnl⟩: ∃nl,nl=(Q0x ws).length:=⟨_,rfl⟩
     have HNL:=Qh hnl
     rw [<-hnl] at KN hcn⊢
     have hnl2:nl<=2048:=by
      rw [hnl];unfold Q0x
      split
      ·rw [List.length_map];have:=HQ.out;omega
      ·simp
     have CK:=Qh (fun W (hW:Q8B W)=>Y3x w0 W hW)
     rw [<-HS0.out] at CK
     clear hb ho hnl hw0
     try dsimp only
     go_wp2_with fail
     go_quiet ((exact Q1b (CK.out _ (HV4.out.below (below_drewN (Below.refl _ _) _)))))
     have hw5:(W4.drewN nq).cell? ⟨g2,0,none⟩=some (.string s0):=hw4
     have KN5:=Qh (KN.out.drewN nq)
     have BR5:=Qh (BR4.out.drewN nq)
     have BE5:=Qh (below_drewN BE4.out nq)
     have BC5:=Qh (below_drewN BC4.out nq)
     have HC5:=Qh (show Q4y (W4.drewN nq) cb gs os from by obtain ⟨vg,vo,h⟩:=HC4.out;exact ⟨vg,vo,h.drewN nq⟩)
     clear hw4
     generalize W4.drewN nq=w5 at *
     obtain ⟨okn,hokn⟩: ∃okn,okn=Q0X ws:=⟨_,rfl⟩
     have HOKN:=Qh hokn
     rw [<-hokn]
     obtain ⟨okv,hokv⟩: ∃okv,okv=(okn && (wb||decide (k+1<m))):=⟨_,rfl⟩
     have HOKV:=Qh hokv
     clear hokn
     go_upto_region 14 with fail
     go_cut [11] from 55 to 65 (fun ok wx=>ok= .bool okv/\wx=w5)
     case first=>
      cases okn with
      |false=>
       have e1:okv=false:=by rw [hokv];rfl
       subst e1
       clear hokv
       go_wp2_with fail
       go_meet
       case rel=>exact ⟨rfl,rfl⟩
      |true=>
       cases wb with
       |true=>
        have e1:okv=true:=by rw [hokv];rfl
        subst e1
        clear hokv
        go_wp2_with fail
        go_meet
        case rel=>exact ⟨rfl,rfl⟩
       |false=>
        by_cases hkm:k+1<m
        ·have e1:okv=true:=by rw [hokv];simp [hkm]
         have hdk:decide ((k:Int)<(m:Int) - 1)=true:=by rw [decide_eq_true_iff];omega
         subst e1
         clear hokv
         go_wp2_with fail
         go_meet
         case rel=>exact ⟨by first|rfl|rw [hdk],rfl⟩
        ·have e1:okv=false:=by rw [hokv];simp [hkm]
         have hdk:decide ((k:Int)<(m:Int) - 1)=false:=by rw [decide_eq_false_iff_not];omega
         subst e1
         clear hokv
         go_wp2_with fail
         go_meet
         case rel=>exact ⟨by first|rfl|rw [hdk],rfl⟩
     case rest=>
      obtain ⟨rfl,hweq⟩:=hcut
      obtain rfl:=hweq.symm
      clear hokv
      have HWM:=Qh (show Q4g l=wb from HWB.out.symm)
      have HBADF:=Qh (show (Q3Q gs os w0 ws=none∨(wb=false/\k+1=m))->Q1z gs os (k+1) ((pieces 10 l).drop k)= .inr (k+1) from fun h=>Y3z HX.out (by rw [HRL.out,HWM.out,<-HM.out];exact h))
      have HGOODF:=Qh (show∀gs' os',Q3Q gs os w0 ws=some (gs',os')->(wb=true∨k+1<m)->Q1z gs' os' (k+1+1) ((pieces 10 l).drop (k+1))=R from fun gs' os' h hw=>(Y0L HX.out (HRL.out.trans h) (by rw [HWM.out,<-HM.out];exact hw)).symm.trans HPR.out)
      have HOKF:=Qh (show okv=false->Q3Q gs os w0 ws=none∨(wb=false/\k+1=m) from fun h=>by
       have h1:=HOKV.out
       have h2:=HOKN.out
       rw [h,h2] at h1
       cases hn:Q0X ws with
       |false=>exact .inl (Q8z hn)
       |true=>
        rw [hn] at h1
        cases hwb:wb with
        |true=>rw [hwb] at h1;simp at h1
        |false=>
         rw [hwb] at h1
         simp at h1
         exact .inr ⟨rfl,by omega⟩)
      have HOKT:=Qh (show okv=true->Q0X ws=true/\(wb=true∨k+1<m) from fun h=>by
       have h1:=HOKV.out
       have h2:=HOKN.out
       rw [h,h2] at h1
       cases hn:Q0X ws with
       |false=>rw [hn] at h1;simp at h1
       |true=>
        rw [hn] at h1
        refine ⟨rfl, ?_⟩
        cases hwb:wb with
        |true=>exact .inl rfl
        |false=>
         rw [hwb] at h1
         simp at h1
         exact .inr h1)
      have HORW:=Qh (show okv=true->wb=false->k+1<m from fun h hwb=>by
       rcases (HOKT.out h).2 with h|h
       ·rw [hwb] at h;cases h
       ·exact h)
      obtain ⟨vg,vo,hCA⟩:=HC5.out
      obtain ⟨Ag,cg,rfl,_,_⟩:=Q0k hCA.gates.1
      obtain ⟨Ao,co,rfl,_,_⟩:=Q0k hCA.outs.1
      have KC5:=Qh hCA
      have hk0:=hCA.box.cell (i:=0) rfl
      have hk1:=hCA.box.cell (i:=1) rfl
      have HKR:=Q5T w0
      have HCELL:=Qh (show Cells w5 An (Q8M (Q0x ws)) by obtain ⟨A,c,e,_,_,_,_,h⟩:=KN5.out.is;injection e with e1;rw [e1];exact h)
      have hgl:gs.length<=2049:=by omega
      have hol:os.length<=2049:=by omega
      have HGO:=Qh hgo
      obtain ⟨kd,hkd⟩: ∃kd,kd=Z5Y w0:=⟨_,rfl⟩
      have HKD:=Qh hkd
      rw [<-hkd]
      clear hCA hkd
      go_upto_block 2 with fail
      go_cut [11] from 66 to 160 (fun ok wx=> ∃okb:Bool,ok= .bool okb/\Box wx rb 85 [.slice none 0 0,.slice none 0 0]/\Below rb w wx/\Below wo.heap.size wo wx/\(okb=false->Q1z gs os (k+1) ((pieces 10 l).drop k)= .inr (k+1))/\(okb=true-> ∃gs' os',gs'.length+os'.length<=k+1/\(wb=false->k+1<m)/\Q1z gs' os' (k+1+1) ((pieces 10 l).drop (k+1))=R/\Q4y wx cb gs' os'))
      case first=>
       by_cases hout:w0=Y3V
       ·have hbo:(s0.toList== [111,117,116])=true:=by rw [HS0.out,Q0a,hout];rfl
        have HOUT:=Qh hout
        clear hout
        cases okv with
        |false=>
         go_wp2_with fail
         go_meet
         case rel=>exact ⟨false,rfl,BR5.out,BE5.out,BC5.out,fun _=>HBADF.out (HOKF.out (by simp)),fun h=>by cases h⟩
        |true=>
         obtain ⟨hok,hor⟩:=HOKT.out (by simp)
         have HOR:=Qh hor
         have hne:Q0x ws=ws.map Q2s:=by unfold Q0x;rw [hok,if_pos rfl]
         have hrd:=Q8A (gs:=gs) (os:=os) (ws:=ws) hok HOUT.out
         have hlq:nl=ws.length:=by rw [HNL.out,hne,List.length_map]
         by_cases h1:nl=1
         ·obtain ⟨bn,on,z,hAn,hbn,hnz,hz64,hcz⟩:=ints_at HCELL.out KN5.out.2.2 (k:=0) (by rw [<-HNL.out];omega)
          subst hAn
          have HRS:=Qh (show Q3Q gs os w0 ws=some (gs,os++ [z]) by
           rw [hrd,if_pos (by omega),<-hne]
           congr 3
           rw [List.getD_eq_getElem?_getD,hnz];rfl)
          rw [Nat.add_zero] at hcz
          have KD:=Qh ((KC5.out.drewN 1).alloc (.cells #[.int .i64 z] 3))
          have hB:cb+1<=((w5.drewN 1).alloc (.cells #[.int .i64 z] 3)).heap.size:=by rw [size_alloc];have:=KC5.out.box.lt;show cb+1<=w5.heap.size+1;omega
          have hca:=(KC5.out.alloc (.cells #[.int .i64 z] 3)).box.cell (i:=1) rfl
          have HPUSH:=Qh (fun (bb cap:Nat) (w7:World) (ho7:Q0j w7 (cb+1) (.slice (some ⟨bb,0,none⟩) (os.length+1) cap) (os++ [z])) hg7=>KD.out.push_out ho7 hg7)
          have BE6:=Qh ((below_drewN BE5.out 1).alloc (show rb<=w5.heap.size from Nat.le_trans (Nat.le_of_eq HRB.out) BE5.out.size) (.cells #[.int .i64 z] 3))
          have BC6:=Qh ((below_drewN BC5.out 1).alloc (show wo.heap.size<=w5.heap.size from BC5.out.size) (.cells #[.int .i64 z] 3))
          have BR6:=Qh ((BR5.out.drewN 1).alloc (.cells #[.int .i64 z] 3))
          subst h1
          clear hnz hbn hrd hne hlq hor hok
          go_wp2_with fail
          go_region_law ((refine Q8y rfl _ _ (by rfl) (cb+1) _ os z _ 1 (by rfl) KD.out.outs (by rfl) (Q0o _ _ _) hz64 (by omega) hB ?_;intro bb cap w7 ho7 hg7;obtain ⟨hk7,hf7,KC7,KB7⟩:=HPUSH.out bb cap w7 ho7 hg7))
          all_goals
           go_wp2_with fail
           go_meet
           case rel=>exact ⟨true,rfl,BR6.out.under KB7 HLT.out,BE6.out.trans (KB7.mono (Nat.le_of_lt HLT.out)),BC6.out.trans (HCB.out▸KB7),fun h=>(by cases h),fun _=>⟨gs,os++ [z],by simp;have:=HGO.out;omega,fun hwb=>HORW.out (by simp) hwb,HGOODF.out _ _ HRS.out HOR.out,⟨_,_,KC7⟩⟩⟩
         ·have HRS:=Qh (show Q3Q gs os w0 ws=none by rw [hrd,if_neg (by omega)])
          have hb1:((nl:Int)==1)=false:=by rw [beq_eq_false_iff_ne];omega
          clear hrd hne hlq hor hok
          go_wp2_with fail
          go_meet
          case rel=>exact ⟨false,rfl,BR5.out,BE5.out,BC5.out,fun _=>HBADF.out (.inl HRS.out),fun h=>by cases h⟩
       ·have hbo:(s0.toList== [111,117,116])=false:=by rw [HS0.out,Q0a,beq_eq_false_iff_ne];exact hout
        have HYES:=Qh (Y0K (gs:=gs) (os:=os) (ws:=ws) hout)
        have HNO:=Qh (Y3y (gs:=gs) (os:=os) (ws:=ws) hout)
        by_cases hK6:Q2F w0<=6
        ·obtain ⟨j,hj⟩: ∃j:Nat,Q2F w0=j:=⟨(Q2F w0).toNat,by omega⟩
         have hj1:1<=j:=by omega
         have hj6:j<=6:=by omega
         have HJ:=Qh hj
         obtain rfl:kd=(j:Int):=by rw [HKD.out,Y3w hK6,hj]
         have hd1:decide ((j:Int)<1)=false:=by rw [decide_eq_false_iff_not];omega
         clear HKR hK6 hj
         by_cases hos:os.length=0
         ·have hdo:decide ((0:Int)<(os.length:Int))=false:=by rw [decide_eq_false_iff_not];omega
          obtain ⟨t,ht⟩: ∃t:Nat,t=if j<=2 then 1 else 2:=⟨_,rfl⟩
          have hti:(t:Int)=if (j:Int)<=2 then 1 else 2:=by
           rw [ht];by_cases q:j<=2
           ·rw [if_pos q,if_pos (by omega)];rfl
           ·rw [if_neg q,if_neg (by omega)];rfl
          have hcell:(w5.alloc (.cells #[.int .i64 0,.int .i64 1,.int .i64 1,.int .i64 2,.int .i64 2,.int .i64 2,.int .i64 2] 3)).cell? ⟨w5.heap.size,j,none⟩=some (.int .i64 t):=by
           refine (Box.new w5 3 [.int .i64 0,.int .i64 1,.int .i64 1,.int .i64 2,.int .i64 2,.int .i64 2,.int .i64 2]).cell (i:=j) ?_
           rw [ht]
           obtain rfl|rfl|rfl|rfl|rfl|rfl:j=1∨j=2∨j=3∨j=4∨j=5∨j=6:=by omega
           all_goals rfl
          have HT:=Qh ht
          have HTI:=Qh hti
          clear ht hti
          by_cases hlt2:nl=t
          ·obtain ⟨hok,hne,hrs⟩:=HYES.out ⟨by rw [HJ.out];omega,hos,by rw [<-HNL.out,HJ.out,<-HTI.out,hlt2]⟩
           obtain ⟨y,hy⟩: ∃y,y=Q6n j (Q0x ws):=⟨_,rfl⟩
           rw [HJ.out,<-hy] at hrs
           have HRS:=Qh hrs
           have hbn1:((nl:Int) !=(t:Int))=false:=by rw [bne_eq_false_iff_eq];omega
           have hnum: ∀i,i<nl-> ∃z,(Q0x ws)[i]? =some z/\0<=z/\z<10000000000/\(Q0x ws).getD i 0=z:=fun i hi=>by
            rw [HNL.out,hne,List.length_map] at hi
            obtain ⟨x,hx⟩: ∃x,ws[i]? =some x:=⟨_,List.getElem?_eq_getElem hi⟩
            have h1:=Q8R x
            have h2:=List.all_eq_true.1 hok x (List.mem_of_getElem? hx)
            have h3:(Q0x ws)[i]? =some (Q2s x):=by rw [hne,List.getElem?_map,hx];rfl
            exact ⟨Q2s x,h3,by simpa using h2,h1.2,by rw [List.getD_eq_getElem?_getD,h3];rfl⟩
           have HNM:=Qh hnum
           have HYO:=Qh (Z3j hy hnum hj1 hj6 (by rw [hlt2];exact HTI.out))
           have HYD:=Qh hy
           have ht1:1<=t:=by rw [HT.out];split<;>omega
           obtain ⟨bn,on,n0,hAn,hbn,hn0,hi0,hcz0⟩:=ints_at HCELL.out KN5.out.2.2 (k:=0) (by rw [<-HNL.out];omega)
           subst hAn
           rw [Nat.add_zero] at hcz0
           have hcz0t:=((Below.refl w5.heap.size w5).alloc (Nat.le_refl _) (.cells #[.int .i64 0,.int .i64 1,.int .i64 1,.int .i64 2,.int .i64 2,.int .i64 2,.int .i64 2] 3)).cell (p:=⟨bn,on,none⟩) hbn
           rw [hcz0] at hcz0t
           have hg0:(Q0x ws).getD 0 0=n0:=by rw [List.getD_eq_getElem?_getD,hn0];rfl
           have hn00:0<=n0/\n0<10000000000:=by
            obtain ⟨z,h1,h2,h3,_⟩:=HNM.out 0 (by omega)
            rw [hn0] at h1
            rw [Option.some.inj h1];exact ⟨h2,h3⟩
           obtain ⟨hn0a,hn0b⟩:=hn00
           have hw0n:IntKind.u64.wrap n0=n0:=u64_nonneg (by omega) (by omega)
           have HG0:=Qh hg0
           subst hlt2
           clear hnum hy hrs hok hne hg0 hn0
           by_cases hj1:j=1
           ·subst hj1
            obtain rfl:nl=1:=by rw [HT.out];rfl
            have hy:y=⟨1,n0,0,0⟩:=by rw [HYD.out];unfold Q6n;rw [HG0.out];simp
            subst hy
            go_wp2_with fail
            refine Q9V (C:=fun wt=>Below w5.heap.size w5 wt) (G:=fun wt=>Code.wp _ _ _ _ wt) _ ((Below.refl _ _).alloc (Nat.le_refl _) _) ?_
            intro wt hwt
            have BT:=Qh hwt
            have hczA:wt.cell? ⟨bn,on,none⟩=some (.int .i64 n0):=(hwt.cell (p:=⟨bn,on,none⟩) hbn).trans hcz0
            have KCt:=Qh (KC5.out.below hwt)
            have hk0t:=KCt.out.box.cell (i:=0) rfl
            have hst:w5.heap.size<=wt.heap.size:=hwt.size
            have KD:=Qh ((KCt.out.drewN 1).alloc (.cells #[.int .i64 1,.int .i64 n0,.int .i64 0,.int .u64 0] 133))
            have hB:cb+1<=((wt.drewN 1).alloc (.cells #[.int .i64 1,.int .i64 n0,.int .i64 0,.int .u64 0] 133)).heap.size:=by rw [size_alloc];have:=KCt.out.box.lt;show cb+1<=wt.heap.size+1;omega
            have hca:=(KCt.out.alloc (.cells #[.int .i64 1,.int .i64 n0,.int .i64 0,.int .u64 0] 133)).box.cell (i:=0) rfl
            have HPUSH:=Qh (fun (bb cap:Nat) (w7:World) (ho7:Q1I w7 (cb+1) (.slice (some ⟨bb,0,none⟩) (gs.length+1) cap) (gs++ [⟨1,n0,0,0⟩])) hg7=>KD.out.push_gate ho7 hg7)
            have BE6:=Qh ((below_drewN (Q0b BE5.out hwt (Nat.le_trans (Nat.le_of_eq HRB.out) BE5.out.size)) 1).alloc (show rb<=wt.heap.size from Nat.le_trans (Nat.le_trans (Nat.le_of_eq HRB.out) BE5.out.size) hst) (.cells #[.int .i64 1,.int .i64 n0,.int .i64 0,.int .u64 0] 133))
            have BC6:=Qh ((below_drewN (Q0b BC5.out hwt BC5.out.size) 1).alloc (show wo.heap.size<=wt.heap.size from Nat.le_trans BC5.out.size hst) (.cells #[.int .i64 1,.int .i64 n0,.int .i64 0,.int .u64 0] 133))
            have BR6:=Qh (((BR5.out.below hwt).drewN 1).alloc (.cells #[.int .i64 1,.int .i64 n0,.int .i64 0,.int .u64 0] 133))
            clear hwt hcz0 hcz0t hk0 hk1 hw5 hcell
            go_region_law ((refine Q2p rfl _ _ (by rfl) (cb+1) _ gs ⟨1,n0,0,0⟩ _ 1 (by rfl) KD.out.gates (by rfl) (Box.new _ _ _) HYO.out (by omega) hB ?_;intro bb cap w7 ho7 hg7;obtain ⟨hk7,hf7,KC7,KB7⟩:=HPUSH.out bb cap w7 ho7 hg7))
            all_goals
             go_wp2_with fail
             go_meet
             case rel=>exact ⟨okv,rfl,BR6.out.under KB7 HLT.out,BE6.out.trans (KB7.mono (Nat.le_of_lt HLT.out)),BC6.out.trans (HCB.out▸KB7),fun h=>HBADF.out (HOKF.out h),fun h=>⟨gs++ [⟨1,n0,0,0⟩],os,by simp;have:=HGO.out;omega,fun hwb=>HORW.out h hwb,HGOODF.out _ _ HRS.out (HOKT.out h).2,⟨_,_,KC7⟩⟩⟩
           by_cases hj2:j=2
           ·subst hj2
            obtain rfl:nl=1:=by rw [HT.out];rfl
            have hy:y=⟨2,0,0,n0⟩:=by rw [HYD.out];unfold Q6n;rw [HG0.out];simp
            subst hy
            go_wp2_with fail
            refine Q9V (C:=fun wt=>Below w5.heap.size w5 wt) (G:=fun wt=>Code.wp _ _ _ _ wt) _ ((Below.refl _ _).alloc (Nat.le_refl _) _) ?_
            intro wt hwt
            have BT:=Qh hwt
            have hczA:wt.cell? ⟨bn,on,none⟩=some (.int .i64 n0):=(hwt.cell (p:=⟨bn,on,none⟩) hbn).trans hcz0
            have KCt:=Qh (KC5.out.below hwt)
            have hk0t:=KCt.out.box.cell (i:=0) rfl
            have hst:w5.heap.size<=wt.heap.size:=hwt.size
            have KD:=Qh ((KCt.out.drewN 1).alloc (.cells #[.int .i64 2,.int .i64 0,.int .i64 0,.int .u64 n0] 133))
            have hB:cb+1<=((wt.drewN 1).alloc (.cells #[.int .i64 2,.int .i64 0,.int .i64 0,.int .u64 n0] 133)).heap.size:=by rw [size_alloc];have:=KCt.out.box.lt;show cb+1<=wt.heap.size+1;omega
            have hca:=(KCt.out.alloc (.cells #[.int .i64 2,.int .i64 0,.int .i64 0,.int .u64 n0] 133)).box.cell (i:=0) rfl
            have HPUSH:=Qh (fun (bb cap:Nat) (w7:World) (ho7:Q1I w7 (cb+1) (.slice (some ⟨bb,0,none⟩) (gs.length+1) cap) (gs++ [⟨2,0,0,n0⟩])) hg7=>KD.out.push_gate ho7 hg7)
            have BE6:=Qh ((below_drewN (Q0b BE5.out hwt (Nat.le_trans (Nat.le_of_eq HRB.out) BE5.out.size)) 1).alloc (show rb<=wt.heap.size from Nat.le_trans (Nat.le_trans (Nat.le_of_eq HRB.out) BE5.out.size) hst) (.cells #[.int .i64 2,.int .i64 0,.int .i64 0,.int .u64 n0] 133))
            have BC6:=Qh ((below_drewN (Q0b BC5.out hwt BC5.out.size) 1).alloc (show wo.heap.size<=wt.heap.size from Nat.le_trans BC5.out.size hst) (.cells #[.int .i64 2,.int .i64 0,.int .i64 0,.int .u64 n0] 133))
            have BR6:=Qh (((BR5.out.below hwt).drewN 1).alloc (.cells #[.int .i64 2,.int .i64 0,.int .i64 0,.int .u64 n0] 133))
            clear hwt hcz0 hcz0t hk0 hk1 hw5 hcell
            go_region_law ((refine Q2p rfl _ _ (by rfl) (cb+1) _ gs ⟨2,0,0,n0⟩ _ 1 (by rfl) KD.out.gates (by rfl) (Box.new _ _ _) HYO.out (by omega) hB ?_;intro bb cap w7 ho7 hg7;obtain ⟨hk7,hf7,KC7,KB7⟩:=HPUSH.out bb cap w7 ho7 hg7))
            all_goals
             go_wp2_with fail
             go_meet
             case rel=>exact ⟨okv,rfl,BR6.out.under KB7 HLT.out,BE6.out.trans (KB7.mono (Nat.le_of_lt HLT.out)),BC6.out.trans (HCB.out▸KB7),fun h=>HBADF.out (HOKF.out h),fun h=>⟨gs++ [⟨2,0,0,n0⟩],os,by simp;have:=HGO.out;omega,fun hwb=>HORW.out h hwb,HGOODF.out _ _ HRS.out (HOKT.out h).2,⟨_,_,KC7⟩⟩⟩
           by_cases hj6:j=6
           ·subst hj6
            obtain rfl:nl=2:=by rw [HT.out];rfl
            obtain ⟨bn',on',n1,hAn,_,hn1,hi1,hcz1⟩:=ints_at HCELL.out KN5.out.2.2 (k:=1) (by rw [<-HNL.out];omega)
            injection hAn with hAn
            injection hAn with hA4 hA5
            subst hA4 hA5
            have hcz1t:=((Below.refl w5.heap.size w5).alloc (Nat.le_refl _) (.cells #[.int .i64 0,.int .i64 1,.int .i64 1,.int .i64 2,.int .i64 2,.int .i64 2,.int .i64 2] 3)).cell (p:=⟨bn,on+1,none⟩) hbn
            rw [hcz1] at hcz1t
            have hg1:(Q0x ws).getD 1 0=n1:=by rw [List.getD_eq_getElem?_getD,hn1];rfl
            have hn10:0<=n1/\n1<10000000000:=by
             obtain ⟨z,h1,h2,h3,_⟩:=HNM.out 1 (by omega)
             rw [hn1] at h1
             rw [Option.some.inj h1];exact ⟨h2,h3⟩
            obtain ⟨hn1a,hn1b⟩:=hn10
            have hw1n:IntKind.u64.wrap n1=n1:=u64_nonneg (by omega) (by omega)
            have HG1:=Qh hg1
            clear hg1 hn1
            have hy:y=⟨6,n0,0,n1⟩:=by rw [HYD.out];unfold Q6n;rw [HG0.out,HG1.out];simp
            subst hy
            go_wp2_with fail
            refine Q9V (C:=fun wt=>Below w5.heap.size w5 wt) (G:=fun wt=>Code.wp _ _ _ _ wt) _ ((Below.refl _ _).alloc (Nat.le_refl _) _) ?_
            intro wt hwt
            have BT:=Qh hwt
            have hczA:wt.cell? ⟨bn,on,none⟩=some (.int .i64 n0):=(hwt.cell (p:=⟨bn,on,none⟩) hbn).trans hcz0
            have hczB:wt.cell? ⟨bn,on+1,none⟩=some (.int .i64 n1):=(hwt.cell (p:=⟨bn,on+1,none⟩) hbn).trans hcz1
            have KCt:=Qh (KC5.out.below hwt)
            have hk0t:=KCt.out.box.cell (i:=0) rfl
            have hst:w5.heap.size<=wt.heap.size:=hwt.size
            have KD:=Qh ((KCt.out.drewN 1).alloc (.cells #[.int .i64 6,.int .i64 n0,.int .i64 0,.int .u64 n1] 133))
            have hB:cb+1<=((wt.drewN 1).alloc (.cells #[.int .i64 6,.int .i64 n0,.int .i64 0,.int .u64 n1] 133)).heap.size:=by rw [size_alloc];have:=KCt.out.box.lt;show cb+1<=wt.heap.size+1;omega
            have hca:=(KCt.out.alloc (.cells #[.int .i64 6,.int .i64 n0,.int .i64 0,.int .u64 n1] 133)).box.cell (i:=0) rfl
            have HPUSH:=Qh (fun (bb cap:Nat) (w7:World) (ho7:Q1I w7 (cb+1) (.slice (some ⟨bb,0,none⟩) (gs.length+1) cap) (gs++ [⟨6,n0,0,n1⟩])) hg7=>KD.out.push_gate ho7 hg7)
            have BE6:=Qh ((below_drewN (Q0b BE5.out hwt (Nat.le_trans (Nat.le_of_eq HRB.out) BE5.out.size)) 1).alloc (show rb<=wt.heap.size from Nat.le_trans (Nat.le_trans (Nat.le_of_eq HRB.out) BE5.out.size) hst) (.cells #[.int .i64 6,.int .i64 n0,.int .i64 0,.int .u64 n1] 133))
            have BC6:=Qh ((below_drewN (Q0b BC5.out hwt BC5.out.size) 1).alloc (show wo.heap.size<=wt.heap.size from Nat.le_trans BC5.out.size hst) (.cells #[.int .i64 6,.int .i64 n0,.int .i64 0,.int .u64 n1] 133))
            have BR6:=Qh (((BR5.out.below hwt).drewN 1).alloc (.cells #[.int .i64 6,.int .i64 n0,.int .i64 0,.int .u64 n1] 133))
            clear hwt hcz0 hcz0t hk0 hk1 hw5 hcell hcz1 hcz1t
            go_region_law ((refine Q2p rfl _ _ (by rfl) (cb+1) _ gs ⟨6,n0,0,n1⟩ _ 1 (by rfl) KD.out.gates (by rfl) (Box.new _ _ _) HYO.out (by omega) hB ?_;intro bb cap w7 ho7 hg7;obtain ⟨hk7,hf7,KC7,KB7⟩:=HPUSH.out bb cap w7 ho7 hg7))
            all_goals
             go_wp2_with fail
             go_meet
             case rel=>exact ⟨okv,rfl,BR6.out.under KB7 HLT.out,BE6.out.trans (KB7.mono (Nat.le_of_lt HLT.out)),BC6.out.trans (HCB.out▸KB7),fun h=>HBADF.out (HOKF.out h),fun h=>⟨gs++ [⟨6,n0,0,n1⟩],os,by simp;have:=HGO.out;omega,fun hwb=>HORW.out h hwb,HGOODF.out _ _ HRS.out (HOKT.out h).2,⟨_,_,KC7⟩⟩⟩
           ·have e1:((j:Int)==1)=false:=by rw [beq_eq_false_iff_ne];omega
            have e2:((j:Int)==2)=false:=by rw [beq_eq_false_iff_ne];omega
            have e6:((j:Int)==6)=false:=by rw [beq_eq_false_iff_ne];omega
            obtain rfl:nl=2:=by rw [HT.out];rw [if_neg (by omega)]
            obtain ⟨bn',on',n1,hAn,_,hn1,hi1,hcz1⟩:=ints_at HCELL.out KN5.out.2.2 (k:=1) (by rw [<-HNL.out];omega)
            injection hAn with hAn
            injection hAn with hA4 hA5
            subst hA4 hA5
            have hcz1t:=((Below.refl w5.heap.size w5).alloc (Nat.le_refl _) (.cells #[.int .i64 0,.int .i64 1,.int .i64 1,.int .i64 2,.int .i64 2,.int .i64 2,.int .i64 2] 3)).cell (p:=⟨bn,on+1,none⟩) hbn
            rw [hcz1] at hcz1t
            have hg1:(Q0x ws).getD 1 0=n1:=by rw [List.getD_eq_getElem?_getD,hn1];rfl
            have hn10:0<=n1/\n1<10000000000:=by
             obtain ⟨z,h1,h2,h3,_⟩:=HNM.out 1 (by omega)
             rw [hn1] at h1
             rw [Option.some.inj h1];exact ⟨h2,h3⟩
            obtain ⟨hn1a,hn1b⟩:=hn10
            have hw1n:IntKind.u64.wrap n1=n1:=u64_nonneg (by omega) (by omega)
            have HG1:=Qh hg1
            clear hg1 hn1
            have hy:y=⟨(j:Int),n0,n1,0⟩:=by rw [HYD.out];unfold Q6n;rw [HG0.out,HG1.out];rw [if_neg (by omega),if_neg (by omega),if_neg (by omega)]
            subst hy
            go_wp2_with fail
            refine Q9V (C:=fun wt=>Below w5.heap.size w5 wt) (G:=fun wt=>Code.wp _ _ _ _ wt) _ ((Below.refl _ _).alloc (Nat.le_refl _) _) ?_
            intro wt hwt
            have BT:=Qh hwt
            have hczA:wt.cell? ⟨bn,on,none⟩=some (.int .i64 n0):=(hwt.cell (p:=⟨bn,on,none⟩) hbn).trans hcz0
            have hczB:wt.cell? ⟨bn,on+1,none⟩=some (.int .i64 n1):=(hwt.cell (p:=⟨bn,on+1,none⟩) hbn).trans hcz1
            have KCt:=Qh (KC5.out.below hwt)
            have hk0t:=KCt.out.box.cell (i:=0) rfl
            have hst:w5.heap.size<=wt.heap.size:=hwt.size
            have KD:=Qh ((KCt.out.drewN 1).alloc (.cells #[.int .i64 (j:Int),.int .i64 n0,.int .i64 n1,.int .u64 0] 133))
            have hB:cb+1<=((wt.drewN 1).alloc (.cells #[.int .i64 (j:Int),.int .i64 n0,.int .i64 n1,.int .u64 0] 133)).heap.size:=by rw [size_alloc];have:=KCt.out.box.lt;show cb+1<=wt.heap.size+1;omega
            have hca:=(KCt.out.alloc (.cells #[.int .i64 (j:Int),.int .i64 n0,.int .i64 n1,.int .u64 0] 133)).box.cell (i:=0) rfl
            have HPUSH:=Qh (fun (bb cap:Nat) (w7:World) (ho7:Q1I w7 (cb+1) (.slice (some ⟨bb,0,none⟩) (gs.length+1) cap) (gs++ [⟨(j:Int),n0,n1,0⟩])) hg7=>KD.out.push_gate ho7 hg7)
            have BE6:=Qh ((below_drewN (Q0b BE5.out hwt (Nat.le_trans (Nat.le_of_eq HRB.out) BE5.out.size)) 1).alloc (show rb<=wt.heap.size from Nat.le_trans (Nat.le_trans (Nat.le_of_eq HRB.out) BE5.out.size) hst) (.cells #[.int .i64 (j:Int),.int .i64 n0,.int .i64 n1,.int .u64 0] 133))
            have BC6:=Qh ((below_drewN (Q0b BC5.out hwt BC5.out.size) 1).alloc (show wo.heap.size<=wt.heap.size from Nat.le_trans BC5.out.size hst) (.cells #[.int .i64 (j:Int),.int .i64 n0,.int .i64 n1,.int .u64 0] 133))
            have BR6:=Qh (((BR5.out.below hwt).drewN 1).alloc (.cells #[.int .i64 (j:Int),.int .i64 n0,.int .i64 n1,.int .u64 0] 133))
            clear hwt hcz0 hcz0t hk0 hk1 hw5 hcell hcz1 hcz1t
            go_region_law ((refine Q2p rfl _ _ (by rfl) (cb+1) _ gs ⟨(j:Int),n0,n1,0⟩ _ 1 (by rfl) KD.out.gates (by rfl) (Box.new _ _ _) HYO.out (by omega) hB ?_;intro bb cap w7 ho7 hg7;obtain ⟨hk7,hf7,KC7,KB7⟩:=HPUSH.out bb cap w7 ho7 hg7))
            all_goals
             go_wp2_with fail
             go_meet
             case rel=>exact ⟨okv,rfl,BR6.out.under KB7 HLT.out,BE6.out.trans (KB7.mono (Nat.le_of_lt HLT.out)),BC6.out.trans (HCB.out▸KB7),fun h=>HBADF.out (HOKF.out h),fun h=>⟨gs++ [⟨(j:Int),n0,n1,0⟩],os,by simp;have:=HGO.out;omega,fun hwb=>HORW.out h hwb,HGOODF.out _ _ HRS.out (HOKT.out h).2,⟨_,_,KC7⟩⟩⟩
          ·have HRS:=Qh (HNO.out (fun h=>hlt2 (by have h3:=h.2.2;rw [<-HNL.out,HJ.out,<-HTI.out] at h3;omega)))
           have hbn1:((nl:Int) !=(t:Int))=true:=by rw [bne_iff_ne];omega
           go_wp2_with fail
           go_meet
           case rel=>exact ⟨false,rfl,BR5.out.alloc _,BE5.out.alloc (Nat.le_trans (Nat.le_of_eq HRB.out) BE5.out.size) _,BC5.out.alloc BC5.out.size _,fun _=>HBADF.out (.inl HRS.out),fun h=>by cases h⟩
         ·have HRS:=Qh (HNO.out (fun h=>hos h.2.1))
          have hdo:decide ((0:Int)<(os.length:Int))=true:=by rw [decide_eq_true_iff];omega
          go_wp2_with fail
          go_meet
          case rel=>exact ⟨false,rfl,BR5.out,BE5.out,BC5.out,fun _=>HBADF.out (.inl HRS.out),fun h=>by cases h⟩
        ·have HRS:=Qh (HNO.out (fun h=>hK6 h.1))
         have hlow:=Y0I hK6
         rw [<-HKD.out] at hlow
         have hd1:decide (kd<1)=true:=by rw [decide_eq_true_iff];exact hlow
         clear HKR hK6
         go_wp2_with fail
         go_meet
         case rel=>exact ⟨false,rfl,BR5.out,BE5.out,BC5.out,fun _=>HBADF.out (.inl HRS.out),fun h=>by cases h⟩
      case rest=>
       obtain ⟨okb,rfl,hbr,hbel,hbcc,hf,ht⟩:=hcut
       rename World=>wx
       have BXW:=Qh hbr
       have BW:=Qh hbel
       have BCW:=Qh hbcc
       clear hbr hbel hbcc
       cases okb with
       |false=>
        have HE:=Qh (show Q0s l=⟨[], [],(k:Int)+1,3⟩ by rw [HR.out,<-HPR.out,hf rfl];simp [Q2t])
        clear hf ht hw5 hk0 hk1
        have BX1:=Qh (BXW.out.set 0 (.slice none 0 0))
        have BX2:=Qh (BX1.out.set 1 (.slice none 0 0))
        have f00:=BXW.out.cell (i:=0) rfl
        have f01:=BXW.out.cell (i:=1) rfl
        have f0:=BXW.out.frozen 0
        have f1:=BX1.out.frozen 1
        have g1':=BX1.out.cell (i:=1) rfl
        have g2:=BX2.out.cell (i:=0) rfl
        have g3:=BX2.out.cell (i:=1) rfl
        have BF:=Qh ((BW.out.setCell (p:=⟨rb,0,none⟩) (Nat.le_refl _) (.slice none 0 0)).setCell (p:=⟨rb,1,none⟩) (Nat.le_refl _) (.slice none 0 0))
        go_wp2_with fail
        (try simp only [Exit.inBlock,Exit.then])
        refine bodyPost_ret (v:= .tuple #[.agg #[.slice none 0 0,.slice none 0 0],.int .i64 ((k:Int)+1),.int .i64 3]) ?_ rfl ?_
        ·rw [Q1e rfl]
         go_simp
        ·have hp:=HP2.out (.agg #[.slice none 0 0,.slice none 0 0]) _ (by rw [HE.out];exact ⟨_,_,rfl,Q2g.nil _,Q0y.nil _⟩) BF.out
         rw [HE.out] at hp
         exact hp
       |true=>
        obtain ⟨gs',os',h1,h2,h3,h4⟩:=ht rfl
        have H4:=Qh h4
        have H2:=Qh h2
        have H3:=Qh h3
        clear hf ht hw5 hk0 hk1 h2 h3 h4
        go_wp2_with fail
        exact ⟨⟨k+1,gs',os',by go_num,by omega,H2.out,h1,H3.out,H4.out,BXW.out,BW.out,by rw [HCB.out];exact BCW.out⟩,by simp [intOf]<;>omega⟩
    ·have hkm:k=m:=by omega
     have hwt:wb=true:=by
      cases hw:wb with
      |true=>rfl
      |false=>have:=HKW.out hw;omega
     have HPO:=Qh (show Q0s l=Q2t (.inl (gs,os)) by rw [HR.out,<-HPR.out,hkm,HM.out,Y0M (by rw [<-HWB.out,hwt])])
     obtain ⟨vg,vo,hCA⟩:=HCI.out
     obtain ⟨Ag,cg,rfl,_,_⟩:=Q0k hCA.gates.1
     obtain ⟨Ao,co,rfl,_,_⟩:=Q0k hCA.outs.1
     have HCA:=Qh hCA
     have k0:=hCA.box.cell (i:=0) rfl
     have k1:=hCA.box.cell (i:=1) rfl
     have CK:=Qh (Z1h _ gs os wr hCA.is)
     clear hCA hkm hwt
     by_cases hE:Q0U gs os=0
     ·have HE:=Qh (show Q0s l=⟨gs,os,0,0⟩ by rw [HPO.out];simp only [Q2t];rw [if_pos hE])
      have HE0:=Qh hE
      clear hE
      go_wp2_with fail
      refine CK.out.mono ?_
      rintro e W1 ⟨rfl,hb⟩
      rw [HE0.out]
      have BXW:=Qh (BRR.out.below hb)
      have BW:=Qh (Q0b BEL.out hb (Nat.le_trans (Nat.le_of_eq HRB.out) BEL.out.size))
      have HCA1:=Qh (HCA.out.below hb)
      clear k0 k1 hb
      have k0:=HCA1.out.box.cell (i:=0) rfl
      have k1:=HCA1.out.box.cell (i:=1) rfl
      try dsimp only
      have BX1:=Qh (BXW.out.set 0 (.slice Ag gs.length cg))
      have BX2:=Qh (BX1.out.set 1 (.slice Ao os.length co))
      have f00:=BXW.out.cell (i:=0) rfl
      have f01:=BXW.out.cell (i:=1) rfl
      have f0:=BXW.out.frozen 0
      have f1:=BX1.out.frozen 1
      have g1':=BX1.out.cell (i:=1) rfl
      have g2:=BX2.out.cell (i:=0) rfl
      have g3:=BX2.out.cell (i:=1) rfl
      have BF:=Qh ((BW.out.setCell (p:=⟨rb,0,none⟩) (Nat.le_refl _) (.slice Ag gs.length cg)).setCell (p:=⟨rb,1,none⟩) (Nat.le_refl _) (.slice Ao os.length co))
      go_wp2_with fail
      (try simp only [Exit.inBlock,Exit.then])
      refine bodyPost_ret (v:= .tuple #[.agg #[.slice Ag gs.length cg,.slice Ao os.length co],.int .i64 0,.int .i64 0]) ?_ rfl ?_
      ·rw [Q1e rfl]
       go_simp
      ·have hp:=HP2.out (.agg #[.slice Ag gs.length cg,.slice Ao os.length co]) _ (by rw [HE.out];exact (HCA1.out.set_far HLT.out).is) BF.out
       rw [HE.out] at hp
       exact hp
     ·have HE:=Qh (show Q0s l=⟨[], [],0,Q0U gs os⟩ by rw [HPO.out];simp only [Q2t];rw [if_neg hE])
      obtain ⟨E,hEE⟩: ∃E,E=Q0U gs os:=⟨_,rfl⟩
      rw [<-hEE] at CK HE
      have hEb:(E==0)=false:=by rw [hEE,beq_eq_false_iff_ne];exact hE
      clear hE hEE
      go_wp2_with fail
      refine CK.out.mono ?_
      rintro e W1 ⟨rfl,hb⟩
      have BXW:=Qh (BRR.out.below hb)
      have BW:=Qh (Q0b BEL.out hb (Nat.le_trans (Nat.le_of_eq HRB.out) BEL.out.size))
      clear k0 k1 hb
      try dsimp only
      have BX1:=Qh (BXW.out.set 0 (.slice none 0 0))
      have BX2:=Qh (BX1.out.set 1 (.slice none 0 0))
      have f00:=BXW.out.cell (i:=0) rfl
      have f01:=BXW.out.cell (i:=1) rfl
      have f0:=BXW.out.frozen 0
      have f1:=BX1.out.frozen 1
      have g1':=BX1.out.cell (i:=1) rfl
      have g2:=BX2.out.cell (i:=0) rfl
      have g3:=BX2.out.cell (i:=1) rfl
      have BF:=Qh ((BW.out.setCell (p:=⟨rb,0,none⟩) (Nat.le_refl _) (.slice none 0 0)).setCell (p:=⟨rb,1,none⟩) (Nat.le_refl _) (.slice none 0 0))
      go_wp2_with fail
      (try simp only [Exit.inBlock,Exit.then])
      refine bodyPost_ret (v:= .tuple #[.agg #[.slice none 0 0,.slice none 0 0],.int .i64 0,.int .i64 E]) ?_ rfl ?_
      ·rw [Q1e rfl]
       go_simp
      ·have hp:=HP2.out (.agg #[.slice none 0 0,.slice none 0 0]) _ (by rw [HE.out];exact ⟨_,_,rfl,Q2g.nil _,Q0y.nil _⟩) BF.out
       rw [HE.out] at hp
       exact hp
end Go.Proofs.YtploomncapiloaaGreatDoor
