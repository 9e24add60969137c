/- Parts of the proof, put together by a program: RefTx RefRd DeskE. No condition. -/
import Derived.Test.YtploomncapiloaaGreatDoorSBC
import Derived.Test.YtploomncapiloaaGreatDoorSBD
set_option maxRecDepth 100000
set_option maxHeartbeats 8000000
namespace Go.Proofs.YtploomncapiloaaGreatDoor
open Go.RowKit Go.Sort Croft
def Z5X (w:World):Prop:= ∀k:Nat,1<=k->k<=6->w.cell? ⟨1,k,none⟩=some (.string (bs (Q2k k)))
theorem Z5X.lt {w:World} (h:Z5X w):1<w.heap.size:=by
 have h1:=h 1 (by omega) (by omega)
 rcases Nat.lt_or_ge 1 w.heap.size with k|k
 ·exact k
 ·simp [World.cell?,Array.getElem?_eq_none k] at h1
theorem Z5X.below {w w':World} (h:Z5X w) (hb:Below w.heap.size w w'):Z5X w':=fun k h1 h2=>(hb.cell (p:=⟨1,k,none⟩) h.lt).trans (h k h1 h2)
theorem Y3v (v:Value) (gs:List Gt) (os:List Int) (w:World) (h:Q1m w v gs os) (h0:Q0U gs os=0) (htab:Lib.TabIs Tryz.prog w "internal/strconv.uint64pow10" .u64 Lib.pow10Tab) (hvb:Z5X w):
  Calls Tryz.prog 85 #[v] w fun e w'=>e= .returned (.string (bs (Q8O gs os)))/\Below w.heap.size w w':=by
 have OK:=Qh (Q0Q.1 h0)
 have hg30:=OK.out.g2
 have ho30:=OK.out.o2
 have TB:=Qh htab
 have VB:=Qh hvb
 obtain ⟨vg,vo,rfl,hg,ho⟩:=h
 have KG:=Qh hg
 have KO:=Qh ho
 obtain ⟨A1,c1,rfl,hc1,hm1,hl1,hu1,hr1⟩:=hg
 obtain ⟨A2,c2,rfl,hc2,hm2,hl2,hu2,hr2⟩:=ho
 have BB:=Qh ((Below.refl w.heap.size w).alloc (Nat.le_refl _) (.cells #[.slice A1 gs.length c1,.slice A2 os.length c2] 85))
 have BX0:=Qh (Box.new w 85 [.slice A1 gs.length c1,.slice A2 os.length c2])
 suffices hgoal: ∀Post:Ending->World->Prop,(∀w',Below w.heap.size w w'->Post (.returned (.string (bs (Q8O gs os)))) w')->Calls Tryz.prog 85 #[.agg #[.slice A1 gs.length c1,.slice A2 os.length c2]] w Post from hgoal _ fun w' h=>⟨rfl,h⟩
 intro Post hpo
 have HP:=Qh hpo
 clear hu1 hr1 hm1 hu2 hr2 hm2 hpo h0 htab hvb
 obtain ⟨e0,he0⟩: ∃e0,e0=bs []:=⟨_,rfl⟩
 have HE0:=Qh he0
 go_enter Tryz.func85,Tryz.ntmps85
 go_wp2_with fail
 go_loopw [4,5] (fun x i wr=> ∃k:Nat,k<=gs.length/\i= .int .i64 k/\x= .string (bs ((gs.take k).flatMap Q1R))/\((gs.take k).flatMap Q1R).length<=60 * k/\Box wr w.heap.size 85 [.slice A1 gs.length c1,.slice A2 os.length c2]/\Below w.heap.size w wr) (fun _ i _=>gs.length - (intOf i).toNat)
 case atStart=>exact ⟨0,Nat.zero_le _,rfl,rfl,Nat.zero_le _,BX0.out,BB.out⟩
 case round=>
  obtain ⟨k,hk,rfl,rfl,hlen,hbx,hbel⟩:=hrel
  have BX:=Qh hbx
  have BEL:=Qh hbel
  have hsz:=hbel.size
  have hc0:=hbx.cell (i:=0) rfl
  clear hbx hbel
  by_cases hlt:k<gs.length
  ·obtain ⟨A,c,hA,_,_,_,hu,hr⟩:=KG.out.below BEL.out
   injection hA with hA1 hA2 hA3
   subst hA1 hA3
   obtain ⟨b1',o1,⟨kd,ga,gb,gn⟩,rfl,hb1,hgk,hgo,ha1,ha2,ha3,ha4⟩:=Q2V hr hu hlt
   dsimp only at ha1 ha2 ha3 ha4
   have hright:=OK.out.right k _ hgk
   have HGO:=Qh hgo
   have HNX:=Qh (Z0j hgk)
   obtain ⟨tx,htx⟩: ∃tx,tx=(gs.take k).flatMap Q1R:=⟨_,rfl⟩
   rw [<-htx] at HNX hlen⊢
   have BA:=Qh ((Below.refl wr.heap.size wr).alloc (Nat.le_refl _) (.cells #[.int .i64 kd,.int .i64 ga,.int .i64 gb,.int .u64 gn] 133))
   have BG0:=Qh (Box.new wr 133 [.int .i64 kd,.int .i64 ga,.int .i64 gb,.int .u64 gn])
   have VB2:=Qh ((VB.out.below BEL.out).below BA.out)
   obtain ⟨m,rfl⟩: ∃m:Nat,kd=m:=⟨kd.toNat,by
    have:kd=1∨kd=2∨kd=3∨kd=4∨kd=5∨kd=6:=by
     by_cases q:kd=1∨kd=2∨kd=3∨kd=4∨kd=5∨kd=6
     ·exact q
     ·simp only [not_or] at q
      simp [Q0u,q] at hright
    omega⟩
   have hm:1<=m/\m<=6:=by
    by_cases q:(m:Int)=1∨(m:Int)=2∨(m:Int)=3∨(m:Int)=4∨(m:Int)=5∨(m:Int)=6
    ·omega
    ·simp only [not_or] at q
     simp [Q0u,q] at hright
   obtain ⟨hm1,hm6⟩:=hm
   have hvc:=VB2.out m hm1 hm6
   obtain ⟨bt,hbt⟩: ∃bt,bt=bs tx:=⟨_,rfl⟩
   obtain ⟨bv,hbv⟩: ∃bv,bv=bs (Q2k (m:Int)):=⟨_,rfl⟩
   have hbts:bt.size<=1800:=by rw [hbt,Q0q];omega
   have hbvs:bv.size<=5:=by rw [hbv,Q0q];exact Q3l _
   have HLEN:=Qh (show ((gs.take (k+1)).flatMap Q1R).length<=60 * (k+1) by
    have hl:=Z0i ⟨m,ga,gb,gn⟩ (by have:=HGO.out.2.1.2;dsimp only at this⊢;omega) (by have:=HGO.out.2.2.1.2;dsimp only at this⊢;omega)
    rw [HNX.out,List.length_append,Q1R,List.length_append,List.length_singleton]
    omega)
   have hll:=Z0i ⟨m,ga,gb,gn⟩ (by have:=HGO.out.2.1.2;dsimp only at this⊢;omega) (by have:=HGO.out.2.2.1.2;dsimp only at this⊢;omega)
   have HLL:=Qh hll
   have HLT:=Qh hlen
   clear hll hlen
   rw [<-hbt]
   rw [<-hbv] at hvc
   have HBT:=Qh hbt
   have HBV:=Qh hbv
   clear hu hr hgk hgo hb1 hA2 htx hbt hbv
   go_upto_block 2 with fail
   obtain ⟨w2,hw2⟩: ∃w2,w2=wr.alloc (.cells #[.int .i64 (m:Int),.int .i64 ga,.int .i64 gb,.int .u64 gn] 133):=⟨_,rfl⟩
   rw [<-hw2]
   have B2:=Qh (show Below w.heap.size w w2 by rw [hw2];exact Q0b BEL.out BA.out hsz)
   have BX2:=Qh (show Box w2 w.heap.size 85 [.slice (some ⟨b1',o1,none⟩) gs.length c1,.slice A2 os.length c2] by rw [hw2];exact BX.out.alloc _)
   have BG:=Qh (show Box w2 wr.heap.size 133 [.int .i64 (m:Int),.int .i64 ga,.int .i64 gb,.int .u64 gn] by rw [hw2];exact BG0.out)
   have TB2:=Qh (show Lib.TabIs Tryz.prog w2 "internal/strconv.uint64pow10" .u64 Lib.pow10Tab by rw [hw2];exact Q0M (Q0M TB.out BEL.out) BA.out)
   obtain ⟨cb,hcb⟩: ∃c,c=wr.heap.size:=⟨_,rfl⟩
   rw [<-hcb] at BG⊢
   clear hw2 hcb BG0 BA VB2 ha1 ha2 ha3 ha4 hvc BX BEL hc0
   have hs2:=B2.out.size
   go_cut [4,5] from 8 to 79 (fun x i wx=>x= .string (bs (tx++Q4Y ⟨m,ga,gb,gn⟩))/\i= .int .i64 k/\Box wx w.heap.size 85 [.slice (some ⟨b1',o1,none⟩) gs.length c1,.slice A2 os.length c2]/\Below w.heap.size w wx)
   case first=>
    by_cases h1:m=1
    ·subst h1
     have ha0:1<=ga/\ga<=9:=by simp [Q0u] at hright;omega
     have hk0:=BG.out.cell (i:=0) rfl
     have hk1:=BG.out.cell (i:=1) rfl
     obtain ⟨na,hna⟩: ∃na,na=bs (Q3y ga):=⟨_,rfl⟩
     have hnas:na.size<=20:=by rw [hna,Q0q];exact Q1c _ (by omega)
     have CI:=Qh (Q3n ga w2 (by omega) (by omega) TB2.out)
     rw [<-hna] at CI
     have HT:=Qh (show bt++bv++(bs [32]++na)=bs (tx++Q4Y ⟨1,ga,gb,gn⟩) by rw [hna,HBT.out,HBV.out,Q0p,Q0p,Q0p];congr 1;simp [Q4Y])
     clear hna
     go_wp2_with fail
     refine CI.out.mono ?_
     rintro e w3 ⟨rfl,kk,os3,rfl⟩
     have BN:=below_grow w2 kk os3
     have BX3:=Qh (BX2.out.below BN)
     have B3:=Qh (Q0b B2.out BN B2.out.size)
     clear hk0 hk1 BN
     try dsimp only
     go_wp2_with fail
     go_meet
     case rel=>exact ⟨congrArg Value.string HT.out,rfl,BX3.out,B3.out⟩
    ·by_cases h2:m=2
     ·subst h2
      clear h1
      obtain ⟨z,hz⟩: ∃z,z=ofF (toF gn):=⟨_,rfl⟩
      have hz0:0<=z:=by rw [hz];exact Q0i _
      have hz1:z<2147483647:=by rw [hz];exact Q2M _
      have HUN:=Qh (show U64 gn from HGO.out.2.2.2)
      have CN:=Qh (show∀W,Calls Tryz.prog 83 #[.int .u64 gn] W fun e w'=>e= .returned (.int .u64 z)/\W=w' from fun W=>by rw [hz];exact Q1i gn W HUN.out)
      obtain ⟨na,hna⟩: ∃na,na=bs (Q3y z):=⟨_,rfl⟩
      have hnas:na.size<=20:=by rw [hna,Q0q];exact Q1c _ (by omega)
      have CI:=Qh (Q3n z w2 hz0 (by omega) TB2.out)
      rw [<-hna] at CI
      have HT:=Qh (show bt++bv++(bs [32]++na)=bs (tx++Q4Y ⟨2,ga,gb,gn⟩) by rw [hna,HBT.out,HBV.out,Q0p,Q0p,Q0p];congr 1;simp [Q4Y,hz])
      have hk0:=BG.out.cell (i:=0) rfl
      have hk3:=BG.out.cell (i:=3) rfl
      clear hna hz
      go_wp2_with fail
      refine (CN.out _).mono ?_
      rintro e w' ⟨rfl,rfl⟩
      try dsimp only
      go_wp2_with fail
      refine CI.out.mono ?_
      rintro e w3 ⟨rfl,kk,os3,rfl⟩
      have BN:=below_grow w2 kk os3
      have BX3:=Qh (BX2.out.below BN)
      have B3:=Qh (Q0b B2.out BN B2.out.size)
      clear hk0 hk3 BN
      try dsimp only
      go_wp2_with fail
      go_meet
      case rel=>exact ⟨congrArg Value.string HT.out,rfl,BX3.out,B3.out⟩
     ·by_cases h6:m=6
      ·subst h6
       clear h1 h2
       have ha0:0<=ga/\ga<k:=by simp [Q0u,Q0H] at hright;omega
       obtain ⟨z,hz⟩: ∃z,z=ofF (toF gn):=⟨_,rfl⟩
       have hz0:0<=z:=by rw [hz];exact Q0i _
       have hz1:z<2147483647:=by rw [hz];exact Q2M _
       have HUN:=Qh (show U64 gn from HGO.out.2.2.2)
       have CN:=Qh (show∀W,Calls Tryz.prog 83 #[.int .u64 gn] W fun e w'=>e= .returned (.int .u64 z)/\W=w' from fun W=>by rw [hz];exact Q1i gn W HUN.out)
       obtain ⟨nb,hnb⟩: ∃nb:Int->ByteArray,nb=fun x=>bs (Q3y x):=⟨_,rfl⟩
       have hnas:(nb ga).size<=20:=by rw [hnb,Q0q];exact Q1c _ (by omega)
       have hnzs:(nb z).size<=20:=by rw [hnb,Q0q];exact Q1c _ (by omega)
       have ITO:=Qh (show∀(x:Int) (W:World),(x=ga∨x=z)->Lib.TabIs Tryz.prog W "internal/strconv.uint64pow10" .u64 Lib.pow10Tab->Calls Tryz.prog 55 #[.int .i64 x] W fun e w'=>e= .returned (.string (nb x))/\Below W.heap.size W w' from fun x W hx ht=>by
        have hx0:0<=x/\x<=9223372036854775807:=by rcases hx with rfl|rfl<;>omega
        refine (Q3n x W hx0.1 hx0.2 ht).mono fun e w' hh=> ?_
        obtain ⟨rfl,kk,os3,rfl⟩:=hh
        rw [hnb]
        exact ⟨rfl,below_grow W kk os3⟩)
       have HT:=Qh (show bt++bv++(bs [32]++nb ga++bs [32]++nb z)=bs (tx++Q4Y ⟨6,ga,gb,gn⟩) by rw [hnb,HBT.out,HBV.out];dsimp only;rw [Q0p,Q0p,Q0p,Q0p,Q0p];congr 1;simp [Q4Y,hz])
       have BQ:=Qh (below_drewN B2.out 1)
       have BXQ:=Qh (BX2.out.drewN 1)
       have BGQ:=Qh (BG.out.drewN 1)
       have TBQ:=Qh (Q0M TB2.out (below_drewN (Below.refl w2.heap.size w2) 1))
       have hk0:=BG.out.cell (i:=0) rfl
       have hk1:=BG.out.cell (i:=1) rfl
       have hk2:=BG.out.cell (i:=3) rfl
       have hwz:IntKind.i64.wrap z=z:=IntWalk.i64_in _ (by omega)
       have t1: ∀W,(Op.stringOp .add ⟨#[32]⟩ (nb ga)).run Tryz.prog W= .ok (.string (bs [32]++nb ga)) W:=fun W=>run_string_add_sum W (bs [32]) (nb ga) (by rw [Q0q];simp;omega)
       have t2: ∀W,(Op.stringOp .add (bs [32]++nb ga) ⟨#[32]⟩).run Tryz.prog W= .ok (.string (bs [32]++nb ga++bs [32])) W:=fun W=>run_string_add_sum W _ (bs [32]) (by rw [ByteArray.size_append,Q0q];simp;omega)
       have t3: ∀W,(Op.stringOp .add (bs [32]++nb ga++bs [32]) (nb z)).run Tryz.prog W= .ok (.string (bs [32]++nb ga++bs [32]++nb z)) W:=fun W=>run_string_add_sum W _ _ (by rw [ByteArray.size_append,ByteArray.size_append,Q0q];simp;omega)
       have t4: ∀W,(Op.stringOp .add (bt++bv) (bs [32]++nb ga++bs [32]++nb z)).run Tryz.prog W= .ok (.string (bt++bv++(bs [32]++nb ga++bs [32]++nb z))) W:=fun W=>run_string_add_sum W _ _ (by rw [ByteArray.size_append,ByteArray.size_append,ByteArray.size_append,ByteArray.size_append,Q0q];simp;omega)
       clear hnb hz
       go_wp2_with fail
       go_region_held3 (fun w'=>w'.cell? ⟨cb,1,none⟩=some (.int .i64 ga)/\w'.cell? ⟨cb,3,none⟩=some (.int .u64 gn)) (go_keep) (first|(go_at_call 83;refine (CN.out _).mono ?_;rintro e w' ⟨rfl,rfl⟩)|(go_at_call 55;refine (ITO.out _ _ (by first|exact .inl rfl|exact .inr rfl) TB3.out).mono ?_;rintro e w4 ⟨rfl,hb4⟩;have B4:=Qh (Q0b B3.out hb4 B3.out.size);have BX4:=Qh (BX3.out.below hb4);have BG4:=Qh (BG3.out.below hb4);have q2:=BG4.out.cell (i:=1) rfl;have q3:=BG4.out.cell (i:=3) rfl;clear hb4)|(go_at_call 55;refine (ITO.out _ _ (by first|exact .inl rfl|exact .inr rfl) TBQ.out).mono ?_;rintro e w3 ⟨rfl,hb3⟩;have B3:=Qh (Q0b BQ.out hb3 BQ.out.size);have BX3:=Qh (BXQ.out.below hb3);have BG3:=Qh (BGQ.out.below hb3);have TB3:=Qh (Q0M TBQ.out hb3);have q0:=BG3.out.cell (i:=1) rfl;have q1:=BG3.out.cell (i:=3) rfl;clear hb3))
       all_goals
        clear hk0 hk1 hk2 q0 q1 q2 q3
        try dsimp only
        go_wp2_with fail
        go_meet
        case rel=>exact ⟨congrArg Value.string HT.out,rfl,BX4.out,B4.out⟩
      ·have h345:m=3∨m=4∨m=5:=by omega
       have hab:(0<=ga/\ga<k)/\(0<=gb/\gb<k):=by
        rcases h345 with rfl|rfl|rfl<;>(simp [Q0u,Q0H] at hright;omega)
       obtain ⟨⟨ha0,ha1⟩,hb0,hb1'⟩:=hab
       obtain ⟨nb,hnb⟩: ∃nb:Int->ByteArray,nb=fun x=>bs (Q3y x):=⟨_,rfl⟩
       have hnas:(nb ga).size<=20:=by rw [hnb,Q0q];exact Q1c _ (by omega)
       have hnzs:(nb gb).size<=20:=by rw [hnb,Q0q];exact Q1c _ (by omega)
       have ITO:=Qh (show∀(x:Int) (W:World),(x=ga∨x=gb)->Lib.TabIs Tryz.prog W "internal/strconv.uint64pow10" .u64 Lib.pow10Tab->Calls Tryz.prog 55 #[.int .i64 x] W fun e w'=>e= .returned (.string (nb x))/\Below W.heap.size W w' from fun x W hx ht=>by
        have hx0:0<=x/\x<=9223372036854775807:=by rcases hx with rfl|rfl<;>omega
        refine (Q3n x W hx0.1 hx0.2 ht).mono fun e w' hh=> ?_
        obtain ⟨rfl,kk,os3,rfl⟩:=hh
        rw [hnb]
        exact ⟨rfl,below_grow W kk os3⟩)
       have HT:=Qh (show bt++bv++(bs [32]++nb ga++bs [32]++nb gb)=bs (tx++Q4Y ⟨m,ga,gb,gn⟩) by
        rw [hnb,HBT.out,HBV.out];dsimp only;rw [Q0p,Q0p,Q0p,Q0p,Q0p];congr 1
        rcases h345 with rfl|rfl|rfl<;>simp [Q4Y])
       have BQ:=Qh (below_drewN B2.out 1)
       have BXQ:=Qh (BX2.out.drewN 1)
       have BGQ:=Qh (BG.out.drewN 1)
       have TBQ:=Qh (Q0M TB2.out (below_drewN (Below.refl w2.heap.size w2) 1))
       have hk0:=BG.out.cell (i:=0) rfl
       have hk1:=BG.out.cell (i:=1) rfl
       have hk2:=BG.out.cell (i:=2) rfl
       have t1: ∀W,(Op.stringOp .add ⟨#[32]⟩ (nb ga)).run Tryz.prog W= .ok (.string (bs [32]++nb ga)) W:=fun W=>run_string_add_sum W (bs [32]) (nb ga) (by rw [Q0q];simp;omega)
       have t2: ∀W,(Op.stringOp .add (bs [32]++nb ga) ⟨#[32]⟩).run Tryz.prog W= .ok (.string (bs [32]++nb ga++bs [32])) W:=fun W=>run_string_add_sum W _ (bs [32]) (by rw [ByteArray.size_append,Q0q];simp;omega)
       have t3: ∀W,(Op.stringOp .add (bs [32]++nb ga++bs [32]) (nb gb)).run Tryz.prog W= .ok (.string (bs [32]++nb ga++bs [32]++nb gb)) W:=fun W=>run_string_add_sum W _ _ (by rw [ByteArray.size_append,ByteArray.size_append,Q0q];simp;omega)
       have t4: ∀W,(Op.stringOp .add (bt++bv) (bs [32]++nb ga++bs [32]++nb gb)).run Tryz.prog W= .ok (.string (bt++bv++(bs [32]++nb ga++bs [32]++nb gb))) W:=fun W=>run_string_add_sum W _ _ (by rw [ByteArray.size_append,ByteArray.size_append,ByteArray.size_append,ByteArray.size_append,Q0q];simp;omega)
       clear hnb
       have hb1:((m:Int)==1)=false:=by rw [beq_eq_false_iff_ne];omega
       have hb2:((m:Int)==2)=false:=by rw [beq_eq_false_iff_ne];omega
       have hb6:((m:Int)==6)=false:=by rw [beq_eq_false_iff_ne];omega
       clear h345 h1 h2 h6
       go_wp2_with fail
       go_region_held3 (fun w'=>w'.cell? ⟨cb,1,none⟩=some (.int .i64 ga)/\w'.cell? ⟨cb,2,none⟩=some (.int .i64 gb)) (go_keep) (first|(go_at_call 55;refine (ITO.out _ _ (by first|exact .inl rfl|exact .inr rfl) TB3.out).mono ?_;rintro e w4 ⟨rfl,hb4⟩;have B4:=Qh (Q0b B3.out hb4 B3.out.size);have BX4:=Qh (BX3.out.below hb4);have BG4:=Qh (BG3.out.below hb4);have q2:=BG4.out.cell (i:=1) rfl;have q3:=BG4.out.cell (i:=2) rfl;clear hb4)|(go_at_call 55;refine (ITO.out _ _ (by first|exact .inl rfl|exact .inr rfl) TBQ.out).mono ?_;rintro e w3 ⟨rfl,hb3⟩;have B3:=Qh (Q0b BQ.out hb3 BQ.out.size);have BX3:=Qh (BXQ.out.below hb3);have BG3:=Qh (BGQ.out.below hb3);have TB3:=Qh (Q0M TBQ.out hb3);have q0:=BG3.out.cell (i:=1) rfl;have q1:=BG3.out.cell (i:=2) rfl;clear hb3))
       all_goals
        clear hk0 hk1 hk2 q0 q1 q2 q3
        try dsimp only
        go_wp2_with fail
        go_meet
        case rel=>exact ⟨congrArg Value.string HT.out,rfl,BX4.out,B4.out⟩
   case rest=>
    obtain ⟨rfl,rfl,hbx2,hb2⟩:=hcut
    have BX3:=Qh hbx2
    have B3:=Qh hb2
    obtain ⟨bl,hbl⟩: ∃bl,bl=bs (tx++Q4Y ⟨m,ga,gb,gn⟩):=⟨_,rfl⟩
    have hbls:bl.size<=1900:=by rw [hbl,Q0q,List.length_append];have:=HLL.out;have:=HLT.out;omega
    rw [<-hbl]
    have HT:=Qh (show bl++bs [10]=bs ((gs.take (k+1)).flatMap Q1R) by rw [hbl,Q0p,HNX.out,Q1R,List.append_assoc])
    clear hbl hbx2 hb2 BX2 B2 BG TB2
    go_wp2_with fail
    go_roundw
    case rel=>
     first
      |exact ⟨k+1,by omega,by go_num,congrArg Value.string HT.out,HLEN.out,BX3.out,B3.out⟩
      |((repeat apply Exists.intro);exact ⟨⟨k+1,by omega,by go_num,congrArg Value.string HT.out,HLEN.out,BX3.out,B3.out⟩,rfl⟩)
    case measure=>simp [intOf]<;>omega
  ·obtain rfl:k=gs.length:=by omega
   have HTK:=Qh (show gs.take gs.length=gs from List.take_length)
   rw [HTK.out]
   obtain ⟨tg,htg⟩: ∃tg,tg=gs.flatMap Q1R:=⟨_,rfl⟩
   have HTG:=Qh htg
   have HTGL:=Qh (show tg.length<=1800 by rw [htg];rw [HTK.out] at hlen;omega)
   rw [<-htg]
   clear htg
   go_wp2_with fail
   clear hc0
   obtain ⟨wo,hwo⟩: ∃wo,wo=wr:=⟨_,rfl⟩
   subst hwo
   go_loopw [4,7] (fun x i wr=> ∃q:Nat,q<=os.length/\i= .int .i64 q/\x= .string (bs (tg++(os.take q).flatMap outT))/\(tg++(os.take q).flatMap outT).length<=1800+30 * q/\Box wr w.heap.size 85 [.slice A1 gs.length c1,.slice A2 os.length c2]/\Below w.heap.size w wr) (fun _ i _=>os.length - (intOf i).toNat)
   case atStart=>exact ⟨0,Nat.zero_le _,rfl,by simp,by simp;exact HTGL.out,BX.out,BEL.out⟩
   case round=>
    obtain ⟨q,hq,rfl,rfl,hlq,hbx,hbel⟩:=hrel
    have BX1:=Qh hbx
    have BE1:=Qh hbel
    have hs1:=hbel.size
    have hc1':=hbx.cell (i:=1) rfl
    clear hbx hbel BX BEL
    by_cases hltq:q<os.length
    ·obtain ⟨A,c,hA,_,_,_,hu,hr⟩:=KO.out.below BE1.out
     injection hA with hA1 hA2 hA3
     subst hA1 hA3
     clear hA2
     obtain ⟨b2,o2,z,rfl,hb2,hgz,hat,hcz⟩:=ints_at hr hu hltq
     obtain ⟨hz0,hz1⟩:=OK.out.outs z (List.mem_of_getElem? hgz)
     obtain ⟨bt,hbt⟩: ∃bt,bt=bs (tg++(os.take q).flatMap outT):=⟨_,rfl⟩
     have hbts:bt.size<=2700:=by rw [hbt,Q0q];omega
     obtain ⟨na,hna⟩: ∃na,na=bs (Q3y z):=⟨_,rfl⟩
     have hnas:na.size<=20:=by rw [hna,Q0q];exact Q1c _ (by omega)
     have HLQ:=Qh (show (tg++(os.take (q+1)).flatMap outT).length<=1800+30 * (q+1) by
      have:=Q1c z (by omega)
      rw [List.length_append] at hlq
      rw [Q8P hgz,List.length_append,List.length_append,outT,List.length_append,List.length_append]
      simp only [List.length_cons,List.length_nil]
      omega)
     have HT:=Qh (show bt++(bs [111,117,116,32]++na++bs [10])=bs (tg++(os.take (q+1)).flatMap outT) by rw [hna,hbt,Q0p,Q0p,Q0p,Q8P hgz,outT,List.append_assoc])
     rw [<-hbt]
     have TB1:=Qh (Q0M TB.out BE1.out)
     have CI:=Qh (Q3n z wr hz0 (by omega) TB1.out)
     rw [<-hna] at CI
     clear hr hu hgz hb2 hbt hna hlq
     go_wp2_with fail
     refine CI.out.mono ?_
     rintro e w3 ⟨rfl,kk,os3,rfl⟩
     have BN:=below_grow wr kk os3
     have BX3:=Qh (BX1.out.below BN)
     have B3:=Qh (Q0b BE1.out BN BE1.out.size)
     clear BN hcz hc1'
     try dsimp only
     go_wp2_with fail
     exact ⟨⟨q+1,by omega,by go_num,congrArg Value.string HT.out,HLQ.out,BX3.out,B3.out⟩,by simp [intOf]<;>omega⟩
    ·obtain rfl:q=os.length:=by omega
     have HF:=Qh (show bs (tg++(os.take os.length).flatMap outT)=bs (Q8O gs os) by rw [List.take_length,HTG.out];rfl)
     rw [HF.out]
     go_wp2_with fail
     exact HP.out _ BE1.out
end Go.Proofs.YtploomncapiloaaGreatDoor
namespace Go.Proofs.YtploomncapiloaaGreatDoor
open Go.RowKit Go.Sort Go.PlainAid Croft
def Q8B (w:World):Prop:=Z5X w/\w.cell? ⟨1,0,none⟩=some (.string (bs []))
theorem Q8B.below {w w':World} (h:Q8B w) (hb:Below w.heap.size w w'):Q8B w':=
 ⟨h.1.below hb,(hb.cell (p:=⟨1,0,none⟩) h.1.lt).trans h.2⟩
def Z5Y (w:List UInt8):Int:=if w= [] then 0 else if Q2F w<=6 then Q2F w else -1
theorem Y0H :Q2F []=7:=by decide
theorem Y0I {w:List UInt8} (h: ¬Q2F w<=6):Z5Y w<1:=by
 unfold Z5Y
 by_cases q:w= []
 ·rw [if_pos q];omega
 ·rw [if_neg q,if_neg h];omega
theorem Y3w {w:List UInt8} (h:Q2F w<=6):Z5Y w=Q2F w:=by
 unfold Z5Y
 by_cases q:w= []
 ·subst q;rw [Y0H] at h;omega
 ·rw [if_neg q,if_pos h]
def vbs :List ByteArray:= [bs (Q2k 0),bs (Q2k 1),bs (Q2k 2),bs (Q2k 3),bs (Q2k 4),bs (Q2k 5),bs (Q2k 6)]
theorem Z3k {j:Nat} (h:j<7):vbs.getD j ByteArray.empty=bs (Q2k j):=by
 obtain rfl|rfl|rfl|rfl|rfl|rfl|rfl:j=0∨j=1∨j=2∨j=3∨j=4∨j=5∨j=6:=by omega
 all_goals rfl
theorem Y0J {i j:Nat} (hi:i<=6) (hj:j<=6) (h:Q2k i=Q2k j):i=j:=by
 have h7: ∀a b:Fin 7,Q2k (a.1:Int)=Q2k (b.1:Int)->a.1=b.1:=by decide
 exact h7 ⟨i,by omega⟩ ⟨j,by omega⟩ h
theorem Y3x (x:List UInt8) (w:World) (h:Q8B w):
  Calls Tryz.prog 34 #[.slice (some ⟨1,0,none⟩) 7 7,.string (bs x)] w fun e w'=>e= .returned (.int .i64 (Z5Y x))/\w=w':=by
 have hc: ∀j,j<vbs.length->w.cell? ⟨1,0+j,none⟩=some (.string (vbs.getD j ByteArray.empty)):=fun j hj=>by
  have hj7:j<7:=hj
  rw [Z3k hj7,Nat.zero_add]
  by_cases h0:j=0
  ·subst h0;exact h.2
  ·exact h.1 j (by omega) (by omega)
 refine (Q3A 1 0 7 7 vbs (bs x) w (by decide) (by omega) hc).mono fun e w' hh=> ?_
 obtain ⟨rfl,rfl⟩:=hh
 refine ⟨?_,rfl⟩
 congr 2
 have hit: ∀k:Nat,k<7->x=Q2k k->Lib.idxOfS (vbs.take 7) (bs x)=k:=fun k hk hx=>by
  refine Lib.idxOfS_hit vbs 7 k (bs x) hk (by decide) (by rw [Z3k hk,hx]) (fun j hj he=> ?_)
  rw [Z3k (by omega)] at he
  have:=Y0J (i:=j) (j:=k) (by omega) (by omega) (by rw [Z6J he,hx])
  omega
 unfold Z5Y
 split
 ·next q=>exact hit 0 (by omega) (by rw [q];rfl)
 ·next q=>
  split
  ·next q2=>
   have h1:=(Q5T x).1
   obtain ⟨k,hk⟩: ∃k:Nat,Q2F x=k:=⟨(Q2F x).toNat,by omega⟩
   rw [hk]
   exact hit k (by omega) (Z6I hk (by omega))
  ·next q2=>
   refine Lib.idxOfS_miss vbs 7 (bs x) (fun j hj he=> ?_)
   rw [Z3k hj] at he
   have hx:=(Z6J he).symm
   by_cases h0:j=0
   ·subst h0;exact q hx
   ·have:=Z0l (k:=(j:Int)) (by omega) (by omega)
    rw [<-hx] at this
    omega
theorem Y0K {gs:List Gt} {os:List Int} {w0:List UInt8} {ws:List (List UInt8)} (h0:w0≠Y3V) (h:Q2F w0<=6/\os.length=0/\((Q0x ws).length:Int)=(if Q2F w0<=2 then 1 else 2)):Q0X ws=true/\Q0x ws=ws.map Q2s/\Q3Q gs os w0 ws=some (gs++ [Q6n (Q2F w0) (Q0x ws)],os):=by
 obtain ⟨h1,h2,h3⟩:=h
 cases hn:Q0X ws with
 |false=>
  unfold Q0x at h3
  rw [hn] at h3
  simp at h3
  split at h3<;>omega
 |true=>
  have he:Q0x ws=ws.map Q2s:=by unfold Q0x;rw [hn,if_pos rfl]
  refine ⟨rfl,he, ?_⟩
  rw [he,List.length_map] at h3
  rw [Q7f hn h0,if_pos ⟨h1,h2,h3⟩,he]
theorem Y3y {gs:List Gt} {os:List Int} {w0:List UInt8} {ws:List (List UInt8)} (h0:w0≠Y3V) (h: ¬(Q2F w0<=6/\os.length=0/\((Q0x ws).length:Int)=(if Q2F w0<=2 then 1 else 2))):Q3Q gs os w0 ws=none:=by
 cases hn:Q0X ws with
 |false=>exact Q8z hn
 |true=>
  have he:Q0x ws=ws.map Q2s:=by unfold Q0x;rw [hn,if_pos rfl]
  rw [he,List.length_map] at h
  rw [Q7f hn h0,if_neg h]
def Q2R (l:List UInt8):List (List UInt8):=if (pieces 10 l).getLast (Q0I 10 l)= [] then (pieces 10 l).dropLast else pieces 10 l
def Q4g (l:List UInt8):Bool:=decide ((pieces 10 l).getLast (Q0I 10 l)= [])
theorem Q9W {gs:List Gt} {os:List Int} {n k:Nat} {P:List (List UInt8)} {x:List UInt8} (hk:P[k]? =some x) (hl:k+1<P.length):Q1z gs os n (P.drop k)=match Q8e gs os x with|none=> .inr n|some (gs',os')=>Q1z gs' os' (n+1) (P.drop (k+1)):=by
 obtain ⟨h1,rfl⟩:=List.getElem?_eq_some_iff.1 hk
 rw [List.drop_eq_getElem_cons h1]
 rw [List.drop_eq_getElem_cons (show k+1<P.length by omega),Q1z]
 cases Q8e gs os P[k] with
 |none=>rfl
 |some q=>rfl
theorem Z4C {gs:List Gt} {os:List Int} {n k:Nat} {P:List (List UInt8)} {x:List UInt8} (hk:P[k]? =some x) (hl:k+1=P.length):Q1z gs os n (P.drop k)=if x= [] then .inl (gs,os) else .inr n:=by
 obtain ⟨h1,rfl⟩:=List.getElem?_eq_some_iff.1 hk
 rw [List.drop_eq_getElem_cons h1,List.drop_of_length_le (by omega),Q1z]
theorem Q5U {l:List UInt8} (h:Q4g l=true):(pieces 10 l).length=(Q2R l).length+1/\(pieces 10 l)[(Q2R l).length]? =some []/\ ∀k,k<(Q2R l).length->(pieces 10 l)[k]? =(Q2R l)[k]? :=by
 have h':(pieces 10 l).getLast (Q0I 10 l)= []:=by simpa [Q4g] using h
 have hp:=List.length_pos_iff.2 (Q0I 10 l)
 unfold Q2R
 rw [if_pos h']
 have hl:(pieces 10 l).dropLast.length=(pieces 10 l).length - 1:=List.length_dropLast ..
 refine ⟨by omega, ?_,fun k hk=> ?_⟩
 ·rw [hl,<-h',List.getLast_eq_getElem,List.getElem?_eq_getElem (by omega)]
 ·rw [List.getElem?_dropLast,if_pos (by omega)]
theorem Q7g {l:List UInt8} (h:Q4g l=false):Q2R l=pieces 10 l/\ ∀x,(pieces 10 l)[(Q2R l).length - 1]? =some x->x≠ []:=by
 have h':(pieces 10 l).getLast (Q0I 10 l)≠ []:=by simpa [Q4g] using h
 have hp:=List.length_pos_iff.2 (Q0I 10 l)
 have he:Q2R l=pieces 10 l:=if_neg h'
 refine ⟨he,fun x hx=> ?_⟩
 rw [he,List.getElem?_eq_getElem (by omega)] at hx
 rw [List.getLast_eq_getElem] at h'
 exact fun e=>h' (by rw [Option.some.inj hx,e])
theorem Y3z {l:List UInt8} {k:Nat} {x:List UInt8} {gs:List Gt} {os:List Int} (hx:(Q2R l)[k]? =some x) (h:Q8e gs os x=none∨(Q4g l=false/\k+1=(Q2R l).length)):Q1z gs os (k+1) ((pieces 10 l).drop k)= .inr (k+1):=by
 have hk:=(List.getElem?_eq_some_iff.1 hx).1
 cases hw:Q4g l with
 |true=>
  obtain ⟨h1,_,h3⟩:=Q5U hw
  rcases h with h|⟨h,_⟩
  ·rw [Q9W (by rw [h3 k hk];exact hx) (by omega),h]
  ·rw [hw] at h;cases h
 |false=>
  obtain ⟨h1,h2⟩:=Q7g hw
  by_cases q:k+1=(Q2R l).length
  ·rw [Z4C (by rw [<-h1];exact hx) (by rw [<-h1];exact q),if_neg]
   exact h2 x (by rw [<-q,<-h1];exact hx)
  ·rcases h with h|⟨_,h⟩
   ·rw [Q9W (by rw [<-h1];exact hx) (by rw [<-h1];omega),h]
   ·exact absurd h q
theorem Y0L {l:List UInt8} {k:Nat} {x:List UInt8} {gs gs':List Gt} {os os':List Int} (hx:(Q2R l)[k]? =some x) (h:Q8e gs os x=some (gs',os')) (hw:Q4g l=true∨k+1<(Q2R l).length):Q1z gs os (k+1) ((pieces 10 l).drop k)=Q1z gs' os' (k+1+1) ((pieces 10 l).drop (k+1)):=by
 have hk:=(List.getElem?_eq_some_iff.1 hx).1
 cases hw2:Q4g l with
 |true=>
  obtain ⟨h1,_,h3⟩:=Q5U hw2
  rw [Q9W (by rw [h3 k hk];exact hx) (by omega),h]
 |false=>
  obtain ⟨h1,h2⟩:=Q7g hw2
  rcases hw with hw|hw
  ·rw [hw2] at hw;cases hw
  ·rw [Q9W (by rw [<-h1];exact hx) (by rw [<-h1];omega),h]
theorem Y0M {l:List UInt8} {gs:List Gt} {os:List Int} (hw:Q4g l=true):Q1z gs os ((Q2R l).length+1) ((pieces 10 l).drop (Q2R l).length)= .inl (gs,os):=by
 obtain ⟨h1,h2,_⟩:=Q5U hw
 rw [Z4C h2 (by omega),if_pos rfl]
def Lay (w:World):Prop:=Q9b w/\Lib.TabIs Tryz.prog w "internal/strconv.uint64pow10" .u64 Lib.pow10Tab/\Q8B w
theorem Lay.below {w w':World} (h:Lay w) (hb:Below w.heap.size w w'):Lay w':=⟨h.1.below hb,Q0M h.2.1 hb,h.2.2.below hb⟩
theorem Q5V (gs:List Gt) (os:List Int):0<=Q0U gs os/\Q0U gs os<=2:=by
 unfold Q0U
 split
 ·omega
 split
 ·omega
 split
 ·split<;>omega
 ·omega
theorem Z4D : ∀(P:List (List UInt8)) (gs:List Gt) (os:List Int) (n k:Nat),Q1z gs os n P= .inr k->k<=n+P.length
 | [],gs,os,n,k,h=>by simp [Q1z] at h
 | [x],gs,os,n,k,h=>by
  rw [Q1z] at h
  split at h
  ·cases h
  ·cases h;simp
 |x::y::l,gs,os,n,k,h=>by
  rw [Q1z] at h
  split at h
  ·cases h;omega
  ·next p q hp=>
   have:=Z4D (y::l) _ _ _ _ h
   simp only [List.length_cons] at this⊢
   omega
theorem Z3l (s:List UInt8):0<=(Q0s s).e/\(Q0s s).e<=3:=by
 unfold Q0s
 split
 ·simp
 ·unfold Q2t
  split
  ·simp
  ·next gs os _=>
   have:=Q5V gs os
   split
   ·simp
   ·dsimp only;omega
theorem Z1i (s:List UInt8):0<=(Q0s s).at_/\(Q0s s).at_<=3000:=by
 unfold Q0s
 split
 ·simp
 ·next hs=>
  unfold Q2t
  split
  ·next k hk=>
   have h1:=Z4D _ _ _ _ _ hk
   have h2:=Q3m 10 s
   dsimp only
   omega
  ·split<;>simp
theorem Q9c (F:Nat) (cap:Array Value) (f:List Gt->List Int->List UInt8) (db:Nat) (tx:List UInt8) (kp:Value) (w:World) (hd:Box w db 32 [.string (bs tx),kp]) (hL:Lay w)
  (hcf: ∀(x:Value) (W:World),(callFunc F (#[x]++cap)).run Tryz.prog W= .ok (.enter F (#[x]++cap)) W)
  (hF: ∀(v:Value) (gs:List Gt) (os:List Int) (W:World),Below w.heap.size w W->Q1m W v gs os->Q0U gs os=0->Calls Tryz.prog F (#[v]++cap) W fun e w'=>e= .returned (.string (bs (f gs os)))/\Below W.heap.size W w'):
  Calls Tryz.prog 49 #[.pointer (some ⟨db,0,none⟩),.func (.func F) #[] cap] w fun e w'=>e= .returned (.string (bs (Q5e tx f)))/\Below w.heap.size w w':=by
 have HF:=Qh hF
 have HL:=Qh hL
 have BX:=Qh hd
 have hc0:=hd.cell (i:=0) rfl
 have CP:=Qh (Z8b tx w hL.1)
 suffices hgoal: ∀Post:Ending->World->Prop,(∀w',Below w.heap.size w w'->Post (.returned (.string (bs (Q5e tx f)))) w')->Calls Tryz.prog 49 #[.pointer (some ⟨db,0,none⟩),.func (.func F) #[] cap] w Post from hgoal _ fun w' h=>⟨rfl,h⟩
 intro Post hpo
 have HP:=Qh hpo
 have he3:=Z3l tx
 have hat:=Z1i tx
 obtain ⟨E,hE⟩: ∃E,E=(Q0s tx).e:=⟨_,rfl⟩
 obtain ⟨A,hA⟩: ∃A,A=(Q0s tx).at_:=⟨_,rfl⟩
 obtain ⟨gs,hgs⟩: ∃gs,gs=(Q0s tx).gs:=⟨_,rfl⟩
 obtain ⟨os,hos⟩: ∃os,os=(Q0s tx).os:=⟨_,rfl⟩
 have HN:=Qh (show Q5e tx f=if E=0 then f gs os else Q2h E++32::Q3y A by unfold Q5e;rw [<-hE,<-hA,<-hgs,<-hos])
 have HC:=Qh (show E=0->Q0U gs os=0 by rw [hE,hgs,hos];exact fun h=>Q0Q.2 (Q6p h))
 rw [<-hE,<-hA,<-hgs,<-hos] at CP
 rw [<-hE] at he3
 rw [<-hA] at hat
 obtain ⟨st,hst⟩: ∃st,st=bs tx:=⟨_,rfl⟩
 rw [<-hst] at CP hc0
 clear hpo hF hL hd hE hA hgs hos hst
 by_cases hE0:E=0
 ·have hbn:(E !=0)=false:=by rw [bne_eq_false_iff_eq];exact hE0
  have HC0:=Qh (HC.out hE0)
  have HN0:=Qh (show Q5e tx f=f gs os by rw [HN.out,if_pos hE0])
  clear hE0
  go_enter Tryz.func49,Tryz.ntmps49
  go_wp2_with fail
  refine CP.out.mono ?_
  rintro e W1 ⟨v,rfl,hcirc,hb⟩
  have KC:=Qh hcirc
  obtain ⟨vg,vo,rfl,hg,ho⟩:=hcirc
  obtain ⟨A1,c1,rfl,hc1,hm1,hl1,hu1,hr1⟩:=hg
  obtain ⟨A2,c2,rfl,hc2,hm2,hl2,hu2,hr2⟩:=ho
  have B1:=Qh hb
  clear hb hu1 hr1 hm1 hu2 hr2 hm2
  try dsimp only
  go_wp2_with fail
  have B2:=Qh (B1.out.alloc B1.out.size (.cells #[.slice A1 gs.length c1,.slice A2 os.length c2] 85))
  refine (HF.out _ gs os _ B2.out (KC.out.below ((Below.refl _ _).alloc (Nat.le_refl _) _)) HC0.out).mono ?_
  rintro e w' ⟨rfl,hb⟩
  have B3:=Qh (Q0b B2.out hb B2.out.size)
  clear hb
  rw [HN0.out] at HP
  try dsimp only
  go_wp2_with fail
  exact HP.out _ B3.out
 ·have hbn:(E !=0)=true:=by rw [bne_iff_ne];exact hE0
  have HN0:=Qh (show Q5e tx f=Q2h E++32::Q3y A by rw [HN.out,if_neg hE0])
  obtain ⟨s1,hs1⟩: ∃s1,s1=bs (Q2h E):=⟨_,rfl⟩
  obtain ⟨s3,hs3⟩: ∃s3,s3=bs (Q3y A):=⟨_,rfl⟩
  have CF:=Qh (fun W (hW:Lay W)=>Q2H E W (by omega) (by omega) hW.2.1)
  have CI:=Qh (fun W (hW:Lay W)=>Q3n A W (by omega) (by omega) hW.2.1)
  have hz1:s1.size<=40:=by rw [hs1,Q0q,Q2h,List.length_append];have:=Q1c E (by omega);simp;omega
  have hz3:s3.size<=20:=by rw [hs3,Q0q];exact Q1c _ (by omega)
  have HN1:=Qh (show s1++(⟨#[32]⟩:ByteArray)++s3=bs (Q5e tx f) by
   rw [HN0.out,hs1,hs3]
   show bs _++bs [32]++bs _=_
   rw [Q0p,Q0p];simp)
  obtain ⟨s2,hs2⟩: ∃s2,s2=s1++(⟨#[32]⟩:ByteArray):=⟨_,rfl⟩
  have hz2:s2.size<=41:=by rw [hs2,ByteArray.size_append];have:(⟨#[32]⟩:ByteArray).size=1:=rfl;omega
  have t1: ∀W,(Op.stringOp .add s1 ⟨#[32]⟩).run Tryz.prog W= .ok (.string s2) W:=fun W=>by
   rw [hs2];exact run_string_add_sum W s1 _ (by have:(⟨#[32]⟩:ByteArray).size=1:=rfl;omega)
  have t2: ∀W,(Op.stringOp .add s2 s3).run Tryz.prog W= .ok (.string (s2++s3)) W:=fun W=>run_string_add_sum W s2 s3 (by omega)
  rw [<-hs1] at CF
  rw [<-hs3] at CI
  rw [<-hs2] at HN1
  rw [<-HN1.out] at HP
  clear hE0 hs1 hs2 hs3 he3 hat
  go_enter Tryz.func49,Tryz.ntmps49
  go_wp2_with fail
  refine CP.out.mono ?_
  rintro e W1 ⟨v,rfl,hcirc,hb⟩
  obtain ⟨vg,vo,rfl,hg,ho⟩:=hcirc
  obtain ⟨A1,c1,rfl,hc1,hm1,hl1,hu1,hr1⟩:=hg
  obtain ⟨A2,c2,rfl,hc2,hm2,hl2,hu2,hr2⟩:=ho
  have B1:=Qh hb
  clear hb hu1 hr1 hm1 hu2 hr2 hm2
  have B2:=Qh (B1.out.alloc B1.out.size (.cells #[.slice A1 gs.length c1,.slice A2 os.length c2] 85))
  try dsimp only
  go_wp2_with fail
  refine (CF.out _ (HL.out.below B2.out)).mono ?_
  rintro e W2 ⟨rfl,hb⟩
  have B3:=Qh (Q0b B2.out hb B2.out.size)
  clear hb
  try dsimp only
  go_wp2_with fail
  refine (CI.out _ (HL.out.below B3.out)).mono ?_
  rintro e W3 ⟨rfl,q,os,rfl⟩
  try dsimp only
  go_wp2_with fail
  exact HP.out _ (Q0b B3.out (below_grow W2 q os) B3.out.size)
end Go.Proofs.YtploomncapiloaaGreatDoor
