/- Parts of the proof, put together by a program: PrintW. No condition. -/
import Derived.Test.YtploomncapiloaaGreatDoorSAO
set_option maxRecDepth 100000
set_option maxHeartbeats 8000000
namespace Go.Proofs.YtploomncapiloaaGreatDoor
open Go.RowKit Go.Sort Croft
def Bld (w:World) (b:Nat) (l:List UInt8):Prop:=Lib.IsBuilder 36 5 b b (Lib.byteCells l) w
theorem BldAt.below {w w':World} {b:Nat} {p:Value} {l:List Value} (h:Lib.BuilderAt 36 5 b b p l w) (hb:Below w.heap.size w w'):Lib.BuilderAt 36 5 b b p l w':=by
 obtain ⟨h1,v,h2,h3,h4⟩:=h
 exact ⟨h1,v,(hb.block b (Array.getElem?_eq_some_iff.1 h2).1).trans h2,Q4O h3 hb,h4⟩
theorem Bld.below {w w':World} {b:Nat} {l:List UInt8} (h:Bld w b l) (hb:Below w.heap.size w w'):Bld w' b l:=by
 rcases h with h|h
 ·exact .inl (BldAt.below h hb)
 ·exact .inr (BldAt.below h hb)
theorem Bld.new (w:World):Bld (w.alloc (.cells #[.pointer none,.slice none 0 0] 36)) w.heap.size []:=
 .inl ⟨Nat.le_refl _,_,heap_alloc_new w _,World.ownsRow_nil _ _ _ _,by simp [Value.ownBlock]⟩
theorem Bld.lt {w:World} {b:Nat} {l:List UInt8} (h:Bld w b l):b<w.heap.size:=by
 rcases h with h|h<;>exact h.lt
theorem Q4z (b:Nat) (l x:List UInt8) (w:World) (h:Bld w b l) (hl:l.length+x.length<=100000):
  Calls Tryz.prog 15 #[.pointer (some ⟨b,0,none⟩),.string (bs x)] w fun e w'=>e= .returned (.tuple #[.int .i64 x.length,.nilIface])/\Bld w' b (l++x)/\Below b w w':=by
 refine (Q6c b b _ (bs x) w h (by rw [Lib.byteCells_length,Q0q];omega) (Nat.le_of_lt h.lt)).mono fun e w' hh=> ?_
 obtain ⟨rfl,h1,h2⟩:=hh
 rw [Q0q]
 refine ⟨rfl,.inr ?_,h2⟩
 rw [Lib.byteCells_append]
 exact h1
theorem Y0G (v:Value) (gs:List Gt) (os:List Int) (w:World) (h:Q1m w v gs os) (h0:Q0U gs os=0) (htab:Lib.TabIs Tryz.prog w "internal/strconv.uint64pow10" .u64 Lib.pow10Tab):
  Calls Tryz.prog 112 #[v] w fun e w'=>e= .returned (.tuple #[.string (bs (Q8O gs os)),.int .i64 0])/\Below w.heap.size w w':=by
 have OK:=Qh (Q0Q.1 h0)
 have H0:=Qh h0
 have KC:=Qh h
 have hg30:=OK.out.g2
 have ho30:=OK.out.o2
 have TB:=Qh htab
 obtain ⟨vg,vo,rfl,hg,ho⟩:=h
 have KG:=Qh hg
 have KO:=Qh ho
 obtain ⟨A1,c1,rfl,hc1,hm1,hl1,hu1,hr1⟩:=hg
 obtain ⟨A2,c2,rfl,hc2,hm2,hl2,hu2,hr2⟩:=ho
 have BB:=Qh ((Below.refl w.heap.size w).alloc (Nat.le_refl _) (.cells #[.slice A1 gs.length c1,.slice A2 os.length c2] 85))
 have BX0:=Qh (Box.new w 85 [.slice A1 gs.length c1,.slice A2 os.length c2])
 suffices hgoal: ∀Post:Ending->World->Prop,(∀w',Below w.heap.size w w'->Post (.returned (.tuple #[.string (bs (Q8O gs os)),.int .i64 0])) w')->Calls Tryz.prog 112 #[.agg #[.slice A1 gs.length c1,.slice A2 os.length c2]] w Post from hgoal _ fun w' h=>⟨rfl,h⟩
 intro Post hpo
 have HP:=Qh hpo
 clear hu1 hr1 hm1 hu2 hr2 hm2 hpo h0 htab
 go_enter Tryz.func112,Tryz.ntmps112
 go_wp2_with fail
 refine (Q6S _ gs os _ (KC.out.below BB.out)).mono ?_
 rintro e W1 ⟨rfl,hb⟩
 rw [H0.out]
 have B1:=Qh (Q0b BB.out hb BB.out.size)
 have BX1:=Qh (BX0.out.below hb)
 have hlt1:=BX1.out.lt
 have hc0:=BX1.out.cell (i:=0) rfl
 have hc1':=BX1.out.cell (i:=1) rfl
 clear hb
 have hba:Below W1.heap.size W1 (W1.alloc (.cells #[.pointer none,.slice none 0 0] 36)):=(Below.refl _ _).alloc (Nat.le_refl _) _
 have B2:=Qh (Q0b B1.out hba B1.out.size)
 have BX2:=Qh (BX1.out.below hba)
 have BD2:=Qh (Bld.new W1)
 have hs1:=B1.out.size
 clear hba
 try dsimp only
 go_wp2_with fail
 clear hc0 hc1'
 obtain ⟨b,hb⟩: ∃b,b=W1.heap.size:=⟨_,rfl⟩
 rw [<-hb] at BD2 hlt1 hs1⊢
 clear hb
 go_loopw [19] (fun i wr=> ∃k:Nat,k<=gs.length/\i= .int .i64 k/\Bld wr b ((gs.take k).flatMap Q1R)/\((gs.take k).flatMap Q1R).length<=60 * k/\Box wr w.heap.size 85 [.slice A1 gs.length c1,.slice A2 os.length c2]/\Below w.heap.size w wr) (fun i _=>gs.length - (intOf i).toNat)
 case atStart=>exact ⟨0,Nat.zero_le _,rfl,BD2.out,Nat.zero_le _,BX2.out,B2.out⟩
 case round=>
  obtain ⟨k,hk,rfl,hbd,hlen,hbx,hbel⟩:=hrel
  have BD:=Qh hbd
  have BX:=Qh hbx
  have BEL:=Qh hbel
  have hsz:=hbel.size
  clear hbd hbx hbel
  by_cases hlt:k<gs.length
  ·obtain ⟨A,c,hA,_,_,_,hu,hr⟩:=KG.out.below BEL.out
   injection hA with hA1 hA2 hA3
   subst hA1 hA3
   obtain ⟨b1',o1,⟨kd,ga,gb,gn⟩,rfl,hb1,hgk,hgo,ha1,ha2,ha3,ha4⟩:=Q2V hr hu hlt
   dsimp only at ha1 ha2 ha3 ha4
   have hright:=OK.out.right k _ hgk
   have HGO:=Qh hgo
   have HNX:=Qh (Z0j hgk)
   obtain ⟨tx,htx⟩: ∃tx,tx=(gs.take k).flatMap Q1R:=⟨_,rfl⟩
   rw [<-htx] at HNX hlen BD
   have hll:=Z0i ⟨kd,ga,gb,gn⟩ (by have:=HGO.out.2.1.2;dsimp only at this⊢;omega) (by have:=HGO.out.2.2.1.2;dsimp only at this⊢;omega)
   have hgl:(Q1R ⟨kd,ga,gb,gn⟩).length<=48:=by rw [Q1R,List.length_append,List.length_singleton];omega
   have HGL:=Qh hgl
   have HLEN:=Qh (show ((gs.take (k+1)).flatMap Q1R).length<=60 * (k+1) by rw [HNX.out,List.length_append];omega)
   have HLT:=Qh hlen
   have BA:=Qh ((Below.refl wr.heap.size wr).alloc (Nat.le_refl _) (.cells #[.int .i64 kd,.int .i64 ga,.int .i64 gb,.int .u64 gn] 133))
   have BG0:=Qh (Box.new wr 133 [.int .i64 kd,.int .i64 ga,.int .i64 gb,.int .u64 gn])
   have TB2:=Qh (Q0M (Q0M TB.out BEL.out) BA.out)
   have HUN:=Qh (show U64 gn from HGO.out.2.2.2)
   have hgn0:0<=gn:=HUN.out.1
   have hkk:kd=1∨kd=2∨kd=3∨kd=4∨kd=5∨kd=6:=by
    by_cases q:kd=1∨kd=2∨kd=3∨kd=4∨kd=5∨kd=6
    ·exact q
    ·simp only [not_or] at q
     simp [Q0u,q] at hright
   obtain ⟨z,hz⟩: ∃z,z=ofF (toF gn):=⟨_,rfl⟩
   have hz0:0<=z:=by rw [hz];exact Q0i _
   have hz1:z<2147483647:=by rw [hz];exact Q2M _
   have CN:=Qh (show∀W,Calls Tryz.prog 148 #[.int .u64 gn] W fun e w'=>e= .returned (.int .u64 z)/\W=w' from fun W=>by rw [hz];exact Q1f gn W hgn0)
   have HZ:=Qh hz
   obtain ⟨nb,hnb⟩: ∃nb:Int->ByteArray,nb=fun x=>bs (Q3y x):=⟨_,rfl⟩
   have HNB:=Qh hnb
   have hnzs:(nb z).size<=20:=by rw [hnb,Q0q];exact Q1c _ (by omega)
   have hnas:(nb ga).size<=20:=by rw [hnb,Q0q];exact Q1c _ (by have:=HGO.out.2.1.2;dsimp only at this;omega)
   have hnbs:(nb gb).size<=20:=by rw [hnb,Q0q];exact Q1c _ (by have:=HGO.out.2.2.1.2;dsimp only at this;omega)
   have ITO:=Qh (show∀(x:Int) (W:World),0<=x->x<=9223372036854775807->Lib.TabIs Tryz.prog W "internal/strconv.uint64pow10" .u64 Lib.pow10Tab->Calls Tryz.prog 55 #[.int .i64 x] W fun e w'=>e= .returned (.string (nb x))/\Below W.heap.size W w' from fun x W hx0 hx1 ht=>by
    refine (Q3n x W hx0 hx1 ht).mono fun e w' hh=> ?_
    obtain ⟨rfl,kk,os3,rfl⟩:=hh
    rw [hnb]
    exact ⟨rfl,below_grow W kk os3⟩)
   have FMT:=Qh (show∀(W:World),Lib.TabIs Tryz.prog W "internal/strconv.uint64pow10" .u64 Lib.pow10Tab->Calls Tryz.prog 79 #[.int .u64 z,.int .i64 10] W fun e w'=>e= .returned (.string (nb z))/\Below W.heap.size W w' from fun W ht=>by
    refine (Z5f z W hz0 (by omega) ht).mono fun e w' hh=> ?_
    obtain ⟨rfl,kk,os3,rfl⟩:=hh
    rw [hnb]
    exact ⟨rfl,below_grow W kk os3⟩)
   clear hu hr hgk hgo hb1 hA2 htx hll hgl hlen hz hnb
   rcases hkk with hkd|hkd|hkd|hkd|hkd|hkd
   ·subst hkd
    have hx:0<=ga/\ga<=9:=by simp [Q0u] at hright;all_goals omega
    obtain ⟨bv,hbv⟩: ∃bv,bv=bs (Q2k 1):=⟨_,rfl⟩
    have hbvs:bv.size<=5:=by rw [hbv,Q0q];exact Q3l _
    have CW:=Qh (show∀W,Calls Tryz.prog 156 #[.int .i64 1] W fun e w'=>e= .returned (.string bv)/\W=w' from fun W=>by rw [hbv];exact Q4v 1 W (by omega) (by omega))
    have HT0:(bv++(bs [32]++nb ga))++bs [10]=bs (Q1R ⟨1,ga,gb,gn⟩):=by
     rw [hbv,HNB.out];dsimp only;simp only [Q0p];congr 1<;>simp [Q1R,Q4Y,HZ.out]
    have HT:=Qh (show (bv++(⟨#[32]⟩++nb ga))++⟨#[10]⟩=bs (Q1R ⟨1,ga,gb,gn⟩) from HT0)
    clear HT0
    clear hbv
    have TV0:=Qh TB2.out
    have DV0:=Qh (BD.out.below BA.out)
    have XV0:=Qh (BX.out.below BA.out)
    have EV0:=Qh (Q0b BEL.out BA.out hsz)
    have GV0:=Qh BG0.out
    go_wp2_with fail
    refine (CW.out _).mono ?_
    rintro e w' ⟨rfl,rfl⟩
    try dsimp only
    go_wp2_with fail
    refine (ITO.out ga _ (by omega) (by omega) TV0.out).mono ?_
    rintro e V1 ⟨rfl,hb⟩
    have TV1:=Qh (Q0M TV0.out hb)
    have DV1:=Qh (DV0.out.below hb)
    have XV1:=Qh (XV0.out.below hb)
    have EV1:=Qh (Q0b EV0.out hb EV0.out.size)
    have GV1:=Qh (GV0.out.below hb)
    have g0:=GV1.out.cell (i:=0) rfl
    have g1:=GV1.out.cell (i:=1) rfl
    have g2:=GV1.out.cell (i:=2) rfl
    have g3:=GV1.out.cell (i:=3) rfl
    clear hb
    try dsimp only
    go_wp2_with fail
    rw [HT.out]
    have hbb:=DV1.out.lt
    refine (Q4z b tx _ _ DV1.out (by have:=HGL.out;have:=HLT.out;omega)).mono ?_
    rintro e V9 ⟨rfl,hd,hb⟩
    have BD9:=Qh (show Bld V9 b ((gs.take (k+1)).flatMap Q1R) by rw [HNX.out];exact hd)
    have BX9:=Qh (XV1.out.under hb (by omega))
    have B9:=Qh (EV1.out.trans (hb.mono (by omega)))
    clear hd hb
    try dsimp only
    go_wp2_with fail
    exact ⟨⟨k+1,by omega,by go_num,BD9.out,HLEN.out,BX9.out,B9.out⟩,by simp [intOf]<;>omega⟩
   ·subst hkd
    obtain ⟨bv,hbv⟩: ∃bv,bv=bs (Q2k 2):=⟨_,rfl⟩
    have hbvs:bv.size<=5:=by rw [hbv,Q0q];exact Q3l _
    have CW:=Qh (show∀W,Calls Tryz.prog 156 #[.int .i64 2] W fun e w'=>e= .returned (.string bv)/\W=w' from fun W=>by rw [hbv];exact Q4v 2 W (by omega) (by omega))
    have HT0:(bv++(bs [32]++nb z))++bs [10]=bs (Q1R ⟨2,ga,gb,gn⟩):=by
     rw [hbv,HNB.out];dsimp only;simp only [Q0p];congr 1<;>simp [Q1R,Q4Y,HZ.out]
    have HT:=Qh (show (bv++(⟨#[32]⟩++nb z))++⟨#[10]⟩=bs (Q1R ⟨2,ga,gb,gn⟩) from HT0)
    clear HT0
    clear hbv
    have TV0:=Qh TB2.out
    have DV0:=Qh (BD.out.below BA.out)
    have XV0:=Qh (BX.out.below BA.out)
    have EV0:=Qh (Q0b BEL.out BA.out hsz)
    have GV0:=Qh BG0.out
    go_wp2_with fail
    refine (CW.out _).mono ?_
    rintro e w' ⟨rfl,rfl⟩
    try dsimp only
    go_wp2_with fail
    refine (CN.out _).mono ?_
    rintro e w' ⟨rfl,rfl⟩
    try dsimp only
    go_wp2_with fail
    refine (FMT.out _ TV0.out).mono ?_
    rintro e V1 ⟨rfl,hb⟩
    have TV1:=Qh (Q0M TV0.out hb)
    have DV1:=Qh (DV0.out.below hb)
    have XV1:=Qh (XV0.out.below hb)
    have EV1:=Qh (Q0b EV0.out hb EV0.out.size)
    have GV1:=Qh (GV0.out.below hb)
    have g0:=GV1.out.cell (i:=0) rfl
    have g1:=GV1.out.cell (i:=1) rfl
    have g2:=GV1.out.cell (i:=2) rfl
    have g3:=GV1.out.cell (i:=3) rfl
    clear hb
    try dsimp only
    go_wp2_with fail
    rw [HT.out]
    have hbb:=DV1.out.lt
    refine (Q4z b tx _ _ DV1.out (by have:=HGL.out;have:=HLT.out;omega)).mono ?_
    rintro e V9 ⟨rfl,hd,hb⟩
    have BD9:=Qh (show Bld V9 b ((gs.take (k+1)).flatMap Q1R) by rw [HNX.out];exact hd)
    have BX9:=Qh (XV1.out.under hb (by omega))
    have B9:=Qh (EV1.out.trans (hb.mono (by omega)))
    clear hd hb
    try dsimp only
    go_wp2_with fail
    exact ⟨⟨k+1,by omega,by go_num,BD9.out,HLEN.out,BX9.out,B9.out⟩,by simp [intOf]<;>omega⟩
   ·subst hkd
    have hx:(0<=ga/\ga<k)/\(0<=gb/\gb<k):=by simp [Q0u,Q0H] at hright;all_goals omega
    obtain ⟨bv,hbv⟩: ∃bv,bv=bs (Q2k 3):=⟨_,rfl⟩
    have hbvs:bv.size<=5:=by rw [hbv,Q0q];exact Q3l _
    have CW:=Qh (show∀W,Calls Tryz.prog 156 #[.int .i64 3] W fun e w'=>e= .returned (.string bv)/\W=w' from fun W=>by rw [hbv];exact Q4v 3 W (by omega) (by omega))
    have HT0:(bv++(bs [32]++nb ga)++(bs [32]++nb gb))++bs [10]=bs (Q1R ⟨3,ga,gb,gn⟩):=by
     rw [hbv,HNB.out];dsimp only;simp only [Q0p];congr 1<;>simp [Q1R,Q4Y,HZ.out]
    have HT:=Qh (show (bv++(⟨#[32]⟩++nb ga)++(⟨#[32]⟩++nb gb))++⟨#[10]⟩=bs (Q1R ⟨3,ga,gb,gn⟩) from HT0)
    clear HT0
    clear hbv
    have TV0:=Qh TB2.out
    have DV0:=Qh (BD.out.below BA.out)
    have XV0:=Qh (BX.out.below BA.out)
    have EV0:=Qh (Q0b BEL.out BA.out hsz)
    have GV0:=Qh BG0.out
    go_wp2_with fail
    refine (CW.out _).mono ?_
    rintro e w' ⟨rfl,rfl⟩
    try dsimp only
    go_wp2_with fail
    refine (ITO.out ga _ (by omega) (by omega) TV0.out).mono ?_
    rintro e V1 ⟨rfl,hb⟩
    have TV1:=Qh (Q0M TV0.out hb)
    have DV1:=Qh (DV0.out.below hb)
    have XV1:=Qh (XV0.out.below hb)
    have EV1:=Qh (Q0b EV0.out hb EV0.out.size)
    have GV1:=Qh (GV0.out.below hb)
    have g0:=GV1.out.cell (i:=0) rfl
    have g1:=GV1.out.cell (i:=1) rfl
    have g2:=GV1.out.cell (i:=2) rfl
    have g3:=GV1.out.cell (i:=3) rfl
    clear hb
    try dsimp only
    go_wp2_with fail
    refine (ITO.out gb _ (by omega) (by omega) TV1.out).mono ?_
    rintro e V2 ⟨rfl,hb⟩
    have TV2:=Qh (Q0M TV1.out hb)
    have DV2:=Qh (DV1.out.below hb)
    have XV2:=Qh (XV1.out.below hb)
    have EV2:=Qh (Q0b EV1.out hb EV1.out.size)
    have GV2:=Qh (GV1.out.below hb)
    have g0:=GV2.out.cell (i:=0) rfl
    have g1:=GV2.out.cell (i:=1) rfl
    have g2:=GV2.out.cell (i:=2) rfl
    have g3:=GV2.out.cell (i:=3) rfl
    clear hb
    try dsimp only
    go_wp2_with fail
    rw [HT.out]
    have hbb:=DV2.out.lt
    refine (Q4z b tx _ _ DV2.out (by have:=HGL.out;have:=HLT.out;omega)).mono ?_
    rintro e V9 ⟨rfl,hd,hb⟩
    have BD9:=Qh (show Bld V9 b ((gs.take (k+1)).flatMap Q1R) by rw [HNX.out];exact hd)
    have BX9:=Qh (XV2.out.under hb (by omega))
    have B9:=Qh (EV2.out.trans (hb.mono (by omega)))
    clear hd hb
    try dsimp only
    go_wp2_with fail
    exact ⟨⟨k+1,by omega,by go_num,BD9.out,HLEN.out,BX9.out,B9.out⟩,by simp [intOf]<;>omega⟩
   ·subst hkd
    have hx:(0<=ga/\ga<k)/\(0<=gb/\gb<k):=by simp [Q0u,Q0H] at hright;all_goals omega
    obtain ⟨bv,hbv⟩: ∃bv,bv=bs (Q2k 4):=⟨_,rfl⟩
    have hbvs:bv.size<=5:=by rw [hbv,Q0q];exact Q3l _
    have CW:=Qh (show∀W,Calls Tryz.prog 156 #[.int .i64 4] W fun e w'=>e= .returned (.string bv)/\W=w' from fun W=>by rw [hbv];exact Q4v 4 W (by omega) (by omega))
    have HT0:(bv++(bs [32]++nb ga)++(bs [32]++nb gb))++bs [10]=bs (Q1R ⟨4,ga,gb,gn⟩):=by
     rw [hbv,HNB.out];dsimp only;simp only [Q0p];congr 1<;>simp [Q1R,Q4Y,HZ.out]
    have HT:=Qh (show (bv++(⟨#[32]⟩++nb ga)++(⟨#[32]⟩++nb gb))++⟨#[10]⟩=bs (Q1R ⟨4,ga,gb,gn⟩) from HT0)
    clear HT0
    clear hbv
    have TV0:=Qh TB2.out
    have DV0:=Qh (BD.out.below BA.out)
    have XV0:=Qh (BX.out.below BA.out)
    have EV0:=Qh (Q0b BEL.out BA.out hsz)
    have GV0:=Qh BG0.out
    go_wp2_with fail
    refine (CW.out _).mono ?_
    rintro e w' ⟨rfl,rfl⟩
    try dsimp only
    go_wp2_with fail
    refine (ITO.out ga _ (by omega) (by omega) TV0.out).mono ?_
    rintro e V1 ⟨rfl,hb⟩
    have TV1:=Qh (Q0M TV0.out hb)
    have DV1:=Qh (DV0.out.below hb)
    have XV1:=Qh (XV0.out.below hb)
    have EV1:=Qh (Q0b EV0.out hb EV0.out.size)
    have GV1:=Qh (GV0.out.below hb)
    have g0:=GV1.out.cell (i:=0) rfl
    have g1:=GV1.out.cell (i:=1) rfl
    have g2:=GV1.out.cell (i:=2) rfl
    have g3:=GV1.out.cell (i:=3) rfl
    clear hb
    try dsimp only
    go_wp2_with fail
    refine (ITO.out gb _ (by omega) (by omega) TV1.out).mono ?_
    rintro e V2 ⟨rfl,hb⟩
    have TV2:=Qh (Q0M TV1.out hb)
    have DV2:=Qh (DV1.out.below hb)
    have XV2:=Qh (XV1.out.below hb)
    have EV2:=Qh (Q0b EV1.out hb EV1.out.size)
    have GV2:=Qh (GV1.out.below hb)
    have g0:=GV2.out.cell (i:=0) rfl
    have g1:=GV2.out.cell (i:=1) rfl
    have g2:=GV2.out.cell (i:=2) rfl
    have g3:=GV2.out.cell (i:=3) rfl
    clear hb
    try dsimp only
    go_wp2_with fail
    rw [HT.out]
    have hbb:=DV2.out.lt
    refine (Q4z b tx _ _ DV2.out (by have:=HGL.out;have:=HLT.out;omega)).mono ?_
    rintro e V9 ⟨rfl,hd,hb⟩
    have BD9:=Qh (show Bld V9 b ((gs.take (k+1)).flatMap Q1R) by rw [HNX.out];exact hd)
    have BX9:=Qh (XV2.out.under hb (by omega))
    have B9:=Qh (EV2.out.trans (hb.mono (by omega)))
    clear hd hb
    try dsimp only
    go_wp2_with fail
    exact ⟨⟨k+1,by omega,by go_num,BD9.out,HLEN.out,BX9.out,B9.out⟩,by simp [intOf]<;>omega⟩
   ·subst hkd
    have hx:(0<=ga/\ga<k)/\(0<=gb/\gb<k):=by simp [Q0u,Q0H] at hright;all_goals omega
    obtain ⟨bv,hbv⟩: ∃bv,bv=bs (Q2k 5):=⟨_,rfl⟩
    have hbvs:bv.size<=5:=by rw [hbv,Q0q];exact Q3l _
    have CW:=Qh (show∀W,Calls Tryz.prog 156 #[.int .i64 5] W fun e w'=>e= .returned (.string bv)/\W=w' from fun W=>by rw [hbv];exact Q4v 5 W (by omega) (by omega))
    have HT0:(bv++(bs [32]++nb ga)++(bs [32]++nb gb))++bs [10]=bs (Q1R ⟨5,ga,gb,gn⟩):=by
     rw [hbv,HNB.out];dsimp only;simp only [Q0p];congr 1<;>simp [Q1R,Q4Y,HZ.out]
    have HT:=Qh (show (bv++(⟨#[32]⟩++nb ga)++(⟨#[32]⟩++nb gb))++⟨#[10]⟩=bs (Q1R ⟨5,ga,gb,gn⟩) from HT0)
    clear HT0
    clear hbv
    have TV0:=Qh TB2.out
    have DV0:=Qh (BD.out.below BA.out)
    have XV0:=Qh (BX.out.below BA.out)
    have EV0:=Qh (Q0b BEL.out BA.out hsz)
    have GV0:=Qh BG0.out
    go_wp2_with fail
    refine (CW.out _).mono ?_
    rintro e w' ⟨rfl,rfl⟩
    try dsimp only
    go_wp2_with fail
    refine (ITO.out ga _ (by omega) (by omega) TV0.out).mono ?_
    rintro e V1 ⟨rfl,hb⟩
    have TV1:=Qh (Q0M TV0.out hb)
    have DV1:=Qh (DV0.out.below hb)
    have XV1:=Qh (XV0.out.below hb)
    have EV1:=Qh (Q0b EV0.out hb EV0.out.size)
    have GV1:=Qh (GV0.out.below hb)
    have g0:=GV1.out.cell (i:=0) rfl
    have g1:=GV1.out.cell (i:=1) rfl
    have g2:=GV1.out.cell (i:=2) rfl
    have g3:=GV1.out.cell (i:=3) rfl
    clear hb
    try dsimp only
    go_wp2_with fail
    refine (ITO.out gb _ (by omega) (by omega) TV1.out).mono ?_
    rintro e V2 ⟨rfl,hb⟩
    have TV2:=Qh (Q0M TV1.out hb)
    have DV2:=Qh (DV1.out.below hb)
    have XV2:=Qh (XV1.out.below hb)
    have EV2:=Qh (Q0b EV1.out hb EV1.out.size)
    have GV2:=Qh (GV1.out.below hb)
    have g0:=GV2.out.cell (i:=0) rfl
    have g1:=GV2.out.cell (i:=1) rfl
    have g2:=GV2.out.cell (i:=2) rfl
    have g3:=GV2.out.cell (i:=3) rfl
    clear hb
    try dsimp only
    go_wp2_with fail
    rw [HT.out]
    have hbb:=DV2.out.lt
    refine (Q4z b tx _ _ DV2.out (by have:=HGL.out;have:=HLT.out;omega)).mono ?_
    rintro e V9 ⟨rfl,hd,hb⟩
    have BD9:=Qh (show Bld V9 b ((gs.take (k+1)).flatMap Q1R) by rw [HNX.out];exact hd)
    have BX9:=Qh (XV2.out.under hb (by omega))
    have B9:=Qh (EV2.out.trans (hb.mono (by omega)))
    clear hd hb
    try dsimp only
    go_wp2_with fail
    exact ⟨⟨k+1,by omega,by go_num,BD9.out,HLEN.out,BX9.out,B9.out⟩,by simp [intOf]<;>omega⟩
   ·subst hkd
    have hx:0<=ga/\ga<k:=by simp [Q0u,Q0H] at hright;all_goals omega
    obtain ⟨bv,hbv⟩: ∃bv,bv=bs (Q2k 6):=⟨_,rfl⟩
    have hbvs:bv.size<=5:=by rw [hbv,Q0q];exact Q3l _
    have CW:=Qh (show∀W,Calls Tryz.prog 156 #[.int .i64 6] W fun e w'=>e= .returned (.string bv)/\W=w' from fun W=>by rw [hbv];exact Q4v 6 W (by omega) (by omega))
    have HT0:(bv++(bs [32]++nb ga)++(bs [32]++nb z))++bs [10]=bs (Q1R ⟨6,ga,gb,gn⟩):=by
     rw [hbv,HNB.out];dsimp only;simp only [Q0p];congr 1<;>simp [Q1R,Q4Y,HZ.out]
    have HT:=Qh (show (bv++(⟨#[32]⟩++nb ga)++(⟨#[32]⟩++nb z))++⟨#[10]⟩=bs (Q1R ⟨6,ga,gb,gn⟩) from HT0)
    clear HT0
    clear hbv
    have TV0:=Qh TB2.out
    have DV0:=Qh (BD.out.below BA.out)
    have XV0:=Qh (BX.out.below BA.out)
    have EV0:=Qh (Q0b BEL.out BA.out hsz)
    have GV0:=Qh BG0.out
    go_wp2_with fail
    refine (CW.out _).mono ?_
    rintro e w' ⟨rfl,rfl⟩
    try dsimp only
    go_wp2_with fail
    refine (ITO.out ga _ (by omega) (by omega) TV0.out).mono ?_
    rintro e V1 ⟨rfl,hb⟩
    have TV1:=Qh (Q0M TV0.out hb)
    have DV1:=Qh (DV0.out.below hb)
    have XV1:=Qh (XV0.out.below hb)
    have EV1:=Qh (Q0b EV0.out hb EV0.out.size)
    have GV1:=Qh (GV0.out.below hb)
    have g0:=GV1.out.cell (i:=0) rfl
    have g1:=GV1.out.cell (i:=1) rfl
    have g2:=GV1.out.cell (i:=2) rfl
    have g3:=GV1.out.cell (i:=3) rfl
    clear hb
    try dsimp only
    go_wp2_with fail
    refine (CN.out _).mono ?_
    rintro e w' ⟨rfl,rfl⟩
    try dsimp only
    go_wp2_with fail
    refine (FMT.out _ TV1.out).mono ?_
    rintro e V2 ⟨rfl,hb⟩
    have TV2:=Qh (Q0M TV1.out hb)
    have DV2:=Qh (DV1.out.below hb)
    have XV2:=Qh (XV1.out.below hb)
    have EV2:=Qh (Q0b EV1.out hb EV1.out.size)
    have GV2:=Qh (GV1.out.below hb)
    have g0:=GV2.out.cell (i:=0) rfl
    have g1:=GV2.out.cell (i:=1) rfl
    have g2:=GV2.out.cell (i:=2) rfl
    have g3:=GV2.out.cell (i:=3) rfl
    clear hb
    try dsimp only
    go_wp2_with fail
    rw [HT.out]
    have hbb:=DV2.out.lt
    refine (Q4z b tx _ _ DV2.out (by have:=HGL.out;have:=HLT.out;omega)).mono ?_
    rintro e V9 ⟨rfl,hd,hb⟩
    have BD9:=Qh (show Bld V9 b ((gs.take (k+1)).flatMap Q1R) by rw [HNX.out];exact hd)
    have BX9:=Qh (XV2.out.under hb (by omega))
    have B9:=Qh (EV2.out.trans (hb.mono (by omega)))
    clear hd hb
    try dsimp only
    go_wp2_with fail
    exact ⟨⟨k+1,by omega,by go_num,BD9.out,HLEN.out,BX9.out,B9.out⟩,by simp [intOf]<;>omega⟩
  ·obtain rfl:k=gs.length:=by omega
   have HTK:=Qh (show gs.take gs.length=gs from List.take_length)
   rw [HTK.out] at BD hlen
   obtain ⟨tg,htg⟩: ∃tg,tg=gs.flatMap Q1R:=⟨_,rfl⟩
   have HTG:=Qh htg
   rw [<-htg] at BD hlen
   have HTGL:=Qh (show tg.length<=1800 by omega)
   have hc1':=BX.out.cell (i:=1) rfl
   clear htg hlen
   go_wp2_with fail
   clear hc1'
   obtain ⟨wo,hwo⟩: ∃wo,wo=wr:=⟨_,rfl⟩
   subst hwo
   go_loopw [64] (fun i wr=> ∃q:Nat,q<=os.length/\i= .int .i64 q/\Bld wr b (tg++(os.take q).flatMap outT)/\(tg++(os.take q).flatMap outT).length<=1800+30 * q/\Below w.heap.size w wr) (fun i _=>os.length - (intOf i).toNat)
   case atStart=>exact ⟨0,Nat.zero_le _,rfl,by simpa using BD.out,by simp;exact HTGL.out,BEL.out⟩
   case round=>
    obtain ⟨q,hq,rfl,hbd,hlq,hbel⟩:=hrel
    have BD1:=Qh hbd
    have BE1:=Qh hbel
    have hs2:=hbel.size
    clear hbd hbel
    by_cases hltq:q<os.length
    ·obtain ⟨A,c,hA,_,_,_,hu,hr⟩:=KO.out.below BE1.out
     injection hA with hA1 hA2 hA3
     subst hA1 hA3
     clear hA2
     obtain ⟨b2,o2,z,rfl,hb2,hgz,hat,hcz⟩:=ints_at hr hu hltq
     obtain ⟨hz0,hz1⟩:=OK.out.outs z (List.mem_of_getElem? hgz)
     obtain ⟨na,hna⟩: ∃na,na=bs (Q3y z):=⟨_,rfl⟩
     have hnl:=Q1c z (by omega)
     have hnas:na.size<=20:=by rw [hna,Q0q];exact hnl
     have hol:(outT z).length<=25:=by
      rw [outT,List.length_append,List.length_append]
      simp only [List.length_cons,List.length_nil]
      omega
     have HOL:=Qh hol
     have HLQ0:=Qh hlq
     have HNQ:=Qh (show tg++(os.take (q+1)).flatMap outT=(tg++(os.take q).flatMap outT)++outT z by rw [Q8P hgz,List.append_assoc])
     have HLQ:=Qh (show (tg++(os.take (q+1)).flatMap outT).length<=1800+30 * (q+1) by
      rw [HNQ.out,List.length_append];omega)
     have HT0:(bs [111,117,116,32]++na)++bs [10]=bs (outT z):=by rw [hna];simp only [Q0p];rfl
     have HT:=Qh (show (⟨#[111,117,116,32]⟩++na)++⟨#[10]⟩=bs (outT z) from HT0)
     clear HT0
     have CI:=Qh (Q3n z wr hz0 (by omega) (Q0M TB.out BE1.out))
     rw [<-hna] at CI
     clear hr hu hgz hb2 hna hlq hol hnl
     go_wp2_with fail
     refine CI.out.mono ?_
     rintro e w3 ⟨rfl,kk,os3,rfl⟩
     have BN:=below_grow wr kk os3
     have BD3:=Qh (BD1.out.below BN)
     have B3:=Qh (Q0b BE1.out BN BE1.out.size)
     clear BN hcz
     try dsimp only
     go_wp2_with fail
     rw [HT.out]
     have hbb:=BD3.out.lt
     refine (Q4z b _ _ _ BD3.out (by have:=HOL.out;have:=HLQ0.out;omega)).mono ?_
     rintro e V9 ⟨rfl,hd,hb⟩
     have BD9:=Qh (show Bld V9 b (tg++(os.take (q+1)).flatMap outT) by rw [HNQ.out];exact hd)
     have B9:=Qh (B3.out.trans (hb.mono (by omega)))
     clear hd hb
     try dsimp only
     go_wp2_with fail
     exact ⟨⟨q+1,by omega,by go_num,BD9.out,HLQ.out,B9.out⟩,by simp [intOf]<;>omega⟩
    ·obtain rfl:q=os.length:=by omega
     have HF:=Qh (show tg++(os.take os.length).flatMap outT=Q8O gs os by rw [List.take_length,HTG.out];rfl)
     rw [HF.out] at BD1
     have hbb:=BD1.out.lt
     go_wp2_with fail
     refine (Q6q b b (Q8O gs os) _ BD1.out (Nat.le_of_lt hbb)).mono ?_
     rintro e V9 ⟨rfl,hb⟩
     have B9:=Qh (BE1.out.trans (hb.mono (by omega)))
     clear hb
     try dsimp only
     go_wp2_with fail
     exact HP.out _ B9.out
end Go.Proofs.YtploomncapiloaaGreatDoor
