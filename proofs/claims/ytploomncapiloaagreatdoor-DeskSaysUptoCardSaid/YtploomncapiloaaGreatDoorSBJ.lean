/- Parts of the proof, put together by a program: RefV RefT. No condition. -/
import Derived.Test.YtploomncapiloaaGreatDoorSBA
set_option maxRecDepth 100000
set_option maxHeartbeats 8000000
namespace Go.Proofs.YtploomncapiloaaGreatDoor
open Go.RowKit Croft
def lvF (gs:List Gt) (I:List F) (j:Nat):F:=match gs[j]? with
 |some g=>if g.kind=1 then co I (cin gs j) else toF g.n
 |none=>0
def Y5k (gs:List Gt) (I:List F) (j:Nat):Prop:= ∃g,gs[j]? =some g/\(g.kind=1/\cin gs j<I.length∨g.kind=2)
theorem Z1l (v vi:Value) (gs:List Gt) (os ins:List Int) (j:Nat) (w:World) (h:Q1m w v gs os) (hi:Q0h w vi ins) (hl:Y5k gs (Q0f ins) j):
  Calls Tryz.prog 131 #[v,vi,.int .i64 j] w fun e w'=>e= .returned (.int .u64 (ofF (lvF gs (Q0f ins) j)))/\Below w.heap.size w w':=by
 obtain ⟨g,hgj,hk⟩:=hl
 have hjl:=(List.getElem?_eq_some_iff.1 hgj).1
 have HLV:=Qh (show lvF gs (Q0f ins) j=if g.kind=1 then co (Q0f ins) (cin gs j) else toF g.n by unfold lvF;rw [hgj])
 have KI:=Qh hi
 obtain ⟨vg,vo,rfl,hg,ho⟩:=h
 have KG:=Qh hg
 obtain ⟨A1,c1,rfl,hc1,hm1,hl1,hu1,hr1⟩:=hg
 obtain ⟨A2,c2,rfl,hc2,hm2,hl2,hu2,hr2⟩:=ho
 obtain ⟨A3,c3,rfl,hc3,hm3,hl3,hu3,hr3⟩:=hi
 have hb0:Below w.heap.size w (w.alloc (.cells #[.slice A1 gs.length c1,.slice A2 os.length c2] 85)):=(Below.refl w.heap.size w).alloc (Nat.le_refl _) _
 have BX:=Qh (Box.new w 85 [.slice A1 gs.length c1,.slice A2 os.length c2])
 obtain ⟨A,c,hA,_,_,_,hu,hr⟩:=KG.out.below hb0
 injection hA with hA1 hA2 hA3
 subst hA1 hA3
 clear hA2
 obtain ⟨b1',o1,g',rfl,hb1,hgk,hgo,ha1,ha2,ha3,ha4⟩:=Q2V hr hu hjl
 rw [hgj] at hgk
 obtain rfl:=Option.some.inj hgk
 have hb2:Below w.heap.size w ((w.alloc (.cells #[.slice (some ⟨b1',o1,none⟩) gs.length c1,.slice A2 os.length c2] 85)).alloc (.cells #[.int .i64 g.kind,.int .i64 g.a,.int .i64 g.b,.int .u64 g.n] 133)):=hb0.alloc hb0.size _
 have B2:=Qh hb2
 have hgn:=hgo.2.2.2
 have HGN:=Qh hgn
 clear hu1 hr1 hm1 hu2 hr2 hm2 hu3 hr3 hm3 hu hr hgk hb0 hb2 hgo
 suffices hgoal: ∀Post:Ending->World->Prop,(∀w',Below w.heap.size w w'->Post (.returned (.int .u64 (ofF (lvF gs (Q0f ins) j)))) w')->Calls Tryz.prog 131 #[.agg #[.slice (some ⟨b1',o1,none⟩) gs.length c1,.slice A2 os.length c2],.slice A3 ins.length c3,.int .i64 j] w Post from hgoal _ fun w' h=>⟨rfl,h⟩
 intro Post hpo
 have HP:=Qh hpo
 clear hpo
 rcases hk with ⟨hk,hcin⟩|hk
 ·rw [Q0l] at hcin
  have HCI:=Qh hcin
  have HR:=Qh (show lvF gs (Q0f ins) j=co (Q0f ins) (cin gs j) by rw [HLV.out,if_pos hk])
  rw [hk] at ha1 B2
  clear hcin hk HLV hgj
  go_enter Tryz.func131,Tryz.ntmps131
  go_wp2_with fail
  obtain ⟨w2,hw2⟩: ∃w2,w2=(w.alloc (.cells #[.slice (some ⟨b1',o1,none⟩) gs.length c1,.slice A2 os.length c2] 85)).alloc (.cells #[.int .i64 1,.int .i64 g.a,.int .i64 g.b,.int .u64 g.n] 133):=⟨_,rfl⟩
  have BX2:=Qh (show Box w2 w.heap.size 85 [.slice (some ⟨b1',o1,none⟩) gs.length c1,.slice A2 os.length c2] by rw [hw2];exact BX.out.alloc _)
  rw [<-hw2] at B2⊢
  clear ha1 ha2 ha3 ha4 hw2
  go_loopw [8,9] (fun x i wr=> ∃k:Nat,k<=j/\i= .int .i64 k/\x= .int .i64 (cin gs k)/\wr=w2) (fun _ i _=>j - (intOf i).toNat)
  case atStart=>exact ⟨0,Nat.zero_le _,rfl,rfl,rfl⟩
  case round=>
   obtain ⟨k,hk,rfl,rfl,rfl⟩:=hrel
   have hc0:=BX2.out.cell (i:=0) rfl
   obtain ⟨A,c,hA,_,_,_,hu,hr⟩:=KG.out.below B2.out
   injection hA with hA1 hA2 hA3
   subst hA1 hA3
   clear hA2
   by_cases hlt:k<j
   ·obtain ⟨b2,o2,g',he2,hb2,hgk,hgo,hd1,hd2,hd3,hd4⟩:=Q2V hr hu (Nat.lt_trans hlt hjl)
    injection he2 with he2
    injection he2 with he3 he4
    subst he3 he4
    have HS:=Qh (Q6O hgk)
    have hck:=Y3U (gs:=gs) (Nat.le_of_lt hlt)
    have hckl:cin gs k<=k:=by
     unfold cin
     exact Nat.le_trans (Z0G _) (by rw [List.length_take];omega)
    clear hr hu hgk hgo hb2 hd2 hd3 hd4
    by_cases hk1:g'.kind=1
    ·have HK:=Qh hk1
     rw [hk1] at hd1
     clear hk1 hck
     go_wp2_with fail
     exact ⟨⟨k+1,by omega,by go_num,by rw [HS.out,if_pos HK.out];rfl,by first|rfl|trivial⟩,by simp [intOf]<;>omega⟩
    ·have hkb:(g'.kind==1)=false:=by rw [beq_eq_false_iff_ne];exact hk1
     have HK:=Qh hk1
     clear hk1 hck
     go_wp2_with fail
     exact ⟨⟨k+1,by omega,by go_num,by rw [HS.out,if_neg HK.out],by first|rfl|trivial⟩,by simp [intOf]<;>omega⟩
   ·obtain rfl:k=j:=by omega
    obtain ⟨A,c,hA,_,_,_,hu',hr'⟩:=KI.out.below B2.out
    injection hA with hA1 hA2 hA3
    subst hA1 hA3
    clear hA2
    obtain ⟨b2,o2,z,rfl,hb2,hgz,hz64,hcz⟩:=Q0O hr' hu' (k:=cin gs k) HCI.out
    have HZ:=Qh (Q1n hgz)
    have hcl:=HCI.out
    have HU:=Qh hz64
    clear hr hu hr' hu' hb2 hgz hz64
    go_wp2_with fail
    refine (Q1i _ _ HU.out).mono ?_
    rintro e w' ⟨rfl,rfl⟩
    try dsimp only
    go_wp2_with fail
    have hp:=HP.out
    rw [HR.out,HZ.out] at hp
    exact hp _ B2.out
 ·have HR:=Qh (show lvF gs (Q0f ins) j=toF g.n by rw [HLV.out,if_neg (by omega)])
  rw [hk] at ha1 B2
  clear hk HLV hgj
  go_enter Tryz.func131,Tryz.ntmps131
  go_wp2_with fail
  refine (Q1i _ _ HGN.out).mono ?_
  rintro e w' ⟨rfl,rfl⟩
  try dsimp only
  go_wp2_with fail
  have hp:=HP.out
  rw [HR.out] at hp
  exact hp _ B2.out
theorem Y5l (v vi:Value) (gs:List Gt) (os ins:List Int) (j:Nat) (g:Gt) (W:List F) (w:World) (h:Q1m w v gs os) (hi:Q0h w vi ins) (hgj:gs[j]? =some g) (hr:Q0u g j=true) (hl: ∀i,i<j->Y5k gs (Q0f ins) i/\lvF gs (Q0f ins) i=co W i) (hcin:g.kind=1->cin gs j<ins.length):
  Calls Tryz.prog 131 #[v,vi,.int .i64 j] w fun e w'=>e= .returned (.int .u64 (ofF (Z2C W (co (Q0f ins) (cin gs j)) g)))/\Below w.heap.size w w':=by
 by_cases h1:g.kind=1
 ·refine (Z1l v vi gs os ins j w h hi ⟨g,hgj,.inl ⟨h1,by rw [Q0l];exact hcin h1⟩⟩).mono fun e w' hh=> ?_
  have e1:lvF gs (Q0f ins) j=Z2C W (co (Q0f ins) (cin gs j)) g:=by
   unfold lvF Z2C
   rw [hgj,if_pos h1]
   exact if_pos h1
  rw [<-e1]
  exact hh
 by_cases h2:g.kind=2
 ·refine (Z1l v vi gs os ins j w h hi ⟨g,hgj,.inr h2⟩).mono fun e w' hh=> ?_
  have e1:lvF gs (Q0f ins) j=Z2C W (co (Q0f ins) (cin gs j)) g:=by
   unfold lvF Z2C
   rw [hgj,if_neg h1,if_pos h2]
   exact if_neg h1
  rw [<-e1]
  exact hh
 have hjl:=(List.getElem?_eq_some_iff.1 hgj).1
 have LEAF:=Qh (show∀(x:Nat) (W1:World),x<j->Q1m W1 v gs os->Q0h W1 vi ins->Calls Tryz.prog 131 #[v,vi,.int .i64 x] W1 fun e w'=>e= .returned (.int .u64 (ofF (co W x)))/\Below W1.heap.size W1 w' from fun x W1 hx q1 q2=>by
  obtain ⟨e1,e2⟩:=hl x hx
  rw [<-e2]
  exact Z1l v vi gs os ins x W1 q1 q2 e1)
 have KC:=Qh h
 have KI:=Qh hi
 obtain ⟨vg,vo,rfl,hg,ho⟩:=h
 have KG:=Qh hg
 obtain ⟨A1,c1,rfl,hc1,hm1,hl1,hu1,hr1⟩:=hg
 obtain ⟨A2,c2,rfl,hc2,hm2,hl2,hu2,hr2⟩:=ho
 obtain ⟨A3,c3,rfl,hc3,hm3,hl3,hu3,hr3⟩:=hi
 have hb0:Below w.heap.size w (w.alloc (.cells #[.slice A1 gs.length c1,.slice A2 os.length c2] 85)):=(Below.refl w.heap.size w).alloc (Nat.le_refl _) _
 obtain ⟨A,c,hA,_,_,_,hu,hr'⟩:=KG.out.below hb0
 injection hA with hA1 hA2 hA3
 subst hA1 hA3
 clear hA2
 obtain ⟨b1',o1,⟨kd,ga,gb,gn⟩,rfl,hb1,hgk,hgo,ha1,ha2,ha3,ha4⟩:=Q2V hr' hu hjl
 rw [hgj] at hgk
 obtain rfl:=Option.some.inj hgk
 have hgn:=hgo.2.2.2
 dsimp only at ha1 ha2 ha3 ha4 hgn h1 h2
 have HGN:=Qh hgn
 have hBX:=(Box.new w 85 [.slice (some ⟨b1',o1,none⟩) gs.length c1,.slice A2 os.length c2])
 suffices hgoal: ∀Post:Ending->World->Prop,(∀w',Below w.heap.size w w'->Post (.returned (.int .u64 (ofF (Z2C W (co (Q0f ins) (cin gs j)) ⟨kd,ga,gb,gn⟩)))) w')->Calls Tryz.prog 131 #[.agg #[.slice (some ⟨b1',o1,none⟩) gs.length c1,.slice A2 os.length c2],.slice A3 ins.length c3,.int .i64 j] w Post from hgoal _ fun w' h=>⟨rfl,h⟩
 intro Post hpo
 have HP:=Qh hpo
 obtain ⟨w2,hw2⟩: ∃w2,w2=(w.alloc (.cells #[.slice (some ⟨b1',o1,none⟩) gs.length c1,.slice A2 os.length c2] 85)).alloc (.cells #[.int .i64 kd,.int .i64 ga,.int .i64 gb,.int .u64 gn] 133):=⟨_,rfl⟩
 have HW2:=Qh hw2
 have hb2:Below w.heap.size w w2:=by rw [hw2];exact hb0.alloc hb0.size _
 have BXC:=Qh (show Box w2 w.heap.size 85 [.slice (some ⟨b1',o1,none⟩) gs.length c1,.slice A2 os.length c2] by rw [hw2];exact hBX.alloc _)
 have BXG:=Qh (show Box w2 (w.heap.size+1) 133 [.int .i64 kd,.int .i64 ga,.int .i64 gb,.int .u64 gn] by
  have h:=Box.new (w.alloc (.cells #[.slice (some ⟨b1',o1,none⟩) gs.length c1,.slice A2 os.length c2] 85)) 133 [.int .i64 kd,.int .i64 ga,.int .i64 gb,.int .u64 gn]
  rw [size_alloc] at h
  rw [hw2];exact h)
 have B2:=Qh hb2
 have KC2:=Qh (KC.out.below hb2)
 have KI2:=Qh (KI.out.below hb2)
 have BQ:=Qh (below_drewN hb2 1)
 have BXCQ:=Qh (BXC.out.drewN 1)
 have BXGQ:=Qh (BXG.out.drewN 1)
 have KCQ:=Qh (KC.out.below BQ.out)
 have KIQ:=Qh (KI.out.below BQ.out)
 clear hu1 hr1 hm1 hu2 hr2 hm2 hu3 hr3 hm3 hu hr' hgk hb0 hb2 hgo hw2 hBX hpo hl hcin
 by_cases h6:kd=6
 ·subst h6
  obtain ⟨a,ha,haj⟩: ∃a:Nat,ga=(a:Int)/\a<j:=by
   simp [Q0u,Q0H] at hr
   exact ⟨ga.toNat,by omega,by omega⟩
  subst ha
  have HR:=Qh (show Z2C W (co (Q0f ins) (cin gs j)) ⟨6,a,gb,gn⟩=co W a * toF gn from rfl)
  rw [HR.out] at HP
  clear hr h1 h2 hgj
  go_enter Tryz.func131,Tryz.ntmps131
  go_upto_region 14 with fail
  rw [<-HW2.out]
  have g0:=BXC.out.cell (i:=0) rfl
  have g1:=BXC.out.cell (i:=1) rfl
  have g2:=BXG.out.cell (i:=1) rfl
  have g3:=BXG.out.cell (i:=3) rfl
  clear ha1 ha2 ha3 ha4
  go_wp2_with fail
  go_region_held3 (fun w'=>w'.cell? ⟨w.heap.size,0,none⟩=some (.slice (some ⟨b1',o1,none⟩) gs.length c1)/\w'.cell? ⟨w.heap.size,1,none⟩=some (.slice A2 os.length c2)/\w'.cell? ⟨w.heap.size+1,1,none⟩=some (.int .i64 (a:Int))/\w'.cell? ⟨w.heap.size+1,3,none⟩=some (.int .u64 gn)) (go_keep) (first|(go_at_call 131;refine (LEAF.out _ _ haj KCQ.out KIQ.out).mono ?_;rintro e w3 ⟨rfl,hb3⟩;have B3:=Qh (Q0b BQ.out hb3 BQ.out.size);have q0:=(BXCQ.out.below hb3).cell (i:=0) rfl;have q1:=(BXCQ.out.below hb3).cell (i:=1) rfl;have q2:=(BXGQ.out.below hb3).cell (i:=1) rfl;have q3:=(BXGQ.out.below hb3).cell (i:=3) rfl;clear hb3)|(go_at_call 168;refine (Q3k _ _ _ (U64.of_ofF _) HGN.out).mono ?_;rintro e w' ⟨rfl,rfl⟩))
  rw [Q0m]
  clear g0 g1 g2 g3 q0 q1 q2 q3
  go_wp2_with fail
  exact HP.out _ B3.out
 ·have h345:kd=3∨kd=4∨kd=5:=by
   by_cases q:kd=3∨kd=4∨kd=5
   ·exact q
   ·simp [Q0u,h1,h2,h6,q] at hr
  obtain ⟨a,b,ha,hb,haj,hbj⟩: ∃a b:Nat,ga=(a:Int)/\gb=(b:Int)/\a<j/\b<j:=by
   have hq:Q0H ga j=true/\Q0H gb j=true:=by
    rcases h345 with rfl|rfl|rfl<;>(simp [Q0u] at hr;exact ⟨hr.1.1,hr.1.2⟩)
   simp [Q0H] at hq
   exact ⟨ga.toNat,gb.toNat,by omega,by omega,by omega,by omega⟩
  subst ha hb
  clear hr
  have HAB:=Qh (And.intro haj hbj)
  rcases h345 with rfl|rfl|rfl
  ·rw [show Z2C W (co (Q0f ins) (cin gs j)) ⟨3,a,b,gn⟩=co W a+co W b from rfl] at HP
   clear h1 h2 h6 hgj
   go_enter Tryz.func131,Tryz.ntmps131
   go_upto_region 15 with fail
   rw [<-HW2.out]
   have g0:=BXC.out.cell (i:=0) rfl
   have g1:=BXC.out.cell (i:=1) rfl
   have g2:=BXG.out.cell (i:=1) rfl
   have g3:=BXG.out.cell (i:=2) rfl
   clear ha1 ha2 ha3 ha4
   go_wp2_with fail
   go_region_held3 (fun w'=>w'.cell? ⟨w.heap.size,0,none⟩=some (.slice (some ⟨b1',o1,none⟩) gs.length c1)/\w'.cell? ⟨w.heap.size,1,none⟩=some (.slice A2 os.length c2)/\w'.cell? ⟨w.heap.size+1,1,none⟩=some (.int .i64 (a:Int))/\w'.cell? ⟨w.heap.size+1,2,none⟩=some (.int .i64 (b:Int))) (go_keep) (first|(go_at_call 131;refine (LEAF.out _ _ (by first|exact HAB.out.1|exact HAB.out.2) KC3.out KI3.out).mono ?_;rintro e w4 ⟨rfl,hb4⟩;have B4:=Qh (Q0b B3.out hb4 B3.out.size);have BXG4:=Qh (BXG3.out.below hb4);have q4:=(BXC3.out.below hb4).cell (i:=0) rfl;have q5:=(BXC3.out.below hb4).cell (i:=1) rfl;have q6:=BXG4.out.cell (i:=1) rfl;have q7:=BXG4.out.cell (i:=2) rfl;clear hb4)|(go_at_call 131;refine (LEAF.out _ _ (by first|exact HAB.out.1|exact HAB.out.2) KCQ.out KIQ.out).mono ?_;rintro e w3 ⟨rfl,hb3⟩;have B3:=Qh (Q0b BQ.out hb3 BQ.out.size);have BXC3:=Qh (BXCQ.out.below hb3);have BXG3:=Qh (BXGQ.out.below hb3);have KC3:=Qh (KC.out.below B3.out);have KI3:=Qh (KI.out.below B3.out);have q0:=BXC3.out.cell (i:=0) rfl;have q1:=BXC3.out.cell (i:=1) rfl;have q2:=BXG3.out.cell (i:=1) rfl;have q3:=BXG3.out.cell (i:=2) rfl;clear hb3))
   all_goals
    clear g0 g1 g2 g3 q0 q1 q2 q3 q4 q5 q6 q7
    have gk:=BXG4.out.cell (i:=0) rfl
    go_wp2_with fail
    refine (Q2C _ _ _ (U64.of_ofF _) (U64.of_ofF _)).mono ?_
    rintro e w' ⟨rfl,rfl⟩
    rw [Q0m,Q0m]
    try dsimp only
    go_wp2_with fail
    exact HP.out _ B4.out
  ·rw [show Z2C W (co (Q0f ins) (cin gs j)) ⟨4,a,b,gn⟩=co W a - co W b from rfl] at HP
   clear h1 h2 h6 hgj
   go_enter Tryz.func131,Tryz.ntmps131
   go_upto_region 15 with fail
   rw [<-HW2.out]
   have g0:=BXC.out.cell (i:=0) rfl
   have g1:=BXC.out.cell (i:=1) rfl
   have g2:=BXG.out.cell (i:=1) rfl
   have g3:=BXG.out.cell (i:=2) rfl
   clear ha1 ha2 ha3 ha4
   go_wp2_with fail
   go_region_held3 (fun w'=>w'.cell? ⟨w.heap.size,0,none⟩=some (.slice (some ⟨b1',o1,none⟩) gs.length c1)/\w'.cell? ⟨w.heap.size,1,none⟩=some (.slice A2 os.length c2)/\w'.cell? ⟨w.heap.size+1,1,none⟩=some (.int .i64 (a:Int))/\w'.cell? ⟨w.heap.size+1,2,none⟩=some (.int .i64 (b:Int))) (go_keep) (first|(go_at_call 131;refine (LEAF.out _ _ (by first|exact HAB.out.1|exact HAB.out.2) KC3.out KI3.out).mono ?_;rintro e w4 ⟨rfl,hb4⟩;have B4:=Qh (Q0b B3.out hb4 B3.out.size);have BXG4:=Qh (BXG3.out.below hb4);have q4:=(BXC3.out.below hb4).cell (i:=0) rfl;have q5:=(BXC3.out.below hb4).cell (i:=1) rfl;have q6:=BXG4.out.cell (i:=1) rfl;have q7:=BXG4.out.cell (i:=2) rfl;clear hb4)|(go_at_call 131;refine (LEAF.out _ _ (by first|exact HAB.out.1|exact HAB.out.2) KCQ.out KIQ.out).mono ?_;rintro e w3 ⟨rfl,hb3⟩;have B3:=Qh (Q0b BQ.out hb3 BQ.out.size);have BXC3:=Qh (BXCQ.out.below hb3);have BXG3:=Qh (BXGQ.out.below hb3);have KC3:=Qh (KC.out.below B3.out);have KI3:=Qh (KI.out.below B3.out);have q0:=BXC3.out.cell (i:=0) rfl;have q1:=BXC3.out.cell (i:=1) rfl;have q2:=BXG3.out.cell (i:=1) rfl;have q3:=BXG3.out.cell (i:=2) rfl;clear hb3))
   all_goals
    clear g0 g1 g2 g3 q0 q1 q2 q3 q4 q5 q6 q7
    have gk:=BXG4.out.cell (i:=0) rfl
    go_wp2_with fail
    refine (Q9N _ _ (U64.of_ofF _)).mono ?_
    rintro e w' ⟨rfl,rfl⟩
    rw [Q0m]
    try dsimp only
    go_wp2_with fail
    refine (Q2C _ _ _ (U64.of_ofF _) (U64.of_ofF _)).mono ?_
    rintro e w' ⟨rfl,rfl⟩
    rw [Q0m,Q0m,show co W a+ -co W b=co W a - co W b by grind]
    try dsimp only
    go_wp2_with fail
    exact HP.out _ B4.out
  ·rw [show Z2C W (co (Q0f ins) (cin gs j)) ⟨5,a,b,gn⟩=co W a * co W b from rfl] at HP
   clear h1 h2 h6 hgj
   go_enter Tryz.func131,Tryz.ntmps131
   go_upto_region 15 with fail
   rw [<-HW2.out]
   have g0:=BXC.out.cell (i:=0) rfl
   have g1:=BXC.out.cell (i:=1) rfl
   have g2:=BXG.out.cell (i:=1) rfl
   have g3:=BXG.out.cell (i:=2) rfl
   clear ha1 ha2 ha3 ha4
   go_wp2_with fail
   go_region_held3 (fun w'=>w'.cell? ⟨w.heap.size,0,none⟩=some (.slice (some ⟨b1',o1,none⟩) gs.length c1)/\w'.cell? ⟨w.heap.size,1,none⟩=some (.slice A2 os.length c2)/\w'.cell? ⟨w.heap.size+1,1,none⟩=some (.int .i64 (a:Int))/\w'.cell? ⟨w.heap.size+1,2,none⟩=some (.int .i64 (b:Int))) (go_keep) (first|(go_at_call 131;refine (LEAF.out _ _ (by first|exact HAB.out.1|exact HAB.out.2) KC3.out KI3.out).mono ?_;rintro e w4 ⟨rfl,hb4⟩;have B4:=Qh (Q0b B3.out hb4 B3.out.size);have BXG4:=Qh (BXG3.out.below hb4);have q4:=(BXC3.out.below hb4).cell (i:=0) rfl;have q5:=(BXC3.out.below hb4).cell (i:=1) rfl;have q6:=BXG4.out.cell (i:=1) rfl;have q7:=BXG4.out.cell (i:=2) rfl;clear hb4)|(go_at_call 131;refine (LEAF.out _ _ (by first|exact HAB.out.1|exact HAB.out.2) KCQ.out KIQ.out).mono ?_;rintro e w3 ⟨rfl,hb3⟩;have B3:=Qh (Q0b BQ.out hb3 BQ.out.size);have BXC3:=Qh (BXCQ.out.below hb3);have BXG3:=Qh (BXGQ.out.below hb3);have KC3:=Qh (KC.out.below B3.out);have KI3:=Qh (KI.out.below B3.out);have q0:=BXC3.out.cell (i:=0) rfl;have q1:=BXC3.out.cell (i:=1) rfl;have q2:=BXG3.out.cell (i:=1) rfl;have q3:=BXG3.out.cell (i:=2) rfl;clear hb3))
   all_goals
    clear g0 g1 g2 g3 q0 q1 q2 q3 q4 q5 q6 q7
    have gk:=BXG4.out.cell (i:=0) rfl
    go_wp2_with fail
    refine (Q3k _ _ _ (U64.of_ofF _) (U64.of_ofF _)).mono ?_
    rintro e w' ⟨rfl,rfl⟩
    rw [Q0m,Q0m]
    try dsimp only
    go_wp2_with fail
    exact HP.out _ B4.out
end Go.Proofs.YtploomncapiloaaGreatDoor
namespace Croft
def Q5v (gs:List Gt) (W:List F) (j q:Nat):Gt:=match gs[q]? with
 |some g=>if q<j/\g.kind≠1 then ⟨2,0,0,ofF (co W q)⟩ else g
 |none=>⟨0,0,0,0⟩
def Q6H (gs:List Gt) (W:List F) (i j:Nat):List Gt:=(List.range (i+1)).map (Q5v gs W j)
theorem Q2e (gs:List Gt) (W:List F) (i j:Nat):(Q6H gs W i j).length=i+1:=by simp [Q6H]
theorem Q3U (gs:List Gt) (W:List F) (i j q:Nat) (h:q<i+1):(Q6H gs W i j)[q]? =some (Q5v gs W j q):=by simp [Q6H,h]
theorem Q7U {gs:List Gt} {W:List F} {j q:Nat} {g:Gt} (h:gs[q]? =some g) (hq:j<=q):Q5v gs W j q=g:=by
 unfold Q5v
 rw [h]
 exact if_neg (by omega)
theorem Z5Z {gs:List Gt} (W:List F) {i:Nat} (h:i<gs.length):Q6H gs W i 0=gs.take (i+1):=by
 apply List.ext_getElem?
 intro q
 by_cases hq:q<i+1
 ·rw [Q3U _ _ _ _ _ hq,List.getElem?_take,if_pos hq,List.getElem?_eq_getElem (show q<gs.length by omega)]
  rw [Q7U (List.getElem?_eq_getElem (show q<gs.length by omega)) (Nat.zero_le _)]
 ·rw [List.getElem?_eq_none (by rw [Q2e];omega),List.getElem?_take,if_neg hq]
theorem Z8k {gs:List Gt} (W:List F) {i j:Nat} {g:Gt} (h:gs[j]? =some g) (hj:j<i) (hi:i<gs.length):Q6H gs W i (j+1)=if g.kind=1 then Q6H gs W i j else (Q6H gs W i j).set j ⟨2,0,0,ofF (co W j)⟩:=by
 apply List.ext_getElem?
 intro q
 by_cases hq:q<i+1
 ·have hg:gs[q]? =some gs[q]:=List.getElem?_eq_getElem (by omega)
  rw [Q3U _ _ _ _ _ hq]
  by_cases hk:g.kind=1
  ·rw [if_pos hk,Q3U _ _ _ _ _ hq]
   unfold Q5v
   rw [hg]
   by_cases e:q=j
   ·subst e
    rw [h] at hg
    obtain rfl:=Option.some.inj hg
    simp [hk]
   ·have:(q<j+1↔q<j):=by omega
    simp only [this]
  ·rw [if_neg hk]
   by_cases e:q=j
   ·subst e
    rw [List.getElem?_set_self (by rw [Q2e];omega)]
    unfold Q5v
    rw [h]
    simp [hk]
   ·rw [List.getElem?_set_ne (Ne.symm e),Q3U _ _ _ _ _ hq]
    unfold Q5v
    rw [hg]
    have:(q<j+1↔q<j):=by omega
    simp only [this]
 ·rw [List.getElem?_eq_none (by rw [Q2e];omega)]
  split
  ·rw [List.getElem?_eq_none (by rw [Q2e];omega)]
  ·rw [List.getElem?_eq_none (by rw [List.length_set,Q2e];omega)]
theorem Y0U {gs:List Gt} (W:List F) {i:Nat} (hi:i<gs.length): ∀q,q<=i->cin (Q6H gs W i i) q=cin gs q:=by
 intro q
 induction q with
 |zero=>intro _;rfl
 |succ q ih=>
  intro hq
  have hg:gs[q]? =some gs[q]:=List.getElem?_eq_getElem (by omega)
  rw [Q6O hg,Q6O (Q3U gs W i i q (by omega)),ih (by omega)]
  have e:((Q5v gs W i q).kind=1)↔(gs[q].kind=1):=by
   unfold Q5v
   rw [hg]
   dsimp only
   split
   ·next h=>exact ⟨fun h2=>by simp at h2,fun h2=>absurd h2 h.2⟩
   ·exact Iff.rfl
  by_cases hk:gs[q].kind=1
  ·rw [if_pos hk,if_pos (e.2 hk)]
  ·rw [if_neg hk,if_neg (fun h=>hk (e.1 h))]
end Croft
namespace Go.Proofs.YtploomncapiloaaGreatDoor
open Go.RowKit Go.Maps Croft
theorem Y3G {gs:List Gt} {I:List F} {i:Nat} (hi:i<gs.length) (hI:I.length=(Q0E gs).length): ∀q,q<i->Y5k (Q6H gs (cw gs I i) i i) I q/\lvF (Q6H gs (cw gs I i) i i) I q=co (cw gs I i) q:=by
 intro q hq
 have hg:gs[q]? =some gs[q]:=List.getElem?_eq_getElem (by omega)
 have hs:=Q3U gs (cw gs I i) i i q (by omega)
 have hc:=Y0U (cw gs I i) hi q (by omega)
 by_cases hk:gs[q].kind=1
 ·have e:Q5v gs (cw gs I i) i q=gs[q]:=by unfold Q5v;rw [hg];exact if_neg (fun h=>h.2 hk)
  rw [e] at hs
  refine ⟨⟨_,hs,.inl ⟨hk,by rw [hc,hI];exact Z6m hg hk⟩⟩, ?_⟩
  unfold lvF
  rw [hs]
  dsimp only
  rw [if_pos hk,hc,Y6f (show q<q+1 by omega) (show q+1<=i by omega),Z2D hg,Q4Q (by rw [Q2j])]
  unfold Z2C
  rw [if_pos hk]
 ·have e:Q5v gs (cw gs I i) i q=⟨2,0,0,ofF (co (cw gs I i) q)⟩:=by unfold Q5v;rw [hg];exact if_pos ⟨hq,hk⟩
  rw [e] at hs
  refine ⟨⟨_,hs,.inr rfl⟩, ?_⟩
  unfold lvF
  rw [hs]
  dsimp only
  rw [if_neg (by decide),Q0m]
theorem vlaw :Keyed Tryz.prog 3:=int_keyed Tryz.underlying3
theorem Y6k (w:World):(zeroValue 67).run Tryz.prog w= .ok (.int .u64 0) w:=by kernel_rfl
theorem vkey {z:Int} (hz:I64 z):keyOf Tryz.prog 3 (.int .i64 z)=some (.int .i64 z):=keyOf_int_mk Tryz.underlying3 (WalkArith.wf_i64 (by unfold I64 at hz;omega))
theorem vwf (x:F):(Lit.int .u64 (ofF x)).wf=true:=by
 have h0:=Q0i x
 have h1:=Q2M x
 have h2:IntKind.u64.min=0:=rfl
 have h3:IntKind.u64.max=18446744073709551615:=rfl
 simp only [Lit.wf,Bool.and_eq_true,decide_eq_true_eq]
 omega
def Y5P (w:World) (b:Nat) (W:List F) (D:DataW Unit):Prop:=w.ownsMap Tryz.prog 3 (plainElem Tryz.prog 67) b W.length D/\ ∀(j:Nat) (d:DataW Unit),j<W.length->D.atKey (.int .i64 j) d= .lit (.int .u64 (ofF (co W j)))
def Q3f (w:World) (b:Nat) (W:List F):Prop:= ∃D,Y5P w b W D
theorem Q3f.made (w:World):Q3f (w.alloc (.map #[] 0)) w.heap.size []:=⟨_,World.ownsMap_made w _ _ _,fun j d h=>by simp at h⟩
theorem Q3f.lt {w:World} {b:Nat} {W:List F} (h:Q3f w b W):b<w.heap.size:=by
 obtain ⟨D,h1,_⟩:=h
 exact h1.lt
theorem Q3f.grown {w w':World} {b:Nat} {W:List F} {row:Option Nat} (h:Q3f w b W) (hg:w.grownBy w' row) (hne:row≠some b):Q3f w' b W:=by
 obtain ⟨D,⟨es,clock,hb,F⟩,h3⟩:=h
 have hlt:b<w.heap.size:=(Array.getElem?_eq_some_iff.1 hb).1
 exact ⟨D,⟨es,clock,(hg.block b hlt (fun e=>hne e.symm)).trans hb,F⟩,h3⟩
theorem Q3f.below {w w':World} {b:Nat} {W:List F} (h:Q3f w b W) (hb:Below w.heap.size w w'):Q3f w' b W:=
 h.grown (row:=none) ⟨hb.os,hb.tape,hb.output,hb.size,fun k hk _=>hb.block k hk⟩ (by simp)
theorem Q3f.look {w:World} {b:Nat} {W:List F} (h:Q3f w b W) {j:Nat} (hj:j<W.length) (h1:j<=1000):
  (Instr.lookup 156 (.map (some b)) (.int .i64 j) false).run Tryz.prog w= .ok (.int .u64 (ofF (co W j))) w:=by
 obtain ⟨D,h1',h4⟩:=h
 obtain ⟨c,hrun,hat,_⟩:=h1'.lookup_int vlaw Tryz.underlying156 Tryz.underlying67 (Y6k w) (vkey (z:=(j:Int)) (by unfold I64;omega))
 have h9:=(h4 j (.lit (.int .u64 0)) hj).symm.trans hat
 simp only [DataW.lit.injEq,Lit.int.injEq,true_and] at h9
 rw [hrun,h9]
theorem Q3f.put {w w':World} {b:Nat} {W:List F} {D:DataW Unit} (hd:Y5P w b W D) {x:F}
  (h':w'.ownsMap Tryz.prog 3 (plainElem Tryz.prog 67) b (W.length+1) (D.put (.int .i64 (W.length:Int)) (.lit (.int .u64 (ofF x))))):Q3f w' b (W++ [x]):=by
 obtain ⟨h1,h4⟩:=hd
 have hm:IsMap D:=h1.isMap
 refine ⟨_,by rw [List.length_append];exact h',fun j d hj=> ?_⟩
 rw [List.length_append,List.length_singleton] at hj
 by_cases he:j=W.length
 ·subst he
  rw [atKey_put_same hm (show WideAt.IsKeyLit (.int .i64 (W.length:Int)) from trivial),Q4Q rfl]
 ·rw [atKey_put_other (by intro e;injection e with _ e;exact he (by omega)),h4 j d (by omega),Q3O (by omega)]
def Q1S (w:World) (base:Nat) (v:Value) (gs:List Gt):Prop:=w.ownsRow base 133 4 v gs.length (gcs gs)/\gs.length<=1000/\ ∀g∈gs,Q5Y g
theorem Q1S.is {w:World} {base:Nat} {v:Value} {gs:List Gt} (h:Q1S w base v gs):Q2g w v gs:=by
 obtain ⟨h1,h2,h3⟩:=h
 obtain ⟨A,cap,rfl,h4,h5⟩:=Q0k h1
 exact ⟨A,cap,rfl,h4,h5,by omega,h3,Cells.of_own h1⟩
theorem Q1S.below {w w':World} {base:Nat} {v:Value} {gs:List Gt} (h:Q1S w base v gs) (hb:Below w.heap.size w w'):Q1S w' base v gs:=⟨Q4O h.1 hb,h.2⟩
theorem Y5Q :(Tryz.prog.info? 133).map (fun i=>(i.zero,i.size,i.bytes))=some (some (.agg #[.int .i64 0,.int .i64 0,.int .i64 0,.int .u64 0]),4,32):=by kernel_rfl
theorem Y3H (gs:List Gt) (k:Nat):gcs (gs.take k)=(gcs gs).take (k * 4):=by
 induction gs generalizing k with
 |nil=>simp [gcs]
 |cons g gs ih=>
  cases k with
  |zero=>simp [gcs]
  |succ k=>
   have e1:gcs (g::gs)=Q6Q g++gcs gs:=by simp [gcs]
   have e2:gcs (g::gs.take k)=Q6Q g++gcs (gs.take k):=by simp [gcs]
   rw [List.take_succ_cons,e1,e2,ih,show (k+1) * 4=(Q6Q g).length+k * 4 by rw [Q2U];omega,List.take_length_add_append]
theorem Y5m (gs:List Gt): ∀u∈gcs gs,u.oneCell'=true:=by
 intro u hu
 unfold gcs at hu
 obtain ⟨g,_,hg⟩:=List.mem_flatMap.1 hu
 simp [Q6Q] at hg
 rcases hg with rfl|rfl|rfl|rfl<;>rfl
theorem Q9e {ops:Array Oper} {rest:List Oper} {o:Oper} {a:Act} {Q:Exit->Act->World->Prop} {w:World} (hgd:o.guard=none) (s x:Operand)
  (ho:o.op= .call {callee:= .builtin .append,args:= #[s,x],argTypes:= #[83,83]})
  (gs:List Gt) (n b1 o1 c:Nat) (hn:gs.length=n) (hs:a.eval s= .slice none 0 0) (hx:a.eval x= .slice (some ⟨b1,o1,none⟩) n c)
  (hg:Q2g w (.slice (some ⟨b1,o1,none⟩) n c) gs) (hl:gs.length<=1000) (h1:1<=gs.length)
  (h: ∀g cap w',Q1S w' w.heap.size (.slice (some ⟨g,0,none⟩) n cap) gs->w.heap.size<=g->Below w.heap.size w w'->wpList Tryz.prog ops Q rest (a.put o.dst (.slice (some ⟨g,0,none⟩) n cap)) w'):wpList Tryz.prog ops Q (o::rest) a w:=by
 subst hn
 obtain ⟨i0,hi,hz0,hz1,hz2⟩:=info_parts Y5Q
 obtain ⟨A,c',hA,_,_,_,hok,hc⟩:=hg
 injection hA with e1 e2 e3
 subst e1 e3
 obtain ⟨b,off,he,hbl,hcell⟩:=hc.at_ (j:=0) (by rw [Q6R];omega)
 injection he with he
 injection he with he1 he2
 subst he1 he2
 refine wpList_append_own_at w hgd s x 83 ho w.heap.size 133 i0 (.agg #[.int .i64 0,.int .i64 0,.int .i64 0,.int .u64 0]) 4 32 Tryz.underlying83 hi hz0 hz1 hz2 rfl (by decide) (.slice none 0 0) 0 [] hs (World.ownsRow_nil _ _ _ _) ⟨b1,o1,none⟩ gs.length c (gcs gs) hx (Q6R gs) ?_ (Y5m gs) ?_ ?_ (Nat.le_refl _) ?_
 ·intro j u hj
  have hjl:=(List.getElem?_eq_some_iff.1 hj).1
  rw [Q0N,hcell j hjl]
  exact hj
 ·unfold maxLen;omega
 ·omega
 ·intro v' w' q1 q2 _ q4
  rw [Nat.zero_add,List.nil_append] at q1
  obtain ⟨g,cap,rfl,hg1,hg2⟩:=Q1s q1 (by omega)
  exact h g cap w' ⟨q1,hl,hok⟩ hg1 ((Below.refl _ _).grown q2 (Nat.le_refl _) (fun k hk=>by cases hk))
theorem Z8l (A:Option Addr) (m c hi:Nat) (h2:hi<=c) (W:World):
  (Instr.sliceAt 83 (.slice A m c) none (some (.int .i64 (hi:Int))) none).run Tryz.prog W= .ok (.slice A hi c) W:=by
 have hU:Program.underlying Tryz.prog 83=some (.slice (Program.elem Tryz.prog 83)):=by kernel_rfl
 have hs: ∀W,(sizeOf (Program.elem Tryz.prog 83)).run Tryz.prog W= .ok 4 W:=fun W=>by kernel_rfl
 rw [run_sliceAt_slice _ _ _ _ _ _ hU,run_slice_h W _ A m c hU .i64 _ (by omega) (by omega),hs]
 simp only [Result.andThen,sliced,Nat.zero_mul,Nat.sub_zero,Int.toNat_natCast]
 congr 2
 split
 ·rfl
 ·cases A with
  |none=>rfl
  |some a=>
   obtain ⟨b,o,s⟩:=a
   simp [Addr.add]
theorem Q2g.first {w:World} {A:Option Addr} {len c:Nat} {gs:List Gt} (h:Q2g w (.slice A len c) gs) (k:Nat) (hk:k<=gs.length):Q2g w (.slice A k c) (gs.take k):=by
 obtain ⟨A1,c1,e,h1,h2,h3,h4,h5⟩:=h
 injection e with e1 e2 e3
 subst e1 e2 e3
 have hl:(gs.take k).length=k:=by simp;omega
 exact ⟨_,_,by rw [hl],by rw [hl];omega,h2,by rw [hl];omega,fun z hz=>h4 z (List.mem_of_mem_take hz),by rw [Y3H];exact h5.take _⟩
theorem Y5n {gs:List Gt} {k:Nat} (g:Gt) (hk:k<gs.length):gcs (gs.set k g)=splice (gcs gs) (k * 4) (Q6Q g):=by
 induction gs generalizing k with
 |nil=>simp at hk
 |cons a gs ih=>
  have e1: ∀(x:Gt) (l:List Gt),gcs (x::l)=Q6Q x++gcs l:=fun x l=>by simp [gcs]
  cases k with
  |zero=>
   rw [List.set_cons_zero,e1,e1]
   unfold splice
   rw [Nat.zero_mul,List.take_zero,List.nil_append,Q2U,Nat.zero_add,List.drop_left' (Q2U a)]
  |succ k=>
   rw [List.set_cons_succ,e1,e1,ih (by simpa using hk)]
   unfold splice
   rw [show (k+1) * 4=(Q6Q a).length+k * 4 by rw [Q2U];omega,List.take_length_add_append,Nat.add_assoc,List.drop_length_add_append,List.append_assoc]
theorem Q1S.set {w:World} {base g n c:Nat} {gs:List Gt} (h:Q1S w base (.slice (some ⟨g,0,none⟩) n c) gs) {k:Nat} (hk:k<gs.length) (x:Gt) (hx:Q5Y x):Q1S (w.setCells g (k * 4) (Q6Q x)) base (.slice (some ⟨g,0,none⟩) n c) (gs.set k x):=by
 obtain ⟨h1,h2,h3⟩:=h
 have hn:n=gs.length:=by
  rcases h1.2 with ⟨hv,_⟩|⟨g',cap,cur,hv,_⟩
  ·simp at hv
  ·injection hv
 subst hn
 refine ⟨?_,by rw [List.length_set];exact h2,fun y hy=> ?_⟩
 ·rw [List.length_set,Y5n x hk]
  exact Q9m (Q6Q x) (k * 4) w (gcs gs) h1 (by rw [Q2U];omega)
 ·rcases List.mem_or_eq_of_mem_set hy with h4|h4
  ·exact h3 y h4
  ·rw [h4];exact hx
end Go.Proofs.YtploomncapiloaaGreatDoor
