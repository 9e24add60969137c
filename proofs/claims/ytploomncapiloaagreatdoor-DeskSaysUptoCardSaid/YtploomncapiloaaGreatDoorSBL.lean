/- Parts of the proof, put together by a program: BenC. No condition. -/
import Derived.Test.YtploomncapiloaaGreatDoorSBG
import Derived.Test.YtploomncapiloaaGreatDoorSBH
import Derived.Test.YtploomncapiloaaGreatDoorSBI
import Derived.Test.YtploomncapiloaaGreatDoorSBK
set_option maxRecDepth 100000
set_option maxHeartbeats 8000000
namespace Go.Proofs.YtploomncapiloaaGreatDoor
open Go.RowKit Go.Sort Go.PlainAid Croft
theorem Z6a (A:Option Addr) (m c lo:Nat) (x:Int) (hx:x=lo) (h1:lo<=m) (W:World):
  (Instr.slice 64 (.slice A m c) (some (.int .i64 x)) none none).run Tryz.prog W= .ok (.slice (if c=lo then A else A.map (·.add (lo * 1))) (m - lo) (c - lo)) W:=by
 subst hx
 have hU:Program.underlying Tryz.prog 64=some (.slice (Program.elem Tryz.prog 64)):=by kernel_rfl
 have hs: ∀W,(sizeOf (Program.elem Tryz.prog 64)).run Tryz.prog W= .ok 1 W:=fun W=>by kernel_rfl
 rw [run_slice_l W _ A m c hU .i64 _ (by omega) (by omega),hs]
 simp [Result.andThen,sliced]
theorem Z1m (sv:ByteArray) (vn vd:Value) (f:List Gt->List Int->List UInt8) (db:Nat) (tx:List UInt8) (kp:Value) (w:World) (hd:Box w db 47 [.string (bs tx),kp]) (hL:Lay w) (hE0:(Q0s tx).e≠0):
  Calls Tryz.prog 40 #[.pointer (some ⟨db,0,none⟩),.string sv,vn,vd] w fun e w'=>e= .returned (.string (bs (Q5e tx f)))/\Below w.heap.size w w':=by
 have HL:=Qh hL
 have hc0:=hd.cell (i:=0) rfl
 have CP:=Qh (Q8D tx w hL.2.2)
 suffices hgoal: ∀Post:Ending->World->Prop,(∀w',Below w.heap.size w w'->Post (.returned (.string (bs (Q5e tx f)))) w')->Calls Tryz.prog 40 #[.pointer (some ⟨db,0,none⟩),.string sv,vn,vd] w Post from hgoal _ fun w' h=>⟨rfl,h⟩
 intro Post hpo
 have HP:=Qh hpo
 have he3:=Z3l tx
 have hat:=Z1i tx
 have HN:=Qh (show Q5e tx f=Q2h (Q0s tx).e++32::Q3y (Q0s tx).at_ from if_neg hE0)
 obtain ⟨E,hE⟩: ∃E,E=(Q0s tx).e:=⟨_,rfl⟩
 obtain ⟨A,hA⟩: ∃A,A=(Q0s tx).at_:=⟨_,rfl⟩
 obtain ⟨gs,hgs⟩: ∃gs,gs=(Q0s tx).gs:=⟨_,rfl⟩
 obtain ⟨os,hos⟩: ∃os,os=(Q0s tx).os:=⟨_,rfl⟩
 rw [<-hE,<-hA,<-hgs,<-hos] at CP
 rw [<-hE,<-hA] at HN
 rw [<-hE] at he3 hE0
 rw [<-hA] at hat
 have hbn:(E !=0)=true:=by rw [bne_iff_ne];exact hE0
 obtain ⟨s1,hs1⟩: ∃s1,s1=bs (Q2h E):=⟨_,rfl⟩
 obtain ⟨s3,hs3⟩: ∃s3,s3=bs (Q3y A):=⟨_,rfl⟩
 have CF:=Qh (fun W (hW:Lay W)=>Q1L E W (by omega) (by omega) hW.2.1)
 have CI:=Qh (fun W (hW:Lay W)=>Q3n A W (by omega) (by omega) hW.2.1)
 have hz1:s1.size<=40:=by rw [hs1,Q0q,Q2h,List.length_append];have:=Q1c E (by omega);simp;omega
 have hz3:s3.size<=20:=by rw [hs3,Q0q];exact Q1c _ (by omega)
 have HN1:=Qh (show s1++(⟨#[32]⟩:ByteArray)++s3=bs (Q5e tx f) by
  rw [HN.out,hs1,hs3]
  show bs _++bs [32]++bs _=_
  rw [Q0p,Q0p];simp)
 obtain ⟨s2,hs2⟩: ∃s2,s2=s1++(⟨#[32]⟩:ByteArray):=⟨_,rfl⟩
 have hz2:s2.size<=41:=by rw [hs2,ByteArray.size_append];have:(⟨#[32]⟩:ByteArray).size=1:=rfl;omega
 have t1: ∀W,(Op.stringOp .add s1 ⟨#[32]⟩).run Tryz.prog W= .ok (.string s2) W:=fun W=>by
  rw [hs2];exact run_string_add_sum W s1 _ (by have:(⟨#[32]⟩:ByteArray).size=1:=rfl;omega)
 have t2: ∀W,(Op.stringOp .add s2 s3).run Tryz.prog W= .ok (.string (s2++s3)) W:=fun W=>run_string_add_sum W s2 s3 (by omega)
 rw [<-hs1] at CF
 rw [<-hs3] at CI
 rw [<-hs2] at HN1
 rw [<-HN1.out] at HP
 obtain ⟨st,hst⟩: ∃st,st=bs tx:=⟨_,rfl⟩
 rw [<-hst] at CP hc0
 clear hE0 hs1 hs2 hs3 he3 hat hpo hd hL hE hA hgs hos hst
 go_enter Tryz.func40,Tryz.ntmps40
 go_wp2_with fail
 refine CP.out.mono ?_
 rintro e W1 ⟨v,rfl,hcirc,hb⟩
 have KC:=Qh hcirc
 obtain ⟨vg,vo,rfl,hg,ho⟩:=hcirc
 obtain ⟨A1,c1,rfl,hcc1,hm1,hl1,hu1,hr1⟩:=hg
 obtain ⟨A2,c2,rfl,hcc2,hm2,hl2,hu2,hr2⟩:=ho
 have B1:=Qh hb
 have B2:=Qh (B1.out.alloc B1.out.size (.cells #[.slice A1 gs.length c1,.slice A2 os.length c2] 85))
 have KC2:=Qh (KC.out.below ((Below.refl W1.heap.size W1).alloc (Nat.le_refl _) (.cells #[.slice A1 gs.length c1,.slice A2 os.length c2] 85)))
 have BX2:=Qh (Box.new W1 85 [.slice A1 gs.length c1,.slice A2 os.length c2])
 clear hb hu1 hr1 hm1 hu2 hr2 hm2
 try dsimp only
 go_wp2_with fail
 refine (CF.out _ (HL.out.below B2.out)).mono ?_
 rintro e W2 ⟨rfl,hb⟩
 have B3:=Qh (Q0b B2.out hb B2.out.size)
 clear hb
 try dsimp only
 go_wp2_with fail
 refine (CI.out _ (HL.out.below B3.out)).mono ?_
 rintro e W3 ⟨rfl,q,os,rfl⟩
 try dsimp only
 go_wp2_with fail
 exact HP.out _ (Q0b B3.out (below_grow W2 q os) B3.out.size)
theorem Z8n (vn vd:Value) (db:Nat) (tx:List UInt8) (kp:Value) (w:World) (hd:Box w db 47 [.string (bs tx),kp]) (hL:Lay w) (hE0:(Q0s tx).e=0):
  Calls Tryz.prog 40 #[.pointer (some ⟨db,0,none⟩),.string (bs Q8v),vn,vd] w fun e w'=>e= .returned (.string (bs (Q5e tx Q7Q)))/\Below w.heap.size w w':=by
 have HL:=Qh hL
 have hc0:=hd.cell (i:=0) rfl
 have CP:=Qh (Q8D tx w hL.2.2)
 obtain ⟨sv,hsv⟩: ∃sv,sv=bs Q8v:=⟨_,rfl⟩
 have t_S:(sv.toList== [115,104,111,119])=true:=by rw [hsv,Q0a];rfl
 rw [<-hsv]
 clear hsv
 suffices hgoal: ∀Post:Ending->World->Prop,(∀w',Below w.heap.size w w'->Post (.returned (.string (bs (Q5e tx Q7Q)))) w')->Calls Tryz.prog 40 #[.pointer (some ⟨db,0,none⟩),.string sv,vn,vd] w Post from hgoal _ fun w' h=>⟨rfl,h⟩
 intro Post hpo
 have HP:=Qh hpo
 have HN:=Qh (show Q5e tx Q7Q=Q7Q (Q0s tx).gs (Q0s tx).os from if_pos hE0)
 have HC:=Qh (Q0Q.2 (Q6p hE0))
 obtain ⟨E,hE⟩: ∃E,E=(Q0s tx).e:=⟨_,rfl⟩
 obtain ⟨A,hA⟩: ∃A,A=(Q0s tx).at_:=⟨_,rfl⟩
 obtain ⟨gs,hgs⟩: ∃gs,gs=(Q0s tx).gs:=⟨_,rfl⟩
 obtain ⟨os,hos⟩: ∃os,os=(Q0s tx).os:=⟨_,rfl⟩
 rw [<-hE,<-hA,<-hgs,<-hos] at CP
 rw [<-hgs,<-hos] at HN HC
 rw [<-hE] at hE0
 have hbn:(E !=0)=false:=by rw [bne_eq_false_iff_eq];exact hE0
 have hz:=Q7T HC.out
 obtain ⟨s,hs⟩: ∃s,s=bs (Q8O gs os):=⟨_,rfl⟩
 have hsz:s.size<=2048:=by rw [hs,Q0q];exact hz
 have HS:=Qh (show s++(⟨#[111,107]⟩:ByteArray)=bs (Q5e tx Q7Q) by rw [HN.out,hs];exact Q0p _ [111,107])
 have t1: ∀W,(Op.stringOp .add s ⟨#[111,107]⟩).run Tryz.prog W= .ok (.string (s++⟨#[111,107]⟩)) W:=fun W=>run_string_add_sum W s _ (by have:(⟨#[111,107]⟩:ByteArray).size=2:=rfl;omega)
 rw [<-HS.out] at HP
 have CTX:=Qh (fun v W (h:Q1m W v gs os) (hW:Lay W)=>Y3v v gs os W h HC.out hW.2.1 hW.2.2.1)
 rw [<-hs] at CTX
 obtain ⟨st,hst⟩: ∃st,st=bs tx:=⟨_,rfl⟩
 rw [<-hst] at CP hc0
 clear hE0 hs hz hpo hd hL hE hA hgs hos hst
 go_enter Tryz.func40,Tryz.ntmps40
 go_wp2_with fail
 refine CP.out.mono ?_
 rintro e W1 ⟨v,rfl,hcirc,hb⟩
 have KC:=Qh hcirc
 obtain ⟨vg,vo,rfl,hg,ho⟩:=hcirc
 obtain ⟨A1,c1,rfl,hcc1,hm1,hl1,hu1,hr1⟩:=hg
 obtain ⟨A2,c2,rfl,hcc2,hm2,hl2,hu2,hr2⟩:=ho
 have B1:=Qh hb
 have B2:=Qh (B1.out.alloc B1.out.size (.cells #[.slice A1 gs.length c1,.slice A2 os.length c2] 85))
 have KC2:=Qh (KC.out.below ((Below.refl W1.heap.size W1).alloc (Nat.le_refl _) (.cells #[.slice A1 gs.length c1,.slice A2 os.length c2] 85)))
 have BX2:=Qh (Box.new W1 85 [.slice A1 gs.length c1,.slice A2 os.length c2])
 clear hb hu1 hr1 hm1 hu2 hr2 hm2
 try dsimp only
 go_wp2_with fail
 refine (CTX.out _ _ KC2.out (HL.out.below B2.out)).mono ?_
 rintro e W2 ⟨rfl,hb⟩
 have B3:=Qh (Q0b B2.out hb B2.out.size)
 clear hb
 try dsimp only
 go_wp2_with fail
 exact HP.out _ B3.out
theorem Y0W (vn vd:Value) (n:List Int) (db:Nat) (tx:List UInt8) (kp:Value) (w:World) (hd:Box w db 47 [.string (bs tx),kp]) (hL:Lay w) (h1:Q0y w vn n) (hn0: ∀z∈n,0<=z) (hE0:(Q0s tx).e=0):
  Calls Tryz.prog 40 #[.pointer (some ⟨db,0,none⟩),.string (bs Z6G),vn,vd] w fun e w'=>e= .returned (.string (bs (Q5e tx (Z3x n))))/\Below w.heap.size w w':=by
 have HL:=Qh hL
 have hc0:=hd.cell (i:=0) rfl
 have CP:=Qh (Q8D tx w hL.2.2)
 have KN:=Qh h1
 obtain ⟨sv,hsv⟩: ∃sv,sv=bs Z6G:=⟨_,rfl⟩
 have t_S:(sv.toList== [115,104,111,119])=false:=by rw [hsv,Q0a];decide
 have t_W:(sv.toList== [119,111,114,107])=false:=by rw [hsv,Q0a];decide
 rw [<-hsv]
 clear hsv
 suffices hgoal: ∀Post:Ending->World->Prop,(∀w',Below w.heap.size w w'->Post (.returned (.string (bs (Q5e tx (Z3x n))))) w')->Calls Tryz.prog 40 #[.pointer (some ⟨db,0,none⟩),.string sv,vn,vd] w Post from hgoal _ fun w' h=>⟨rfl,h⟩
 intro Post hpo
 have HP:=Qh hpo
 have HN:=Qh (show Q5e tx (Z3x n)=Z3x n (Q0s tx).gs (Q0s tx).os from if_pos hE0)
 have HC:=Qh (Q0Q.2 (Q6p hE0))
 obtain ⟨E,hE⟩: ∃E,E=(Q0s tx).e:=⟨_,rfl⟩
 obtain ⟨A,hA⟩: ∃A,A=(Q0s tx).at_:=⟨_,rfl⟩
 obtain ⟨gs,hgs⟩: ∃gs,gs=(Q0s tx).gs:=⟨_,rfl⟩
 obtain ⟨os,hos⟩: ∃os,os=(Q0s tx).os:=⟨_,rfl⟩
 rw [<-hE,<-hA,<-hgs,<-hos] at CP
 rw [<-hgs,<-hos] at HN HC
 rw [<-hE] at hE0
 have hbn:(E !=0)=false:=by rw [bne_eq_false_iff_eq];exact hE0
 obtain ⟨L,hL2⟩: ∃L,L=(Q0E gs).length:=⟨_,rfl⟩
 have HLW:=Qh hL2
 have CW:=Qh (fun W (hW:Below w.heap.size w W)=>Q4B vn n W (KN.out.below hW) hn0)
 obtain ⟨st,hst⟩: ∃st,st=bs tx:=⟨_,rfl⟩
 rw [<-hst] at CP hc0
 obtain ⟨N,hN⟩: ∃N,N=n.length:=⟨_,rfl⟩
 have HNL:=Qh hN
 clear hE0 hpo hd hL hE hA hgs hos hst h1 hn0 hL2 hN
 by_cases hlen:N=L
 ·have hbl:((N:Int) !=(L:Int))=false:=by rw [bne_eq_false_iff_eq];omega
  have hnl:n.length=(Q0E gs).length:=by rw [<-HNL.out,<-HLW.out];exact hlen
  have HNR:=Qh (show Q5e tx (Z3x n)=Q2G (Q0g (Q3P gs os (Q0f n))) 0 by
   rw [HN.out];unfold Z3x Z6v Z3u;rw [if_pos HC.out,if_pos hnl,if_pos rfl])
  have HRL:=Qh (show (Q0g (Q3P gs os (Q0f n))).length<=30 by
   unfold Q0g Q3P;rw [List.length_map,List.length_map];exact (Q0Q.1 HC.out).o2)
  have CO:=Qh (fun v vi W (h:Q1m W v gs os) (hi:Q0h W vi n)=>Z6M v vi gs os n W h hi HC.out hnl)
  obtain ⟨R,hR⟩: ∃R,R=Q0g (Q3P gs os (Q0f n)):=⟨_,rfl⟩
  rw [<-hR] at CO HNR HRL
  rw [HNR.out] at HP
  clear hlen hnl hR
  go_enter Tryz.func40,Tryz.ntmps40
  go_wp2_with fail
  refine CP.out.mono ?_
  rintro e W1 ⟨v,rfl,hcirc,hb⟩
  have KC:=Qh hcirc
  obtain ⟨vg,vo,rfl,hg,ho⟩:=hcirc
  obtain ⟨A1,c1,rfl,hcc1,hm1,hl1,hu1,hr1⟩:=hg
  obtain ⟨A2,c2,rfl,hcc2,hm2,hl2,hu2,hr2⟩:=ho
  have B1:=Qh hb
  have B2:=Qh (B1.out.alloc B1.out.size (.cells #[.slice A1 gs.length c1,.slice A2 os.length c2] 85))
  have KC2:=Qh (KC.out.below ((Below.refl W1.heap.size W1).alloc (Nat.le_refl _) (.cells #[.slice A1 gs.length c1,.slice A2 os.length c2] 85)))
  have BX2:=Qh (Box.new W1 85 [.slice A1 gs.length c1,.slice A2 os.length c2])
  clear hb hu1 hr1 hm1 hu2 hr2 hm2
  try dsimp only
  go_wp2_with fail
  refine (CW.out _ B2.out).mono ?_
  rintro e W2 ⟨vi,rfl,ho2,hb⟩
  obtain ⟨A5,c5,hv5,_⟩:=Q0k ho2.1
  rw [<-HNL.out] at hv5
  subst hv5
  have KI2:=Qh ho2.is
  have B3:=Qh (Q0b B2.out hb B2.out.size)
  have BX3:=Qh (BX2.out.below hb)
  have KC3:=Qh (KC2.out.below hb)
  have q0:=BX3.out.cell (i:=0) rfl
  have q1:=BX3.out.cell (i:=1) rfl
  clear ho2 hb
  try dsimp only
  go_wp2_with fail
  refine (Q7e _ gs os _ KC3.out).mono ?_
  rintro e W3 ⟨vw,rfl,ho3,hb⟩
  obtain ⟨A6,c6,hv6,_⟩:=Q0k ho3.1
  rw [<-HLW.out] at hv6
  subst hv6
  have B4:=Qh (Q0b B3.out hb B3.out.size)
  have BX4:=Qh (BX3.out.below hb)
  have KC4:=Qh (KC3.out.below hb)
  have KI4:=Qh (KI2.out.below hb)
  clear ho3 hb q0 q1
  have q0:=BX4.out.cell (i:=0) rfl
  have q1:=BX4.out.cell (i:=1) rfl
  try dsimp only
  go_wp2_with fail
  go_quiet (fail)
  go_wp2_with fail
  have B4q:=Qh (below_drewN B4.out nq)
  have q0:=(BX4.out.drewN nq).cell (i:=0) rfl
  have q1:=(BX4.out.drewN nq).cell (i:=1) rfl
  refine (CO.out _ _ _ (KC4.out.below (below_drewN (Below.refl _ _) nq)) (KI4.out.drewN nq)).mono ?_
  rintro e W5 ⟨vo,rfl,ho5,hb⟩
  obtain ⟨A7,c7,hv7,_⟩:=Q0k ho5.1
  have KO5:=Qh ho5.is
  have B5:=Qh (Q0b B4q.out hb B4q.out.size)
  have CSD:=Qh (Q5u vo R 0 W5 KO5.out (by have:=HRL.out;omega) (by omega) (by omega) (HL.out.below B5.out).2.1)
  clear ho5 hb hv7
  try dsimp only
  go_wp2_with fail
  refine CSD.out.mono ?_
  rintro e W6 ⟨rfl,hb⟩
  have B6:=Qh (Q0b B5.out hb B5.out.size)
  clear hb
  try dsimp only
  go_wp2_with fail
  exact HP.out _ B6.out
 ·have hbl:((N:Int) !=(L:Int))=true:=by rw [bne_iff_ne];omega
  have hnl: ¬n.length=(Q0E gs).length:=by rw [<-HNL.out,<-HLW.out];exact hlen
  have HNR:=Qh (show Q5e tx (Z3x n)=Q2h 5 by
   rw [HN.out];unfold Z3x Z6v Z3u;rw [if_pos HC.out,if_neg hnl];exact if_neg (by omega))
  rw [HNR.out] at HP
  clear hlen hnl
  go_enter Tryz.func40,Tryz.ntmps40
  go_wp2_with fail
  refine CP.out.mono ?_
  rintro e W1 ⟨v,rfl,hcirc,hb⟩
  have KC:=Qh hcirc
  obtain ⟨vg,vo,rfl,hg,ho⟩:=hcirc
  obtain ⟨A1,c1,rfl,hcc1,hm1,hl1,hu1,hr1⟩:=hg
  obtain ⟨A2,c2,rfl,hcc2,hm2,hl2,hu2,hr2⟩:=ho
  have B1:=Qh hb
  have B2:=Qh (B1.out.alloc B1.out.size (.cells #[.slice A1 gs.length c1,.slice A2 os.length c2] 85))
  have KC2:=Qh (KC.out.below ((Below.refl W1.heap.size W1).alloc (Nat.le_refl _) (.cells #[.slice A1 gs.length c1,.slice A2 os.length c2] 85)))
  have BX2:=Qh (Box.new W1 85 [.slice A1 gs.length c1,.slice A2 os.length c2])
  clear hb hu1 hr1 hm1 hu2 hr2 hm2
  try dsimp only
  go_wp2_with fail
  refine (CW.out _ B2.out).mono ?_
  rintro e W2 ⟨vi,rfl,ho2,hb⟩
  obtain ⟨A5,c5,hv5,_⟩:=Q0k ho2.1
  rw [<-HNL.out] at hv5
  subst hv5
  have B3:=Qh (Q0b B2.out hb B2.out.size)
  have BX3:=Qh (BX2.out.below hb)
  have KC3:=Qh (KC2.out.below hb)
  have q0:=BX3.out.cell (i:=0) rfl
  have q1:=BX3.out.cell (i:=1) rfl
  clear ho2 hb
  try dsimp only
  go_wp2_with fail
  refine (Q7e _ gs os _ KC3.out).mono ?_
  rintro e W3 ⟨vw,rfl,ho3,hb⟩
  obtain ⟨A6,c6,hv6,_⟩:=Q0k ho3.1
  rw [<-HLW.out] at hv6
  subst hv6
  have B4:=Qh (Q0b B3.out hb B3.out.size)
  have CE:=Qh (Q1L 5 W3 (by omega) (by omega) (HL.out.below B4.out).2.1)
  clear ho3 hb q0 q1
  try dsimp only
  go_wp2_with fail
  refine CE.out.mono ?_
  rintro e W6 ⟨rfl,hb⟩
  have B6:=Qh (Q0b B4.out hb B4.out.size)
  clear hb
  try dsimp only
  go_wp2_with fail
  exact HP.out _ B6.out
theorem Z8o (vn vd:Value) (z0 z1:Int) (r ds:List Int) (lo:Nat) (db:Nat) (tx:List UInt8) (kp:Value) (w:World) (hd:Box w db 47 [.string (bs tx),kp]) (hL:Lay w) (h1:Q0j w lo vn (z0::z1::r)) (hn0: ∀z∈z0::z1::r,0<=z) (h2:Q0y w vd ds) (hE0:(Q0s tx).e=0):
  Calls Tryz.prog 40 #[.pointer (some ⟨db,0,none⟩),.string (bs Q9a),vn,vd] w fun e w'=>e= .returned (.string (bs (Q5e tx (Q5t (z0::z1::r) ds))))/\Below w.heap.size w w':=by
 have HL:=Qh hL
 have hc0:=hd.cell (i:=0) rfl
 have CP:=Qh (Q8D tx w hL.2.2)
 have KN:=Qh h1.is
 obtain ⟨b3,c3,hv,hb3,l_b,hcell⟩:=Q1E h1 (by simp)
 have y0:=hcell 0 z0 rfl
 have y1:=hcell 1 z1 rfl
 obtain ⟨A4,c4,rfl,hc4,hm4,hl4,hu4,hr4⟩:=h2
 obtain ⟨sv,hsv⟩: ∃sv,sv=bs Q9a:=⟨_,rfl⟩
 have t_S:(sv.toList== [115,104,111,119])=false:=by rw [hsv,Q0a];decide
 have t_W:(sv.toList== [119,111,114,107])=true:=by rw [hsv,Q0a];rfl
 rw [<-hsv]
 obtain ⟨N,hN⟩: ∃N,N=(z0::z1::r).length:=⟨_,rfl⟩
 have hN2:2<=N:=by simp [hN]
 have hI1:(1:Int)<(N:Int):=by omega
 have hI0:(0:Int)<(N:Int):=by omega
 have hJ0:0<N:=by omega
 have hNr:=Qh (show N - 2=r.length by rw [hN];simp)
 rw [<-hN] at hv
 have hvc:N<=c3:=by have:=KN.out;obtain ⟨A,c,e1,e2,_⟩:=this;rw [hv] at e1;injection e1 with _ _ e1;omega
 have KN2:=Qh (hv▸KN.out)
 subst hv
 clear hsv hu4 hr4 hm4 h1 hcell
 suffices hgoal: ∀Post:Ending->World->Prop,(∀w',Below w.heap.size w w'->Post (.returned (.string (bs (Q5e tx (Q5t (z0::z1::r) ds))))) w')->Calls Tryz.prog 40 #[.pointer (some ⟨db,0,none⟩),.string sv,.slice (some ⟨b3,0,none⟩) N c3,.slice A4 ds.length c4] w Post from hgoal _ fun w' h=>⟨rfl,h⟩
 intro Post hpo
 have HP:=Qh hpo
 have HN:=Qh (show Q5e tx (Q5t (z0::z1::r) ds)=Q5t (z0::z1::r) ds (Q0s tx).gs (Q0s tx).os from if_pos hE0)
 have HC:=Qh (Q0Q.2 (Q6p hE0))
 obtain ⟨E,hE⟩: ∃E,E=(Q0s tx).e:=⟨_,rfl⟩
 obtain ⟨A,hA⟩: ∃A,A=(Q0s tx).at_:=⟨_,rfl⟩
 obtain ⟨gs,hgs⟩: ∃gs,gs=(Q0s tx).gs:=⟨_,rfl⟩
 obtain ⟨os,hos⟩: ∃os,os=(Q0s tx).os:=⟨_,rfl⟩
 rw [<-hE,<-hA,<-hgs,<-hos] at CP
 rw [<-hgs,<-hos] at HN HC
 rw [<-hE] at hE0
 have hbn:(E !=0)=false:=by rw [bne_eq_false_iff_eq];exact hE0
 obtain ⟨L,hL2⟩: ∃L,L=(Q0E gs).length:=⟨_,rfl⟩
 have HLW:=Qh hL2
 have CW:=Qh (fun W (hW:Below w.heap.size w W)=>Q4B _ _ W (KN.out.below hW) hn0)
 have HNE:=Qh hN
 have hWF:Q5t (z0::z1::r) ds gs os=Q2G (Q0g (Q3P gs os (Q0f r))) (Q4H gs os z0 z1 r.length ds.length):=rfl
 obtain ⟨CE,hCE⟩: ∃CE,CE=Q3i gs os z0 z1:=⟨_,rfl⟩
 have CCR:=Qh (fun v W (h:Q1m W v gs os)=>Y0V v gs os z0 z1 W h)
 rw [<-hCE] at CCR
 obtain ⟨st,hst⟩: ∃st,st=bs tx:=⟨_,rfl⟩
 rw [<-hst] at CP hc0
 clear hE0 hpo hd hL hE hA hgs hos hst hn0 hL2 hN
 by_cases hcr:CE=0
 ·have hbc:(CE !=0)=false:=by rw [bne_eq_false_iff_eq];exact hcr
  have hcz:Q3i gs os z0 z1=0:=by rw [<-hCE];exact hcr
  obtain ⟨hok,⟨q1,q2,q3,q4,q5⟩,_⟩:=Q5o.1 hcz
  obtain ⟨Nn,rfl⟩: ∃N:Nat,z0=N:=⟨z0.toNat,by omega⟩
  obtain ⟨Tn,rfl⟩: ∃T:Nat,z1=T:=⟨z1.toNat,by omega⟩
  have hT4:Tn<=4:=by omega
  have hN9:Nn<=9:=by omega
  have hg30:=hok.g2
  obtain ⟨D,hD⟩: ∃D,D=dat Nn Tn gs gs.length:=⟨_,rfl⟩
  have HND:=Qh (show Q5n gs os Nn Tn=(D:Int) by unfold Q5n;rw [if_pos hcz,Int.toNat_natCast,Int.toNat_natCast,hD])
  have HRU:=Qh (show Q4H gs os Nn Tn r.length ds.length=if r.length=L then (if ds.length=D then 0 else 1) else 5 by
   unfold Q4H
   rw [if_pos hcz,HND.out,HLW.out]
   by_cases e1:r.length=(Q0E gs).length
   ·rw [if_pos e1,if_pos e1]
    by_cases e2:ds.length=D
    ·rw [if_pos e2,if_pos (by omega)]
    ·rw [if_neg e2,if_neg (by omega)]
   ·rw [if_neg e1,if_neg e1])
  have CDR:=Qh (fun v W (h:Q1m W v gs os)=>Z8m v gs os Nn Tn W h hg30 hN9 hT4)
  rw [<-hD] at CDR
  have HWF2:=Qh (hWF)
  clear hCE hWF hcz hok q1 q2 q3 q4 q5 hD hT4 hN9
  subst hcr
  go_enter Tryz.func40,Tryz.ntmps40
  go_wp2_with fail
  refine CP.out.mono ?_
  rintro e W1 ⟨v,rfl,hcirc,hb⟩
  have KC:=Qh hcirc
  obtain ⟨vg,vo,rfl,hg,ho⟩:=hcirc
  obtain ⟨A1,c1,rfl,hcc1,hm1,hl1,hu1,hr1⟩:=hg
  obtain ⟨A2,c2,rfl,hcc2,hm2,hl2,hu2,hr2⟩:=ho
  have B1:=Qh hb
  have B2:=Qh (B1.out.alloc B1.out.size (.cells #[.slice A1 gs.length c1,.slice A2 os.length c2] 85))
  have KC2:=Qh (KC.out.below ((Below.refl W1.heap.size W1).alloc (Nat.le_refl _) (.cells #[.slice A1 gs.length c1,.slice A2 os.length c2] 85)))
  have BX2:=Qh (Box.new W1 85 [.slice A1 gs.length c1,.slice A2 os.length c2])
  clear hb hu1 hr1 hm1 hu2 hr2 hm2
  try dsimp only
  have l_b2:=Nat.lt_of_lt_of_le l_b B2.out.size
  go_wp2_with fail
  refine (CW.out _ B2.out).mono ?_
  rintro e W2 ⟨vi,rfl,ho2,hb⟩
  obtain ⟨A5,c5,hv5,hc5,hm5⟩:=Q0k ho2.1
  rw [<-HNE.out] at hv5 hc5
  have KI0:=ho2.is
  rw [hv5] at KI0
  subst hv5
  have hcut:=KI0.cut 2 N hN2 (by rw [<-HNE.out];exact Nat.le_refl _)
  have hus:=Z6a A5 N c5 2 2 rfl hN2
  obtain ⟨At,hAt⟩: ∃At,At=(if c5=2 then A5 else A5.map (·.add (2 * 1))):=⟨_,rfl⟩
  obtain ⟨M,hM⟩: ∃M,M=N - 2:=⟨_,rfl⟩
  obtain ⟨ct,hct⟩: ∃ct,ct=c5 - 2:=⟨_,rfl⟩
  rw [<-hAt,<-hM,<-hct] at hcut hus
  have hMr:M=r.length:=by rw [hM];exact hNr.out
  have HMR:=Qh hMr
  rw [show ((((Nn:Int)::(Tn:Int)::r).drop 2).take M)=r by rw [hMr];simp] at hcut
  have KI2:=Qh hcut
  have B3:=Qh (Q0b B2.out hb B2.out.size)
  have BX3:=Qh (BX2.out.below hb)
  have KC3:=Qh (KC2.out.below hb)
  have q0:=BX3.out.cell (i:=0) rfl
  have q1:=BX3.out.cell (i:=1) rfl
  have x0:=(B3.out.cell (p:=⟨b3,0,none⟩) l_b).trans y0
  have x1:=(B3.out.cell (p:=⟨b3,1,none⟩) l_b).trans y1
  clear ho2 hb KI0 hcut hAt hM hct hMr
  try dsimp only
  go_wp2_with fail
  go_region_held3 (fun w'=>w'.cell? ⟨W1.heap.size,0,none⟩=some (.slice A1 gs.length c1)/\w'.cell? ⟨W1.heap.size,1,none⟩=some (.slice A2 os.length c2)/\w'.cell? ⟨b3,0,none⟩=some (.int .i64 (Nn:Int))/\w'.cell? ⟨b3,1,none⟩=some (.int .i64 (Tn:Int))) (go_keep) ((go_at_call 86;refine (CCR.out _ _ (KC3.out.below (below_drewN (Below.refl _ _) _))).mono ?_;rintro e W4 ⟨rfl,hb⟩;have D4:=Qh ((below_drewN (Below.refl W2.heap.size W2) _).trans hb);have B4:=Qh (Q0b B3.out D4.out B3.out.size);have BX4:=Qh (BX3.out.below D4.out);have p0:=BX4.out.cell (i:=0) rfl;have p1:=BX4.out.cell (i:=1) rfl;have p2:=(B4.out.cell (p:=⟨b3,0,none⟩) l_b).trans y0;have p3:=(B4.out.cell (p:=⟨b3,1,none⟩) l_b).trans y1;clear hb))
  have KC4:=Qh (KC3.out.below D4.out)
  have KI4:=Qh (KI2.out.below D4.out)
  clear q0 q1 x0 x1 p2 p3
  go_wp2_with fail
  refine (Q7e _ gs os _ KC4.out).mono ?_
  rintro e W5 ⟨vw,rfl,ho5,hb⟩
  obtain ⟨A6,c6,hv6,_⟩:=Q0k ho5.1
  rw [<-HLW.out] at hv6
  subst hv6
  have B5:=Qh (Q0b B4.out hb B4.out.size)
  have BX5:=Qh (BX4.out.below hb)
  have KC5:=Qh (KC4.out.below hb)
  have KI5:=Qh (KI4.out.below hb)
  clear ho5 hb p0 p1
  try dsimp only
  by_cases hlen:M=L
  ·have hbl:((M:Int) !=(L:Int))=false:=by rw [bne_eq_false_iff_eq];omega
   have hrl:r.length=L:=by rw [<-HMR.out];exact hlen
   have HRL:=Qh hrl
   have x0:=(B5.out.cell (p:=⟨b3,0,none⟩) l_b).trans y0
   have x1:=(B5.out.cell (p:=⟨b3,1,none⟩) l_b).trans y1
   have r0:=BX5.out.cell (i:=0) rfl
   have r1:=BX5.out.cell (i:=1) rfl
   clear hlen hrl
   go_wp2_with fail
   go_region_held3 (fun w'=>w'.cell? ⟨W1.heap.size,0,none⟩=some (.slice A1 gs.length c1)/\w'.cell? ⟨W1.heap.size,1,none⟩=some (.slice A2 os.length c2)/\w'.cell? ⟨b3,0,none⟩=some (.int .i64 (Nn:Int))/\w'.cell? ⟨b3,1,none⟩=some (.int .i64 (Tn:Int))) (go_keep) ((go_at_call 88;refine (CDR.out _ _ (KC5.out.below (below_drewN (Below.refl _ _) _))).mono ?_;rintro e W6 ⟨rfl,hb⟩;have D6:=Qh ((below_drewN (Below.refl W5.heap.size W5) _).trans hb);have B6:=Qh (Q0b B5.out D6.out B5.out.size);have BX6:=Qh (BX5.out.below D6.out);have p0:=BX6.out.cell (i:=0) rfl;have p1:=BX6.out.cell (i:=1) rfl;have p2:=(B6.out.cell (p:=⟨b3,0,none⟩) l_b).trans y0;have p3:=(B6.out.cell (p:=⟨b3,1,none⟩) l_b).trans y1;clear hb))
   have KC6:=Qh (KC5.out.below D6.out)
   have KI6:=Qh (KI5.out.below D6.out)
   clear x0 x1 r0 r1 p2 p3
   by_cases hdd:ds.length=D
   ·have hbd:((ds.length:Int) !=(D:Int))=false:=by rw [bne_eq_false_iff_eq];omega
    have HR0:=Qh (show Q4H gs os Nn Tn r.length ds.length=0 by rw [HRU.out,if_pos HRL.out,if_pos hdd])
    have HNR:=Qh (show Q5e tx (Q5t ((Nn:Int)::(Tn:Int)::r) ds)=Q2G (Q0g (Q3P gs os (Q0f r))) 0 by
     rw [HN.out,HWF2.out,HR0.out])
    have HOL:=Qh (Z2p HR0.out r)
    have CO:=Qh (Z6M _ _ gs os r _ KC6.out KI6.out HC.out (by rw [HRL.out,HLW.out]))
    obtain ⟨R,hR⟩: ∃R,R=Q0g (Q3P gs os (Q0f r)):=⟨_,rfl⟩
    rw [<-hR] at CO HNR HOL
    rw [HNR.out] at HP
    clear hdd hR
    go_wp2_with fail
    refine CO.out.mono ?_
    rintro e W7 ⟨vo,rfl,ho7,hb⟩
    have KO7:=Qh ho7.is
    have B7:=Qh (Q0b B6.out hb B6.out.size)
    have CSD:=Qh (Q5u vo R 0 W7 KO7.out (by have:=HOL.out;omega) (by omega) (by omega) (HL.out.below B7.out).2.1)
    clear ho7 hb
    try dsimp only
    go_wp2_with fail
    refine CSD.out.mono ?_
    rintro e W8 ⟨rfl,hb⟩
    have B8:=Qh (Q0b B7.out hb B7.out.size)
    clear hb
    try dsimp only
    go_wp2_with fail
    exact HP.out _ B8.out
   ·have hbd:((ds.length:Int) !=(D:Int))=true:=by rw [bne_iff_ne];omega
    have HNR:=Qh (show Q5e tx (Q5t ((Nn:Int)::(Tn:Int)::r) ds)=Q2h 1 by
     rw [HN.out,HWF2.out,HRU.out,if_pos HRL.out,if_neg hdd];exact if_neg (by omega))
    rw [HNR.out] at HP
    have CE1:=Qh (Q1L 1 W6 (by omega) (by omega) (HL.out.below B6.out).2.1)
    clear hdd
    go_wp2_with fail
    refine CE1.out.mono ?_
    rintro e W7 ⟨rfl,hb⟩
    have B7:=Qh (Q0b B6.out hb B6.out.size)
    clear hb
    try dsimp only
    go_wp2_with fail
    exact HP.out _ B7.out
  ·have hbl:((M:Int) !=(L:Int))=true:=by rw [bne_iff_ne];omega
   have hrl: ¬r.length=L:=by rw [<-HMR.out];exact hlen
   have HNR:=Qh (show Q5e tx (Q5t ((Nn:Int)::(Tn:Int)::r) ds)=Q2h 5 by
    rw [HN.out,HWF2.out,HRU.out,if_neg hrl];exact if_neg (by omega))
   rw [HNR.out] at HP
   have CE5:=Qh (Q1L 5 W5 (by omega) (by omega) (HL.out.below B5.out).2.1)
   clear hlen hrl
   go_wp2_with fail
   refine CE5.out.mono ?_
   rintro e W6 ⟨rfl,hb⟩
   have B6:=Qh (Q0b B5.out hb B5.out.size)
   clear hb
   try dsimp only
   go_wp2_with fail
   exact HP.out _ B6.out
 ·have hbc:(CE !=0)=true:=by rw [bne_iff_ne];exact hcr
  have hcE:0<=CE/\CE<=2:=by
   rw [hCE];unfold Q3i
   have:=Q5V gs os
   repeat' split
   all_goals omega
  have HNR:=Qh (show Q5e tx (Q5t (z0::z1::r) ds)=Q2h CE by
   rw [HN.out,hWF];unfold Q4H;rw [<-hCE,if_neg hcr];exact if_neg hcr)
  rw [HNR.out] at HP
  clear hcr hCE hWF
  go_enter Tryz.func40,Tryz.ntmps40
  go_wp2_with fail
  refine CP.out.mono ?_
  rintro e W1 ⟨v,rfl,hcirc,hb⟩
  have KC:=Qh hcirc
  obtain ⟨vg,vo,rfl,hg,ho⟩:=hcirc
  obtain ⟨A1,c1,rfl,hcc1,hm1,hl1,hu1,hr1⟩:=hg
  obtain ⟨A2,c2,rfl,hcc2,hm2,hl2,hu2,hr2⟩:=ho
  have B1:=Qh hb
  have B2:=Qh (B1.out.alloc B1.out.size (.cells #[.slice A1 gs.length c1,.slice A2 os.length c2] 85))
  have KC2:=Qh (KC.out.below ((Below.refl W1.heap.size W1).alloc (Nat.le_refl _) (.cells #[.slice A1 gs.length c1,.slice A2 os.length c2] 85)))
  have BX2:=Qh (Box.new W1 85 [.slice A1 gs.length c1,.slice A2 os.length c2])
  clear hb hu1 hr1 hm1 hu2 hr2 hm2
  try dsimp only
  have l_b2:=Nat.lt_of_lt_of_le l_b B2.out.size
  go_wp2_with fail
  refine (CW.out _ B2.out).mono ?_
  rintro e W2 ⟨vi,rfl,ho2,hb⟩
  obtain ⟨A5,c5,hv5,_⟩:=Q0k ho2.1
  rw [<-HNE.out] at hv5
  subst hv5
  have B3:=Qh (Q0b B2.out hb B2.out.size)
  have BX3:=Qh (BX2.out.below hb)
  have KC3:=Qh (KC2.out.below hb)
  have q0:=BX3.out.cell (i:=0) rfl
  have q1:=BX3.out.cell (i:=1) rfl
  have x0:=(B3.out.cell (p:=⟨b3,0,none⟩) l_b).trans y0
  have x1:=(B3.out.cell (p:=⟨b3,1,none⟩) l_b).trans y1
  clear ho2 hb
  try dsimp only
  go_wp2_with fail
  go_region_held3 (fun w'=>w'.cell? ⟨W1.heap.size,0,none⟩=some (.slice A1 gs.length c1)/\w'.cell? ⟨W1.heap.size,1,none⟩=some (.slice A2 os.length c2)/\w'.cell? ⟨b3,0,none⟩=some (.int .i64 z0)/\w'.cell? ⟨b3,1,none⟩=some (.int .i64 z1)) (go_keep) ((go_at_call 86;refine (CCR.out _ _ (KC3.out.below (below_drewN (Below.refl _ _) _))).mono ?_;rintro e W4 ⟨rfl,hb⟩;have D4:=Qh ((below_drewN (Below.refl W2.heap.size W2) _).trans hb);have B4:=Qh (Q0b B3.out D4.out B3.out.size);have BX4:=Qh (BX3.out.below D4.out);have p0:=BX4.out.cell (i:=0) rfl;have p1:=BX4.out.cell (i:=1) rfl;have p2:=(B4.out.cell (p:=⟨b3,0,none⟩) l_b).trans y0;have p3:=(B4.out.cell (p:=⟨b3,1,none⟩) l_b).trans y1;clear hb))
  have CER:=Qh (Q1L CE W4 hcE.1 (by omega) (HL.out.below B4.out).2.1)
  clear p0 p1 p2 p3 q0 q1 x0 x1
  go_wp2_with fail
  refine CER.out.mono ?_
  rintro e W6 ⟨rfl,hb⟩
  have B6:=Qh (Q0b B4.out hb B4.out.size)
  clear hb
  try dsimp only
  go_wp2_with fail
  exact HP.out _ B6.out
end Go.Proofs.YtploomncapiloaaGreatDoor
