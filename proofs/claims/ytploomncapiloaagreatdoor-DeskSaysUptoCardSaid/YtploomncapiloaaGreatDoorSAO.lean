/- Parts of the proof, put together by a program: CircX. No condition. -/
import Derived.Test.YtploomncapiloaaGreatDoorSAG
import Derived.Test.YtploomncapiloaaGreatDoorSAM
set_option maxRecDepth 100000
set_option maxHeartbeats 8000000
namespace Go.Proofs.YtploomncapiloaaGreatDoor
open Go.RowKit Croft
def Z9z (w:World) (e:Ending) (w':World) (l:List Int) (err:Int):Prop:=
 ∃v,e= .returned (.tuple #[v,.int .i64 err])/\Q0j w' w.heap.size v l/\Below w.heap.size w w'
def Q5L (gs:List Gt) (os:List Int):List Int:=if Q0U gs os=0 then Q0E gs else []
theorem Z0G (gs:List Gt):(Q0E gs).length<=gs.length:=by
 unfold Q0E
 rw [List.length_map]
 exact List.length_filter_le _ _
theorem Q2Y (v:Value) (gs:List Gt) (os:List Int) (w:World) (h:Q1m w v gs os):
  Calls Tryz.prog 106 #[v] w fun e w'=>Z9z w e w' (Q5L gs os) (Q0U gs os):=by
 have KC:=Qh h
 obtain ⟨vg,vo,rfl,hg,ho⟩:=h
 have KG:=Qh hg
 obtain ⟨A1,c1,rfl,hc1,hm1,hl1,hu1,hr1⟩:=hg
 obtain ⟨A2,c2,rfl,hc2,hm2,hl2,hu2,hr2⟩:=ho
 have BB:=Qh ((Below.refl w.heap.size w).alloc (Nat.le_refl _) (.cells #[.slice A1 gs.length c1,.slice A2 os.length c2] 85))
 have BX:=Qh (Box.new w 85 [.slice A1 gs.length c1,.slice A2 os.length c2])
 have HU:=Qh hu1
 clear hu1 hr1 hm1 hu2 hr2 hm2
 suffices hgoal: ∀Post:Ending->World->Prop,(∀e w',Z9z w e w' (Q5L gs os) (Q0U gs os)->Post e w')->Calls Tryz.prog 106 #[.agg #[.slice A1 gs.length c1,.slice A2 os.length c2]] w Post from hgoal _ fun e w' h=>h
 intro Post hp
 have HP:=Qh hp
 clear hp
 by_cases h0:Q0U gs os=0
 ·have HE:=Qh h0
  have HI:=Qh (show Q5L gs os=Q0E gs from if_pos h0)
  clear h0
  go_enter Tryz.func106,Tryz.ntmps106
  go_wp2_with fail
  refine (Q6S _ gs os _ (KC.out.below BB.out)).mono ?_
  rintro e W1 ⟨rfl,hb⟩
  rw [HE.out]
  have B1:=Qh (Q0b BB.out hb BB.out.size)
  have BX1:=Qh (BX.out.below hb)
  clear hb
  try dsimp only
  have hc0:=BX1.out.cell (i:=0) rfl
  go_wp2_with fail
  go_loopw [5,16] (fun v i wr=> ∃k:Nat,k<=gs.length/\i= .int .i64 k/\Q0j wr W1.heap.size v (Q0E (gs.take k))/\Below W1.heap.size W1 wr) (fun _ i _=>gs.length - (intOf i).toNat)
  case atStart=>exact ⟨0,Nat.zero_le _,rfl,Q0j.nil _ _,Below.refl _ _⟩
  case round=>
   obtain ⟨k,hk,rfl,hown,hbel⟩:=hrel
   have KO:=Qh hown
   have BEL:=Qh hbel
   have hsz:=hbel.size
   clear hown hbel hc0
   by_cases hlt:k<gs.length
   ·obtain ⟨A,c,hA,_,_,_,hu,hr⟩:=((KG.out.below B1.out).below BEL.out)
    injection hA with hA1 hA2 hA3
    subst hA1 hA3
    obtain ⟨b1',o1,g,rfl,hb1,hgk,hgo,ha1,ha2,ha3,ha4⟩:=Q2V hr hu hlt
    have HGK:=Qh hgk
    have hga:=hgo.2.1
    have HW:=Qh (Q7C hgk)
    have hwl:(Q0E (gs.take k)).length<=k:=by have:=Z0G (gs.take k);rw [List.length_take] at this;omega
    clear hr hu hgk hb1
    by_cases hk1:g.kind=1
    ·have hkb:(g.kind==1)=true:=by rw [beq_iff_eq];exact hk1
     have HK:=Qh hk1
     clear hk1
     go_wp2_with (at_builtin;go_loud (refine Q1M rfl _ _ rfl W1.heap.size _ _ g.a (wr.heap.size+1) 1 rfl ((KO.out.alloc _).alloc _) rfl (by rw [<-size_alloc wr (.cells #[.int .i64 g.kind,.int .i64 g.a,.int .i64 g.b,.int .u64 g.n] 133)];exact Q0o _ _ _) hga (by omega) (by rw [size_alloc,size_alloc];omega) ?_))
     intro v' w5 hown' hbel'
     have K5:=Qh hown'
     have B5:=Qh (((BEL.out.alloc hsz (.cells #[.int .i64 g.kind,.int .i64 g.a,.int .i64 g.b,.int .u64 g.n] 133)).alloc (by rw [size_alloc];omega) (.cells #[.int .i64 g.a] 3)).trans hbel')
     clear hown' hbel'
     go_wp2_with fail
     exact ⟨⟨k+1,by omega,by go_num,by rw [HW.out,if_pos HK.out];exact K5.out,B5.out⟩,by simp [intOf]<;>omega⟩
    ·have hkb:(g.kind==1)=false:=by rw [beq_eq_false_iff_ne];exact hk1
     have HK:=Qh hk1
     clear hk1
     go_wp2_with fail
     exact ⟨⟨k+1,by omega,by go_num,by rw [HW.out,if_neg HK.out];exact KO.out.alloc _,BEL.out.alloc hsz _⟩,by simp [intOf]<;>omega⟩
   ·obtain rfl:k=gs.length:=by omega
    go_wp2_with fail
    have h:=KO.out
    rw [List.take_length] at h
    refine HP.out _ _ ?_
    rw [HE.out,HI.out]
    exact ⟨_,rfl,h.less B1.out.size,Q0b B1.out BEL.out B1.out.size⟩
 ·have hb:(Q0U gs os !=0)=true:=by rw [bne_iff_ne];exact h0
  have HI:=Qh (show Q5L gs os= [] from if_neg h0)
  clear h0
  go_enter Tryz.func106,Tryz.ntmps106
  go_wp2_with fail
  refine (Q6S _ gs os _ (KC.out.below BB.out)).mono ?_
  rintro e W1 ⟨rfl,hb1⟩
  have B1:=Qh (Q0b BB.out hb1 BB.out.size)
  clear hb1
  try dsimp only
  go_wp2_with fail
  refine HP.out _ _ ?_
  rw [HI.out]
  exact ⟨_,rfl,Q0j.nil _ _,B1.out⟩
theorem Q0h.tail {w:World} {b o c:Nat} {x:Int} {zs:List Int} (h:Q0h w (.slice (some ⟨b,o,none⟩) (zs.length+1) c) (x::zs)) {A:Option Addr} (hA:A=some ⟨b,o+1,none⟩∨zs= []):Q0h w (.slice A zs.length (c - 1)) zs:=by
 obtain ⟨A1,c1,h1,h2,h3,h4,h5,h6⟩:=h
 injection h1 with h1a h1b h1c
 subst h1a h1c
 simp only [List.length_cons] at h2 h4
 refine ⟨A,c - 1,rfl,by omega,by omega,by omega,fun z hz=>h5 z (by simp [hz]), ?_⟩
 rcases h6 with h6|⟨b',o',hbo,hb,hc⟩
 ·simp [Q2o] at h6
 ·injection hbo with hbo
  injection hbo with h7 h8
  subst h7 h8
  rcases hA with rfl|rfl
  ·refine .inr ⟨b,o+1,rfl,hb,fun j hj=> ?_⟩
   have:=hc (j+1) (by simp [Q2o] at hj⊢;omega)
   rw [Nat.add_assoc,Nat.add_comm 1 j,this]
   simp [Q2o]
  ·exact .inl rfl
def Q5Z (w:World) (e:Ending) (w':World) (x:F) (vi:Value) (l l':List Int):Prop:=
 ∃v,e= .returned (.tuple #[.int .u64 (ofF x),v])/\(∀W0,Q0h W0 vi l->Q0h W0 v l')/\Below w.heap.size w w'
theorem Q6v {l:List F} {k:Nat} {z:Int} (h:(Q0g l)[k]? =some z):z=ofF (co l k):=by
 have h1:=Q1n h
 rw [Q0A] at h1
 have hk:k<l.length:=by have:=(List.getElem?_eq_some_iff.1 h).1;rwa [Q0d] at this
 rw [Q1H (Q2r hk)] at h
 exact (Option.some.inj h).symm
theorem Y2z (a b n:Int) (vw vi:Value) (x:Int) (ins:List Int) (w:World) (h2:Q0h w vi (x::ins)):
  Calls Tryz.prog 113 #[.agg #[.int .i64 1,.int .i64 a,.int .i64 b,.int .u64 n],vw,vi] w fun e w'=>Q5Z w e w' (toF x) vi (x::ins) ins:=by
 have BB:=Qh ((Below.refl w.heap.size w).alloc (Nat.le_refl _) (.cells #[.int .i64 1,.int .i64 a,.int .i64 b,.int .u64 n] 133))
 obtain ⟨A2,c2,rfl,hc2,hm2,hl2,hu2,hr2⟩:=h2
 obtain ⟨b1,o1,z,rfl,hb1,hz,huz,hc⟩:=Q0O hr2 hu2 (k:=0) (by simp)
 simp at hz
 subst hz
 rw [Nat.add_zero] at hc
 have hx0:=huz.1
 simp only [List.length_cons] at hc2⊢
 suffices hgoal: ∀Post:Ending->World->Prop,(∀e w',Q5Z w e w' (toF x) (.slice (some ⟨b1,o1,none⟩) (ins.length+1) c2) (x::ins) ins->Post e w')->Calls Tryz.prog 113 #[.agg #[.int .i64 1,.int .i64 a,.int .i64 b,.int .u64 n],vw,.slice (some ⟨b1,o1,none⟩) (ins.length+1) c2] w Post from hgoal _ fun e w' h=>h
 intro Post hp
 have HP:=Qh hp
 clear hp hu2 hr2 hm2
 by_cases hcc:c2=1
 ·subst hcc
  have hi0:ins.length=0:=by omega
  have KT:=Qh (show∀W0,Q0h W0 (.slice (some ⟨b1,o1,none⟩) (ins.length+1) 1) (x::ins)->Q0h W0 (.slice (some ⟨b1,o1,none⟩) ins.length 0) ins from fun W0 h=>h.tail (.inr (List.eq_nil_of_length_eq_zero hi0)))
  rw [hi0] at KT HP⊢
  clear hi0
  go_enter Tryz.func113,Tryz.ntmps113
  go_wp2_with fail
  go_quiet ((exact Q1b (Q1f _ _ hx0)))
  go_wp2_with fail
  exact HP.out _ _ ⟨_,rfl,KT.out,below_drewN BB.out _⟩
 ·have KT:=Qh (show∀W0,Q0h W0 (.slice (some ⟨b1,o1,none⟩) (ins.length+1) c2) (x::ins)->Q0h W0 (.slice (some ⟨b1,o1+1,none⟩) ins.length (c2 - 1)) ins from fun W0 h=>h.tail (.inl rfl))
  go_enter Tryz.func113,Tryz.ntmps113
  go_wp2_with fail
  go_quiet ((exact Q1b (Q1f _ _ hx0)))
  go_wp2_with fail
  exact HP.out _ _ ⟨_,rfl,KT.out,below_drewN BB.out _⟩
theorem Y2A (a b n:Int) (vw vi:Value) (ins:List Int) (w:World) (hn:0<=n):
  Calls Tryz.prog 113 #[.agg #[.int .i64 2,.int .i64 a,.int .i64 b,.int .u64 n],vw,vi] w fun e w'=>Q5Z w e w' (toF n) vi ins ins:=by
 have BB:=Qh ((Below.refl w.heap.size w).alloc (Nat.le_refl _) (.cells #[.int .i64 2,.int .i64 a,.int .i64 b,.int .u64 n] 133))
 go_enter Tryz.func113,Tryz.ntmps113
 go_wp2_with fail
 refine (Q1f _ _ hn).mono ?_
 rintro e w' ⟨rfl,rfl⟩
 try dsimp only
 go_wp2_with fail
 go_ret2
 exact ⟨_,rfl,fun _ h=>h,BB.out⟩
theorem Y2B (a:Nat) (b n k:Int) (h1:k≠1) (h2:k≠2) (h3:k≠3) (h4:k≠4) (h5:k≠5) (vw vi:Value) (W:List F) (ins:List Int) (w:World) (hn:0<=n) (ha:a<W.length) (hw:Q0h w vw (Q0g W)):
  Calls Tryz.prog 113 #[.agg #[.int .i64 k,.int .i64 a,.int .i64 b,.int .u64 n],vw,vi] w fun e w'=>Q5Z w e w' (co W a * toF n) vi ins ins:=by
 have BB:=Qh ((Below.refl w.heap.size w).alloc (Nat.le_refl _) (.cells #[.int .i64 k,.int .i64 a,.int .i64 b,.int .u64 n] 133))
 have b1:(k==1)=false:=by rw [beq_eq_false_iff_ne];exact h1
 have b2:(k==2)=false:=by rw [beq_eq_false_iff_ne];exact h2
 have b3:(k==3)=false:=by rw [beq_eq_false_iff_ne];exact h3
 have b4:(k==4)=false:=by rw [beq_eq_false_iff_ne];exact h4
 have b5:(k==5)=false:=by rw [beq_eq_false_iff_ne];exact h5
 obtain ⟨A1,c1,rfl,hc1,hm1,hl1,hu1,hr1⟩:=hw
 obtain ⟨b1',o1,z,rfl,hb1,hz,huz,hc⟩:=Q0O hr1 hu1 (k:=a) (by rw [Q0d];exact ha)
 have HZ:=Qh (Q6v hz)
 have hz0:=huz.1
 have hlw:=Q0d W
 rw [hlw] at hc1 hl1⊢
 clear hu1 hr1 hm1 hz h1 h2 h3 h4 h5 hlw
 suffices hgoal: ∀Post:Ending->World->Prop,(∀e w',Q5Z w e w' (co W a * toF n) vi ins ins->Post e w')->Calls Tryz.prog 113 #[.agg #[.int .i64 k,.int .i64 a,.int .i64 b,.int .u64 n],.slice (some ⟨b1',o1,none⟩) W.length c1,vi] w Post from hgoal _ fun e w' h=>h
 intro Post hp
 have HP:=Qh hp
 clear hp
 go_enter Tryz.func113,Tryz.ntmps113
 go_wp2_with fail
 go_quiet ((exact Q1b (Q1t _ _ _ hz0 hn)))
 go_wp2_with fail
 refine HP.out _ _ ⟨vi, ?_,fun _ h=>h,below_drewN BB.out _⟩
 rw [HZ.out,Q0m]
 rfl
theorem Y2C (a b:Nat) (n:Int) (vw vi:Value) (W:List F) (ins:List Int) (w:World) (ha:a<W.length) (hb:b<W.length) (hw:Q0h w vw (Q0g W)):
  Calls Tryz.prog 113 #[.agg #[.int .i64 3,.int .i64 a,.int .i64 b,.int .u64 n],vw,vi] w fun e w'=>Q5Z w e w' (co W a+co W b) vi ins ins:=by
 have BB:=Qh ((Below.refl w.heap.size w).alloc (Nat.le_refl _) (.cells #[.int .i64 3,.int .i64 a,.int .i64 b,.int .u64 n] 133))
 obtain ⟨A1,c1,rfl,hc1,hm1,hl1,hu1,hr1⟩:=hw
 obtain ⟨b1',o1,z,rfl,hb1,hz,huz,hc⟩:=Q0O hr1 hu1 (k:=a) (by rw [Q0d];exact ha)
 obtain ⟨b2',o2,z2,hA2,hb2,hz2,huz2,hc2⟩:=Q0O hr1 hu1 (k:=b) (by rw [Q0d];exact hb)
 injection hA2 with hA2
 injection hA2 with hA3 hA4
 subst hA3 hA4
 have HZ:=Qh (Q6v hz)
 have HZ2:=Qh (Q6v hz2)
 have hz0:=huz.1
 have hz20:=huz2.1
 have hlw:=Q0d W
 rw [hlw] at hc1 hl1⊢
 clear hu1 hr1 hm1 hz hz2 hlw
 suffices hgoal: ∀Post:Ending->World->Prop,(∀e w',Q5Z w e w' (co W a+co W b) vi ins ins->Post e w')->Calls Tryz.prog 113 #[.agg #[.int .i64 3,.int .i64 a,.int .i64 b,.int .u64 n],.slice (some ⟨b1',o1,none⟩) W.length c1,vi] w Post from hgoal _ fun e w' h=>h
 intro Post hp
 have HP:=Qh hp
 clear hp
 go_enter Tryz.func113,Tryz.ntmps113
 go_wp2_with fail
 go_quiet ((exact Q1b (Q5A _ _ _ hz0 hz20)))
 go_wp2_with fail
 refine HP.out _ _ ⟨vi, ?_,fun _ h=>h,below_drewN BB.out _⟩
 rw [HZ.out,HZ2.out,Q0m,Q0m]
 rfl
theorem Y2D (a b:Nat) (n:Int) (vw vi:Value) (W:List F) (ins:List Int) (w:World) (ha:a<W.length) (hb:b<W.length) (hw:Q0h w vw (Q0g W)):
  Calls Tryz.prog 113 #[.agg #[.int .i64 4,.int .i64 a,.int .i64 b,.int .u64 n],vw,vi] w fun e w'=>Q5Z w e w' (co W a - co W b) vi ins ins:=by
 have BB:=Qh ((Below.refl w.heap.size w).alloc (Nat.le_refl _) (.cells #[.int .i64 4,.int .i64 a,.int .i64 b,.int .u64 n] 133))
 obtain ⟨A1,c1,rfl,hc1,hm1,hl1,hu1,hr1⟩:=hw
 obtain ⟨b1',o1,z,rfl,hb1,hz,huz,hc⟩:=Q0O hr1 hu1 (k:=a) (by rw [Q0d];exact ha)
 obtain ⟨b2',o2,z2,hA2,hb2,hz2,huz2,hc2⟩:=Q0O hr1 hu1 (k:=b) (by rw [Q0d];exact hb)
 injection hA2 with hA2
 injection hA2 with hA3 hA4
 subst hA3 hA4
 have HZ:=Qh (Q6v hz)
 have HZ2:=Qh (Q6v hz2)
 have hz0:=huz.1
 have hz20:=huz2.1
 have hlw:=Q0d W
 rw [hlw] at hc1 hl1⊢
 clear hu1 hr1 hm1 hz hz2 hlw
 suffices hgoal: ∀Post:Ending->World->Prop,(∀e w',Q5Z w e w' (co W a - co W b) vi ins ins->Post e w')->Calls Tryz.prog 113 #[.agg #[.int .i64 4,.int .i64 a,.int .i64 b,.int .u64 n],.slice (some ⟨b1',o1,none⟩) W.length c1,vi] w Post from hgoal _ fun e w' h=>h
 intro Post hp
 have HP:=Qh hp
 clear hp
 go_enter Tryz.func113,Tryz.ntmps113
 go_wp2_with fail
 go_quiet ((exact Q1b (Q4N _ _ _ hz0 hz20)))
 go_wp2_with fail
 refine HP.out _ _ ⟨vi, ?_,fun _ h=>h,below_drewN BB.out _⟩
 rw [HZ.out,HZ2.out,Q0m,Q0m]
 rfl
theorem Y2E (a b:Nat) (n:Int) (vw vi:Value) (W:List F) (ins:List Int) (w:World) (ha:a<W.length) (hb:b<W.length) (hw:Q0h w vw (Q0g W)):
  Calls Tryz.prog 113 #[.agg #[.int .i64 5,.int .i64 a,.int .i64 b,.int .u64 n],vw,vi] w fun e w'=>Q5Z w e w' (co W a * co W b) vi ins ins:=by
 have BB:=Qh ((Below.refl w.heap.size w).alloc (Nat.le_refl _) (.cells #[.int .i64 5,.int .i64 a,.int .i64 b,.int .u64 n] 133))
 obtain ⟨A1,c1,rfl,hc1,hm1,hl1,hu1,hr1⟩:=hw
 obtain ⟨b1',o1,z,rfl,hb1,hz,huz,hc⟩:=Q0O hr1 hu1 (k:=a) (by rw [Q0d];exact ha)
 obtain ⟨b2',o2,z2,hA2,hb2,hz2,huz2,hc2⟩:=Q0O hr1 hu1 (k:=b) (by rw [Q0d];exact hb)
 injection hA2 with hA2
 injection hA2 with hA3 hA4
 subst hA3 hA4
 have HZ:=Qh (Q6v hz)
 have HZ2:=Qh (Q6v hz2)
 have hz0:=huz.1
 have hz20:=huz2.1
 have hlw:=Q0d W
 rw [hlw] at hc1 hl1⊢
 clear hu1 hr1 hm1 hz hz2 hlw
 suffices hgoal: ∀Post:Ending->World->Prop,(∀e w',Q5Z w e w' (co W a * co W b) vi ins ins->Post e w')->Calls Tryz.prog 113 #[.agg #[.int .i64 5,.int .i64 a,.int .i64 b,.int .u64 n],.slice (some ⟨b1',o1,none⟩) W.length c1,vi] w Post from hgoal _ fun e w' h=>h
 intro Post hp
 have HP:=Qh hp
 clear hp
 go_enter Tryz.func113,Tryz.ntmps113
 go_wp2_with fail
 go_quiet ((exact Q1b (Q1t _ _ _ hz0 hz20)))
 go_wp2_with fail
 refine HP.out _ _ ⟨vi, ?_,fun _ h=>h,below_drewN BB.out _⟩
 rw [HZ.out,HZ2.out,Q0m,Q0m]
 rfl
theorem Z7v (g:Gt) (i:Nat) (vw vi:Value) (W:List F) (ins:List Int) (w:World) (hr:Q0u g i=true) (hg:Q5Y g) (hl:W.length=i) (hw:Q0h w vw (Q0g W)) (hi:Q0h w vi ins) (hk:g.kind=1->ins≠ []):
  Calls Tryz.prog 113 #[gV g,vw,vi] w fun e w'=>Q5Z w e w' (Z2C W (co (Q0f ins) 0) g) vi ins (if g.kind=1 then ins.drop 1 else ins):=by
 obtain ⟨k,a,b,n⟩:=g
 obtain ⟨_,_,_,hn⟩:=hg
 have hn0:=hn.1
 unfold gV Z2C
 unfold Q0u at hr
 dsimp only at *
 by_cases h1:k=1
 ·subst h1
  rw [if_pos rfl,if_pos rfl]
  match ins,hi,hk rfl with
  |x::ins,hi,_=>
   have e:co (Q0f (x::ins)) 0=toF x:=Q1h _ _
   rw [e]
   exact Y2z a b n vw vi x ins w hi
 rw [if_neg h1,if_neg h1]
 rw [if_neg h1] at hr
 by_cases h2:k=2
 ·subst h2;rw [if_pos rfl];exact Y2A a b n vw vi ins w hn0
 rw [if_neg h2]
 rw [if_neg h2] at hr
 have two: ∀x y:Int,Q0H x i=true->Q0H y i=true-> ∃p q:Nat,x=p/\y=q/\p<W.length/\q<W.length:=fun x y hx hy=>by
  simp only [Q0H,Bool.and_eq_true,decide_eq_true_eq] at hx hy
  exact ⟨x.toNat,y.toNat,by omega,by omega,by omega,by omega⟩
 by_cases h3:k=3
 ·subst h3
  rw [if_pos (.inl rfl)] at hr
  simp only [Bool.and_eq_true] at hr
  obtain ⟨p,q,rfl,rfl,hp,hq⟩:=two a b hr.1.1 hr.1.2
  rw [if_pos rfl,Int.toNat_natCast,Int.toNat_natCast]
  exact Y2C p q n vw vi W ins w hp hq hw
 rw [if_neg h3]
 by_cases h4:k=4
 ·subst h4
  rw [if_pos (.inr (.inl rfl))] at hr
  simp only [Bool.and_eq_true] at hr
  obtain ⟨p,q,rfl,rfl,hp,hq⟩:=two a b hr.1.1 hr.1.2
  rw [if_pos rfl,Int.toNat_natCast,Int.toNat_natCast]
  exact Y2D p q n vw vi W ins w hp hq hw
 rw [if_neg h4]
 by_cases h5:k=5
 ·subst h5
  rw [if_pos (.inr (.inr rfl))] at hr
  simp only [Bool.and_eq_true] at hr
  obtain ⟨p,q,rfl,rfl,hp,hq⟩:=two a b hr.1.1 hr.1.2
  rw [if_pos rfl,Int.toNat_natCast,Int.toNat_natCast]
  exact Y2E p q n vw vi W ins w hp hq hw
 rw [if_neg h5]
 rw [if_neg (by rintro (h|h|h)<;>omega)] at hr
 by_cases h6:k=6
 ·rw [if_pos h6] at hr
  simp only [Bool.and_eq_true] at hr
  obtain ⟨p,q,rfl,_,hp,_⟩:=two a a hr.1 hr.1
  rw [Int.toNat_natCast]
  exact Y2B p b n k h1 h2 h3 h4 h5 vw vi W ins w hn0 hp hw
 ·rw [if_neg h6] at hr;cases hr
def Z3u (gs:List Gt) (os:List Int) (ins:List Int):Int:=if Q0U gs os=0 then if ins.length=(Q0E gs).length then 0 else 5 else Q0U gs os
def Z6v (gs:List Gt) (os:List Int) (ins:List Int):List Int:=if Z3u gs os ins=0 then Q0g (Q3P gs os (Q0f ins)) else []
theorem Z0H (ins:List Int) (c:Nat):co (Q0f (ins.drop c)) 0=co (Q0f ins) c:=by
 unfold co Q0f
 simp [List.getD]
theorem Z4c (gs:List Gt) (ins:List Int) {k:Nat} {g:Gt} (h:gs[k]? =some g):(if g.kind=1 then (ins.drop (cin gs k)).drop 1 else ins.drop (cin gs k))=ins.drop (cin gs (k+1)):=by
 rw [Q6O h]
 split
 ·rw [List.drop_drop]
 ·rfl
def Q4f (gs:List Gt) (os:List Int) (I:List F) (k:Nat):List F:=(os.take k).map fun o=>co (cw gs I gs.length) o.toNat
theorem Q7I (gs:List Gt) (os:List Int) (I:List F) {k:Nat} {o:Int} (h:os[k]? =some o):Q0g (Q4f gs os I (k+1))=Q0g (Q4f gs os I k)++ [ofF (co (cw gs I gs.length) o.toNat)]:=by
 unfold Q4f
 rw [List.take_add_one,h]
 simp [Q0g]
theorem Q7J (gs:List Gt) (os:List Int) (I:List F):Q4f gs os I os.length=Q3P gs os I:=by unfold Q4f Q3P;rw [List.take_length]
theorem Y2F (v vi:Value) (gs:List Gt) (os:List Int) (w:World) (h:Q1m w v gs os) (h0:Q0U gs os≠0):
  Calls Tryz.prog 60 #[v,vi] w fun e w'=>Q1o w e w' [] (Q0U gs os):=by
 have KC:=Qh h
 obtain ⟨vg,vo,rfl,hg,ho⟩:=h
 obtain ⟨A1,c1,rfl,hc1,hm1,hl1,hu1,hr1⟩:=hg
 obtain ⟨A2,c2,rfl,hc2,hm2,hl2,hu2,hr2⟩:=ho
 have BB:=Qh ((Below.refl w.heap.size w).alloc (Nat.le_refl _) (.cells #[.slice A1 gs.length c1,.slice A2 os.length c2] 85))
 have hb:(Q0U gs os !=0)=true:=by rw [bne_iff_ne];exact h0
 clear hu1 hr1 hm1 hu2 hr2 hm2 h0
 go_enter Tryz.func60,Tryz.ntmps60
 go_wp2_with fail
 refine (Q2Y _ gs os _ (KC.out.below BB.out)).mono ?_
 rintro e W1 ⟨v,rfl,ho1,hb1⟩
 have B1:=Qh (Q0b BB.out hb1 BB.out.size)
 clear hb1 ho1
 try dsimp only
 go_wp2_with fail
 go_ret2
 exact ⟨_,rfl,Q0c.nil _ _,B1.out⟩
theorem Z9A (v vi:Value) (gs:List Gt) (os ins:List Int) (w:World) (h:Q1m w v gs os) (hi:Q0h w vi ins) (h0:Q0U gs os=0) (hl:ins.length≠(Q0E gs).length):
  Calls Tryz.prog 60 #[v,vi] w fun e w'=>Q1o w e w' [] 5:=by
 have KC:=Qh h
 have HE:=Qh h0
 have HI:=Qh (show Q5L gs os=Q0E gs from if_pos h0)
 obtain ⟨vg,vo,rfl,hg,ho⟩:=h
 obtain ⟨A1,c1,rfl,hc1,hm1,hl1,hu1,hr1⟩:=hg
 obtain ⟨A2,c2,rfl,hc2,hm2,hl2,hu2,hr2⟩:=ho
 obtain ⟨A3,c3,rfl,hc3,hm3,hl3,hu3,hr3⟩:=hi
 have BB:=Qh ((Below.refl w.heap.size w).alloc (Nat.le_refl _) (.cells #[.slice A1 gs.length c1,.slice A2 os.length c2] 85))
 have hb:((ins.length:Int) !=((Q0E gs).length:Int))=true:=by rw [bne_iff_ne];omega
 clear hu1 hr1 hm1 hu2 hr2 hm2 hu3 hr3 hm3 h0 hl
 go_enter Tryz.func60,Tryz.ntmps60
 go_wp2_with fail
 refine (Q2Y _ gs os _ (KC.out.below BB.out)).mono ?_
 rintro e W1 ⟨v,rfl,ho1,hb1⟩
 rw [HI.out] at ho1
 rw [HE.out]
 obtain ⟨Aw,cw',hv,_,_⟩:=Q0k ho1.1
 subst hv
 have B1:=Qh (Q0b BB.out hb1 BB.out.size)
 clear hb1 ho1
 try dsimp only
 go_wp2_with fail
 go_ret2
 exact ⟨_,rfl,Q0c.nil _ _,B1.out⟩
theorem Y4N (v vi:Value) (gs:List Gt) (os ins:List Int) (w:World) (h:Q1m w v gs os) (hi:Q0h w vi ins) (h0:Q0U gs os=0) (hl:ins.length=(Q0E gs).length):
  Calls Tryz.prog 60 #[v,vi] w fun e w'=>Q1o w e w' (Q0g (Q3P gs os (Q0f ins))) 0:=by
 have KC:=Qh h
 have KI:=Qh hi
 have HE:=Qh h0
 have HI:=Qh (show Q5L gs os=Q0E gs from if_pos h0)
 have OK:=Qh (Q0Q.1 h0)
 have HLI:=Qh hl
 obtain ⟨vg,vo,rfl,hg,ho⟩:=h
 have KG:=Qh hg
 have KO:=Qh ho
 obtain ⟨A1,c1,rfl,hc1,hm1,hl1,hu1,hr1⟩:=hg
 obtain ⟨A2,c2,rfl,hc2,hm2,hl2,hu2,hr2⟩:=ho
 obtain ⟨A3,c3,rfl,hc3,hm3,hl3,hu3,hr3⟩:=hi
 have BB:=Qh ((Below.refl w.heap.size w).alloc (Nat.le_refl _) (.cells #[.slice A1 gs.length c1,.slice A2 os.length c2] 85))
 have BX:=Qh (Box.new w 85 [.slice A1 gs.length c1,.slice A2 os.length c2])
 have hb:((ins.length:Int) !=((Q0E gs).length:Int))=false:=by rw [bne_eq_false_iff_eq];omega
 have hg30:=OK.out.g2
 have ho30:=OK.out.o2
 suffices hgoal: ∀Post:Ending->World->Prop,(∀e w',Q1o w e w' (Q0g (Q3P gs os (Q0f ins))) 0->Post e w')->Calls Tryz.prog 60 #[.agg #[.slice A1 gs.length c1,.slice A2 os.length c2],.slice A3 ins.length c3] w Post from hgoal _ fun e w' h=>h
 intro Post hp
 have HP:=Qh hp
 clear hp hu1 hr1 hm1 hu2 hr2 hm2 hu3 hr3 hm3 h0 hl
 go_enter Tryz.func60,Tryz.ntmps60
 go_wp2_with fail
 refine (Q2Y _ gs os _ (KC.out.below BB.out)).mono ?_
 rintro e W1 ⟨v,rfl,ho1,hb1⟩
 rw [HI.out] at ho1
 rw [HE.out]
 obtain ⟨Aw,cw',hv,_,_⟩:=Q0k ho1.1
 subst hv
 have B1:=Qh (Q0b BB.out hb1 BB.out.size)
 have BX1:=Qh (BX.out.below hb1)
 clear hb1 ho1
 try dsimp only
 have hc0:=BX1.out.cell (i:=0) rfl
 go_wp2_with fail
 go_loopw [1,8,34] (fun vi v i wr=> ∃k:Nat,k<=gs.length/\i= .int .i64 k/\Q0c wr W1.heap.size v (Q0g (cw gs (Q0f ins) k))/\Q0h W1 vi (ins.drop (cin gs k))/\Below W1.heap.size W1 wr) (fun _ _ i _=>gs.length - (intOf i).toNat)
 case atStart=>exact ⟨0,Nat.zero_le _,rfl,Q0c.nil _ _,KI.out.below B1.out,Below.refl _ _⟩
 case round=>
  obtain ⟨k,hk,rfl,hown,hin,hbel⟩:=hrel
  have KW:=Qh hown
  have KN:=Qh hin
  have BEL:=Qh hbel
  have hsz:=hbel.size
  have hszw:=B1.out.size
  clear hown hin hbel hc0
  by_cases hlt:k<gs.length
  ·obtain ⟨A,c,hA,_,_,_,hu,hr⟩:=((KG.out.below B1.out).below BEL.out)
   injection hA with hA1 hA2 hA3
   subst hA1 hA3
   obtain ⟨b1',o1,g,rfl,hb1,hgk,hgo,ha1,ha2,ha3,ha4⟩:=Q2V hr hu hlt
   have HGK:=Qh hgk
   have BG:=Qh ((Below.refl wr.heap.size wr).alloc (Nat.le_refl _) (.cells #[.int .i64 g.kind,.int .i64 g.a,.int .i64 g.b,.int .u64 g.n] 133))
   clear hr hu hgk hb1
   go_wp2_with fail
   refine (Z7v g k _ _ (cw gs (Q0f ins) k) (ins.drop (cin gs k)) _ (OK.out.right k g HGK.out) hgo (Q2j _ _ _) ((KW.out.is).below BG.out) ((KN.out.below BEL.out).below BG.out) (fun h1 h2=>by
    have:=Z6m HGK.out h1
    rw [<-HLI.out] at this
    have h3:=congrArg List.length h2
    simp at h3
    omega)).mono ?_
   rintro e W4 ⟨v4,rfl,hn4,hb4⟩
   rw [Z4c gs ins HGK.out] at hn4
   rw [Z0H]
   have K4:=Qh (hn4 _ KN.out)
   have KW4:=Qh ((KW.out.below BG.out).below hb4)
   have B4:=Qh (Q0b (Q0b BEL.out BG.out hsz) hb4 (by have:=BG.out.size;omega))
   have hsz4:=B4.out.size
   clear hn4 hb4
   obtain ⟨x,hx⟩: ∃x,x=Z2C (cw gs (Q0f ins) k) (co (Q0f ins) (cin gs k)) g:=⟨_,rfl⟩
   rw [<-hx]
   have HX:=Qh (show Q0g (cw gs (Q0f ins) (k+1))=Q0g (cw gs (Q0f ins) k)++ [ofF x] by rw [Z2D HGK.out,hx];simp [Q0g])
   clear hx
   obtain ⟨Aq,cq,hvq,_,_,_,_,_⟩:=K4.out
   subst hvq
   try dsimp only
   go_wp2_with (at_builtin;go_loud (refine Q0B rfl _ _ rfl W1.heap.size _ _ (ofF x) W4.heap.size 1 rfl (KW4.out.alloc _) rfl (Q0o _ _ _) (U64.of_ofF _) (by rw [Q0d,Q2j];omega) (by rw [size_alloc];omega) ?_))
   intro v' w5 hown' hbel'
   rw [<-HX.out] at hown'
   have K5:=Qh hown'
   have B5:=Qh ((B4.out.alloc B4.out.size (.cells #[.int .u64 (ofF x)] 67)).trans hbel')
   clear hown' hbel'
   go_wp2_with fail
   have h4:=K4.out
   exact ⟨⟨k+1,by omega,by go_num,K5.out,by rw [List.length_drop] at h4;exact h4,B5.out⟩,by simp [intOf]<;>omega⟩
  ·obtain rfl:k=gs.length:=by omega
   have BX2:=Qh (BX1.out.below BEL.out)
   have hc1':=BX2.out.cell (i:=1) rfl
   have KO2:=Qh ((KO.out.below B1.out).below BEL.out)
   have B2:=Qh (Q0b B1.out BEL.out B1.out.size)
   have hszb:=B2.out.size
   obtain ⟨Av,cv,hv,hcv1,hcv2⟩:=Q0k KW.out.1
   rw [Q0d,Q2j] at hv hcv1
   subst hv
   clear KN BEL
   go_wp2_with fail
   obtain ⟨W2,hW2⟩: ∃W2,W2=wr:=⟨_,rfl⟩
   subst hW2
   go_loopw [13,54] (fun v i wr=> ∃k:Nat,k<=os.length/\i= .int .i64 k/\Q0c wr W2.heap.size v (Q0g (Q4f gs os (Q0f ins) k))/\Below W2.heap.size W2 wr) (fun _ i _=>os.length - (intOf i).toNat)
   case atStart=>exact ⟨0,Nat.zero_le _,rfl,Q0c.nil _ _,Below.refl _ _⟩
   case round=>
    obtain ⟨k,hk,rfl,hown,hbel⟩:=hrel
    have KV:=Qh hown
    have BEL:=Qh hbel
    have hsz2:=hbel.size
    clear hown hbel hc1'
    by_cases hlt2:k<os.length
    ·obtain ⟨A,c,hA,_,_,_,hu,hr⟩:=(KO2.out.below BEL.out)
     injection hA with hA1 hA2 hA3
     subst hA1 hA3
     obtain ⟨b2,o2,z,rfl,hb2,hz,huz,hcz⟩:=ints_at hr hu hlt2
     have hzz:=OK.out.outs z (List.mem_of_getElem? hz)
     obtain ⟨zn,rfl⟩:=Int.eq_ofNat_of_zero_le hzz.1
     have hzl:zn<gs.length:=by omega
     obtain ⟨A,c,hA,_,_,_,hu2,hr2⟩:=(KW.out.is.below BEL.out)
     injection hA with hA1 hA2 hA3
     subst hA1 hA3
     clear hA2
     obtain ⟨b3,o3,y,rfl,hb3,hy,huy,hcy⟩:=Q0O hr2 hu2 (k:=zn) (by rw [Q0d,Q2j];exact hzl)
     have HY:=Qh (show Q0g (Q4f gs os (Q0f ins) (k+1))=Q0g (Q4f gs os (Q0f ins) k)++ [y] by rw [Q7I gs os _ hz,Q6v hy];rfl)
     have hol:(Q0g (Q4f gs os (Q0f ins) k)).length<=30:=by rw [Q0d];unfold Q4f;rw [List.length_map,List.length_take];omega
     have HOL:=Qh hol
     clear hr hu hr2 hu2 hz hy hb2 hb3 hzz hol
     go_wp2_with (at_builtin;go_loud (refine Q0B rfl _ _ rfl W2.heap.size _ _ y wr.heap.size 1 rfl (KV.out.alloc _) rfl (Q0o _ _ _) huy (by have:=HOL.out;omega) (by rw [size_alloc];omega) ?_))
     intro v' w5 hown' hbel'
     rw [<-HY.out] at hown'
     have K5:=Qh hown'
     have B5:=Qh ((BEL.out.alloc hsz2 (.cells #[.int .u64 y] 67)).trans hbel')
     clear hown' hbel'
     go_wp2_with fail
     exact ⟨⟨k+1,by omega,by go_num,K5.out,B5.out⟩,by simp [intOf]<;>omega⟩
    ·obtain rfl:k=os.length:=by omega
     go_wp2_with fail
     have h:=KV.out
     rw [Q7J] at h
     exact HP.out _ _ ⟨_,rfl,h.less hszb,Q0b B2.out BEL.out hszb⟩
theorem Y2G (v vi:Value) (gs:List Gt) (os ins:List Int) (w:World) (h:Q1m w v gs os) (hi:Q0h w vi ins):
  Calls Tryz.prog 60 #[v,vi] w fun e w'=>Q1o w e w' (Z6v gs os ins) (Z3u gs os ins):=by
 by_cases h0:Q0U gs os=0
 ·by_cases hl:ins.length=(Q0E gs).length
  ·have e:Z3u gs os ins=0:=by unfold Z3u;rw [if_pos h0,if_pos hl]
   rw [e,show Z6v gs os ins=Q0g (Q3P gs os (Q0f ins)) from if_pos e]
   exact Y4N v vi gs os ins w h hi h0 hl
  ·have e:Z3u gs os ins=5:=by unfold Z3u;rw [if_pos h0,if_neg hl]
   rw [e,show Z6v gs os ins= [] from if_neg (by omega)]
   exact Z9A v vi gs os ins w h hi h0 hl
 ·have e:Z3u gs os ins=Q0U gs os:=by unfold Z3u;rw [if_neg h0]
  rw [e,show Z6v gs os ins= [] from if_neg (by rw [e];exact h0)]
  exact Y2F v vi gs os w h h0
theorem Z9B {w:World} {b:Nat} {t:TypeId} {cs:List Value} (h:Box w b t cs):Cells w (some ⟨b,0,none⟩) cs:=by
 refine .inr ⟨b,0,rfl,h.lt,fun j hj=> ?_⟩
 rw [Nat.zero_add,List.getElem?_eq_getElem hj]
 exact h.cell (List.getElem?_eq_getElem hj)
theorem Y2H (w:World) (zs:List Int) (h: ∀z∈zs,I64 z) (hl:zs.length<=1000):Q0y (w.alloc (.cells (Q8M zs).toArray 3)) (.slice (some ⟨w.heap.size,0,none⟩) zs.length zs.length) zs:=
 ⟨_,_,rfl,Nat.le_refl _,by unfold maxLen;omega,by omega,h,Z9B (Box.new _ _ _)⟩
end Go.Proofs.YtploomncapiloaaGreatDoor
