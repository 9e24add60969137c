/- Parts of the proof, put together by a program: DeskS BenK. No condition. -/
import Derived.Test.YtploomncapiloaaGreatDoorSBF
set_option maxRecDepth 100000
set_option maxHeartbeats 8000000
namespace Go.Proofs.YtploomncapiloaaGreatDoor
open Go.RowKit Go.Sort Go.PlainAid Croft
theorem Q5u (va:Value) (zs:List Int) (E:Int) (w:World) (h1:Q0h w va zs) (hl:zs.length<=1000000) (h0:0<=E) (hE1:E<=1000) (htab:Lib.TabIs Tryz.prog w "internal/strconv.uint64pow10" .u64 Lib.pow10Tab):
  Calls Tryz.prog 36 #[va,.int .i64 E] w fun e w'=>e= .returned (.string (bs (Q2G zs E)))/\Below w.heap.size w w':=by
 have KS:=Qh h1
 have HT:=Qh htab
 have CF:=Qh (Q1L E w h0 hE1 htab)
 obtain ⟨A1,c1,rfl,hc1,hm1,hl1,hi1,hr1⟩:=h1
 suffices hgoal: ∀Post:Ending->World->Prop,(∀w',Below w.heap.size w w'->Post (.returned (.string (bs (Q2G zs E)))) w')->Calls Tryz.prog 36 #[.slice A1 zs.length c1,.int .i64 E] w Post from hgoal _ fun w' h1=>⟨rfl,h1⟩
 intro Post hpo
 have HP:=Qh hpo
 clear hm1 hpo hr1 hi1 htab
 by_cases hE:E=0
 ·subst hE
  have HTD:=Qh (show Q2G zs 0=Q1A (zs.map Q3y) from if_pos rfl)
  go_enter Tryz.func36,Tryz.ntmps36
  go_wp2_with fail
  go_loopw [5,6] (fun v i wr=> ∃k:Nat,k<=zs.length/\i= .int .i64 k/\v= .string (bs (Q1A ((zs.take k).map Q3y)))/\Below w.heap.size w wr) (fun _ i _=>zs.length - (intOf i).toNat)
  case atStart=>exact ⟨0,Nat.zero_le _,rfl,rfl,Below.refl _ _⟩
  case round=>
   obtain ⟨k,hk,rfl,rfl,hbel⟩:=hrel
   have BEL:=Qh hbel
   have hs1:=hbel.size
   clear hbel
   by_cases hlt:k<zs.length
   ·obtain ⟨A,c,hA,_,_,_,hi,hr⟩:=KS.out.below BEL.out
    injection hA with hA1 hA2 hA3
    subst hA1 hA3
    obtain ⟨b1,o1,z,rfl,hb1,hz,hzu,hcz⟩:=Q0O hr hi hlt
    have hjl:=Q8l 20 ((zs.take k).map Q3y) (fun x hx=>by
     obtain ⟨y,hy,rfl⟩:=List.mem_map.1 hx
     exact Q1c y (by have:=(KS.out.u64 y (List.mem_of_mem_take hy)).2;omega))
    rw [List.length_map,List.length_take,Nat.min_eq_left (by omega)] at hjl
    have hnl:=Q1c z (by have:=hzu.2;omega)
    have HNX:=Qh (show Q1A ((zs.take (k+1)).map Q3y)=if k=0 then Q3y z else Q1A ((zs.take k).map Q3y)++32::Q3y z by
     rw [List.take_add_one,hz,List.map_append]
     by_cases q:k=0
     ·subst q;rfl
     ·rw [if_neg q]
      exact Z2b _ _ (by
       intro e
       have h:=congrArg List.length e
       rw [List.length_map,List.length_take,Nat.min_eq_left (by omega)] at h
       exact q h))
    have CFM:=Qh (Z5f z wr hzu.1 hzu.2 (Q0M HT.out BEL.out))
    obtain ⟨sz,hsz⟩: ∃sz,sz=bs (Q3y z):=⟨_,rfl⟩
    obtain ⟨so,hso⟩: ∃so,so=bs (Q1A ((zs.take k).map Q3y)):=⟨_,rfl⟩
    have hzz:sz.size<=20:=by rw [hsz,Q0q];exact hnl
    have hzo:so.size<=21000000:=by rw [hso,Q0q];omega
    have HSZ:=Qh hsz
    have HSO:=Qh hso
    rw [<-hsz] at CFM
    rw [<-hso]
    clear hr hi hb1 hz hA2 hzu hsz hso hjl hnl
    by_cases hk0:k=0
    ·subst hk0
     rw [Nat.add_zero] at hcz
     have HN:=Qh (show so++sz=bs (Q1A ((zs.take (0+1)).map Q3y)) by rw [HNX.out,if_pos rfl,HSO.out,HSZ.out];exact Q0p [] _)
     go_wp2_with fail
     refine CFM.out.mono ?_
     rintro e W2 ⟨rfl,q,os,hw2⟩
     have B2:=Qh (Q0b BEL.out (show Below wr.heap.size wr W2 by rw [hw2];exact below_grow wr q os) hs1)
     clear hw2 hcz
     try dsimp only
     go_wp2_with fail
     exact ⟨⟨1,by omega,rfl,congrArg Value.string HN.out,B2.out⟩,by simp [intOf]<;>omega⟩
    ·have HN:=Qh (show so++⟨#[32]⟩++sz=bs (Q1A ((zs.take (k+1)).map Q3y)) by
      rw [HNX.out,if_neg hk0,HSO.out,HSZ.out]
      show bs _++bs [32]++bs _=_
      rw [Q0p,Q0p];simp)
     obtain ⟨s1,hs1'⟩: ∃s1,s1=so++(⟨#[32]⟩:ByteArray):=⟨_,rfl⟩
     have hz1:s1.size<=21000001:=by rw [hs1',ByteArray.size_append];have:(⟨#[32]⟩:ByteArray).size=1:=rfl;omega
     have t1: ∀W,(Op.stringOp .add so ⟨#[32]⟩).run Tryz.prog W= .ok (.string s1) W:=fun W=>by
      rw [hs1'];exact run_string_add_sum W so _ (by have:(⟨#[32]⟩:ByteArray).size=1:=rfl;omega)
     rw [<-hs1'] at HN
     clear hs1'
     go_wp2_with fail
     refine CFM.out.mono ?_
     rintro e W2 ⟨rfl,q,os,hw2⟩
     have B2:=Qh (Q0b BEL.out (show Below wr.heap.size wr W2 by rw [hw2];exact below_grow wr q os) hs1)
     clear hw2 hcz
     try dsimp only
     go_wp2_with fail
     exact ⟨⟨k+1,by omega,by go_num,congrArg Value.string HN.out,B2.out⟩,by simp [intOf]<;>omega⟩
   ·obtain rfl:k=zs.length:=by omega
    rw [show zs.take zs.length=zs from List.take_length,<-HTD.out]
    go_wp2_with fail
    exact HP.out _ BEL.out
 ·have HTD:=Qh (show Q2G zs E=Q2h E from if_neg hE)
  have hb:(E !=0)=true:=by rw [bne_iff_ne];exact hE
  rw [<-HTD.out] at CF
  clear hE
  go_enter Tryz.func36,Tryz.ntmps36
  go_wp2_with fail
  refine CF.out.mono ?_
  rintro e w' ⟨rfl,hb⟩
  try dsimp only
  go_wp2_with fail
  exact HP.out _ hb
theorem Q8C (h E:Int) (w:World) (hh0:0<=h) (hh1:h<=9223372036854775807) (h0:0<=E) (h1:E<=1000) (htab:Lib.TabIs Tryz.prog w "internal/strconv.uint64pow10" .u64 Lib.pow10Tab):
  Calls Tryz.prog 90 #[.int .i64 h,.int .i64 E] w fun e w'=>e= .returned (.string (bs (Q2G [h] E)))/\Below w.heap.size w w':=by
 have hwz:IntKind.u64.wrap h=h:=u64_nonneg hh0 (by omega)
 have BA:=Qh ((Below.refl w.heap.size w).alloc (Nat.le_refl _) (.cells #[.int .u64 h] 67))
 have KN:=Qh (Q9Q w [h] (by intro z hz;simp only [List.mem_singleton] at hz;subst hz;exact ⟨by omega,by omega⟩) (by simp))
 have CT:=Qh (Q5u _ [h] E _ KN.out (by simp) h0 h1 (Q0M htab BA.out))
 clear htab
 go_enter Tryz.func90,Tryz.ntmps90
 go_wp2_with fail
 refine CT.out.mono ?_
 rintro e w' ⟨rfl,hb⟩
 have B2:=Qh (Q0b BA.out hb BA.out.size)
 clear hb
 try dsimp only
 go_wp2_with fail
 go_ret
 exact ⟨rfl,B2.out⟩
structure Q7S (w:World) (base db kb mb lo:Nat) (tx:List UInt8) (k:Q1J) (va:Value) (n:List Int):Prop where
 box:Box w db 47 [.string (bs tx),.pointer (some ⟨kb,0,none⟩)]
 keys:RI base kb mb w k
 ok:k.Ok 1000
 own:Q0j w lo va n
 nn: ∀z∈n,0<=z
 lay:Z1t base w
 p1:kb<lo
 p2:mb<lo
 pd:db<base
section
variable {base db kb mb lo:Nat} {tx:List UInt8}
theorem Q7S.bk {w:World} {k:Q1J} {va:Value} {n:List Int} (h:Q7S w base db kb mb lo tx k va n):base<=kb:=by
 obtain ⟨V,hk⟩:=h.keys;exact hk.le
theorem Q7S.bm {w:World} {k:Q1J} {va:Value} {n:List Int} (h:Q7S w base db kb mb lo tx k va n):base<=mb:=by
 obtain ⟨V,hk⟩:=h.keys;exact hk.store.le
theorem Q7S.bw {w:World} {k:Q1J} {va:Value} {n:List Int} (h:Q7S w base db kb mb lo tx k va n):base<=w.heap.size:=by
 obtain ⟨V,hk⟩:=h.keys;have:=hk.le;have:=hk.lt;omega
def Z4F (base kb mb:Nat) (r:List UInt8×Q1J) (w:World) (e:Ending) (w':World):Prop:=e= .returned (.string (bs r.1))/\RI base kb mb w' r.2/\Q1F kb mb w w'
theorem Y0N (n:List Int) (k:Q1J) (va:Value) (w:World) (H:Q7S w base db kb mb lo tx k va (n)):
  Calls Tryz.prog 43 #[.pointer (some ⟨db,0,none⟩),.string (bs Y0q),va] w fun e w'=>Z4F base kb mb (Z5P n k) w e w':=by
 have HL:=Qh H.lay
 have HK:=Qh H.keys
 have HO:=Qh H.ok
 have H0:=Qh (And.intro H.bk (And.intro H.bm H.bw))
 have hnn:=H.nn
 obtain ⟨sv,hsv⟩: ∃sv,sv=bs Y0q:=⟨_,rfl⟩
 have t_Gen:(sv.toList== [103,101,110])=true:=by rw [hsv,Q0a];rfl
 rw [<-hsv]
 clear hsv
 have k_0:=H.box.cell (i:=1) rfl
 have l_d:=H.box.lt
 have e_d1:db≠kb:=by have:=H.bk;have:=H.pd;omega
 have e_d2:db≠mb:=by have:=H.bm;have:=H.pd;omega
 have hcf: ∀(x y:Value) (W:World),(callFunc 90 #[x,y]).run Tryz.prog W= .ok (.enter 90 #[x,y]) W:=fun x y W=>by kernel_rfl
 obtain ⟨A3,c3,hv,_⟩:=Q0k H.own.1
 obtain ⟨N,hN⟩: ∃N,N=n.length:=⟨_,rfl⟩
 rw [<-hN] at hv
 subst hv
 have KN:=Qh H.own.is
 suffices hgoal: ∀Post:Ending->World->Prop,(∀w',RI base kb mb w' (Z5P n k).2->Q1F kb mb w w'->Post (.returned (.string (bs (Z5P n k).1))) w')->Calls Tryz.prog 43 #[.pointer (some ⟨db,0,none⟩),.string sv,.slice A3 N c3] w Post from hgoal _ fun w' h1 h2=>⟨rfl,h1,h2⟩
 intro Post hpo
 have HP:=Qh hpo
 have CW:=Qh (fun q=>Q4B _ n (w.drewN q) (KN.out.drewN q) hnn)
 clear hpo H hnn hN
 go_enter Tryz.func43,Tryz.ntmps43
 go_wp2_with fail
 go_region_held3 (fun w'=>w'.cell? ⟨db,1,none⟩=some (.pointer (some ⟨kb,0,none⟩))) (go_keep) (first|(go_at_call 38;refine (CW.out _).mono ?_;rintro e W1 ⟨vw,rfl,ho,hb⟩;have N1:=Qh (Q1F.of_below (kb:=kb) (mb:=mb) ((below_drewN (Below.refl w.heap.size w) _).trans hb));have D1:=Qh ((below_drewN (Below.refl w.heap.size w) _).trans hb);have q1_0:=(Q0e (p:=⟨db,1,none⟩) N1.out l_d e_d1 e_d2).trans k_0;have CK:=Qh (Y3t _ n W1 (HK.out.below D1.out) ho.is HO.out);clear ho hb CW)|(go_at_call 91;refine (CK.out).mono ?_;rintro e W2 ⟨z,E,rfl,hr,hz,hE,hk,hn⟩;have N2:=Qh (N1.out.trans hn);have q2_0:=(Q0e (p:=⟨db,1,none⟩) N2.out l_d e_d1 e_d2).trans k_0;have HR:=Qh hr;have HZ:=Qh hk;have CT:=Qh (Q8C z E W2 hz.1 hz.2 hE.1 hE.2 (HL.out.low (N2.out.low H0.out.1 H0.out.2.1 H0.out.2.2)).lay.2.1);clear hr hk hn CK q1_0)|(go_at_call 90;refine (CT.out).mono ?_;rintro e W3 ⟨rfl,hb⟩;have N3:=Qh (N2.out.below hb);have q3_0:=(Q0e (p:=⟨db,1,none⟩) N3.out l_d e_d1 e_d2).trans k_0;have HZ2:=Qh (HZ.out.below hb);clear hb CT q2_0))
 go_wp2_with fail
 have hp:=HP.out W3 HZ2.out N3.out
 rw [HR.out] at hp
 exact hp
theorem Y0O (z0:Int) (r:List Int) (k:Q1J) (va:Value) (w:World) (H:Q7S w base db kb mb lo tx k va (z0::r)):
  Calls Tryz.prog 43 #[.pointer (some ⟨db,0,none⟩),.string (bs Q3s),va] w fun e w'=>Z4F base kb mb (Q1v z0 r k) w e w':=by
 have HL:=Qh H.lay
 have HK:=Qh H.keys
 have HO:=Qh H.ok
 have H0:=Qh (And.intro H.bk (And.intro H.bm H.bw))
 have hnn:=H.nn
 obtain ⟨sv,hsv⟩: ∃sv,sv=bs Q3s:=⟨_,rfl⟩
 have t_Gen:(sv.toList== [103,101,110])=false:=by rw [hsv,Q0a];decide
 have t_Refresh:(sv.toList== [114,101,102,114,101,115,104])=true:=by rw [hsv,Q0a];rfl
 rw [<-hsv]
 clear hsv
 have k_0:=H.box.cell (i:=1) rfl
 have l_d:=H.box.lt
 have e_d1:db≠kb:=by have:=H.bk;have:=H.pd;omega
 have e_d2:db≠mb:=by have:=H.bm;have:=H.pd;omega
 have hcf: ∀(x y:Value) (W:World),(callFunc 90 #[x,y]).run Tryz.prog W= .ok (.enter 90 #[x,y]) W:=fun x y W=>by kernel_rfl
 obtain ⟨b3,c3,hv,hb3,l_b,hcell⟩:=Q1E H.own (by simp)
 obtain ⟨N,hN⟩: ∃N,N=(z0::r).length:=⟨_,rfl⟩
 have hN1:N>=1:=by simp [hN]
 have hJ0:0<N:=by omega
 have hI0:(0:Int)<(N:Int):=by omega
 have hNc:N<=c3:=by have:=H.own.is;obtain ⟨A,c,e1,e2,_⟩:=this;rw [hv] at e1;injection e1 with _ _ e1;omega
 rw [<-hN] at hv
 subst hv
 have e_b1:b3≠kb:=by have:=H.p1;omega
 have e_b2:b3≠mb:=by have:=H.p2;omega
 have k_1:=hcell 0 z0 rfl
 have i_0:=H.own.2.2 z0 (by simp)
 have p_0:=H.nn z0 (by simp)
 have hwz0:IntKind.u64.wrap z0=z0:=u64_nonneg p_0 (by have:=i_0.2;omega)
 have u_0:U64 z0:=⟨p_0,by have:=i_0.2;omega⟩
 have hcut:=Q4A (lo:=1) (show Q0y w (.slice (some ⟨b3,0,none⟩) (z0::r).length c3) (z0::r) by rw [<-hN];exact H.own.is) (by simp)
 rw [<-hN] at hcut
 have hs1:=Q2A (some ⟨b3,0,none⟩) N c3 1 1 rfl (by omega)
 have hs2:=Q2B (some ⟨b3,0,none⟩) N c3 1 1 rfl (by omega)
 obtain ⟨vt,hvt⟩: ∃vt,vt=Value.slice (if c3=1 then some ⟨b3,0,none⟩ else (some (⟨b3,0,none⟩:Addr)).map (·.add (1 * 1))) (N - 1) (c3 - 1):=⟨_,rfl⟩
 rw [<-hvt] at hcut hs1 hs2
 have KN:=Qh hcut
 have hr0: ∀z∈r,0<=z:=fun z hz=>hnn z (by simp [hz])
 clear hcut hvt
 suffices hgoal: ∀Post:Ending->World->Prop,(∀w',RI base kb mb w' (Q1v z0 r k).2->Q1F kb mb w w'->Post (.returned (.string (bs (Q1v z0 r k).1))) w')->Calls Tryz.prog 43 #[.pointer (some ⟨db,0,none⟩),.string sv,.slice (some ⟨b3,0,none⟩) N c3] w Post from hgoal _ fun w' h1 h2=>⟨rfl,h1,h2⟩
 intro Post hpo
 have HP:=Qh hpo
 have CW:=Qh (fun q=>Q4B _ r (w.drewN q) (KN.out.drewN q) hr0)
 clear hpo H hnn hcell hb3 hN
 go_enter Tryz.func43,Tryz.ntmps43
 go_wp2_with fail
 go_region_held3 (fun w'=>w'.cell? ⟨db,1,none⟩=some (.pointer (some ⟨kb,0,none⟩))/\w'.cell? ⟨b3,0,none⟩=some (.int .i64 z0)) (go_keep) (first|(go_at_call 38;refine (CW.out _).mono ?_;rintro e W1 ⟨vw,rfl,ho,hb⟩;have N1:=Qh (Q1F.of_below (kb:=kb) (mb:=mb) ((below_drewN (Below.refl w.heap.size w) _).trans hb));have D1:=Qh ((below_drewN (Below.refl w.heap.size w) _).trans hb);have q1_0:=(Q0e (p:=⟨db,1,none⟩) N1.out l_d e_d1 e_d2).trans k_0;have q1_1:=(Q0e (p:=⟨b3,0,none⟩) N1.out l_b e_b1 e_b2).trans k_1;have CK:=Qh (Z4A z0 _ r W1 (HK.out.below D1.out) i_0 ho.is HO.out);clear ho hb CW)|(go_at_call 93;refine (CK.out).mono ?_;rintro e W2 ⟨E,rfl,hr,hE,hk,hn⟩;have N2:=Qh (N1.out.trans hn);have q2_0:=(Q0e (p:=⟨db,1,none⟩) N2.out l_d e_d1 e_d2).trans k_0;have q2_1:=(Q0e (p:=⟨b3,0,none⟩) N2.out l_b e_b1 e_b2).trans k_1;have HR:=Qh hr;have HZ:=Qh hk;have CT:=Qh (Z4E E W2 hE.1 hE.2 (HL.out.low (N2.out.low H0.out.1 H0.out.2.1 H0.out.2.2)).lay.2.1);clear hr hk hn CK q1_0 q1_1)|(go_at_call 92;refine (CT.out).mono ?_;rintro e W3 ⟨rfl,hb⟩;have N3:=Qh (N2.out.below hb);have q3_0:=(Q0e (p:=⟨db,1,none⟩) N3.out l_d e_d1 e_d2).trans k_0;have q3_1:=(Q0e (p:=⟨b3,0,none⟩) N3.out l_b e_b1 e_b2).trans k_1;have HZ2:=Qh (HZ.out.below hb);clear hb CT q2_0 q2_1))
 go_wp2_with fail
 have hp:=HP.out W3 HZ2.out N3.out
 rw [HR.out] at hp
 exact hp
theorem Y0P (z0 z1:Int) (k:Q1J) (va:Value) (w:World) (H:Q7S w base db kb mb lo tx k va ([z0,z1])):
  Calls Tryz.prog 43 #[.pointer (some ⟨db,0,none⟩),.string (bs Q6E),va] w fun e w'=>Z4F base kb mb (Q3u z0 z1 k) w e w':=by
 have HL:=Qh H.lay
 have HK:=Qh H.keys
 have HO:=Qh H.ok
 have H0:=Qh (And.intro H.bk (And.intro H.bm H.bw))
 have hnn:=H.nn
 obtain ⟨sv,hsv⟩: ∃sv,sv=bs Q6E:=⟨_,rfl⟩
 have t_Gen:(sv.toList== [103,101,110])=false:=by rw [hsv,Q0a];decide
 have t_Refresh:(sv.toList== [114,101,102,114,101,115,104])=false:=by rw [hsv,Q0a];decide
 have t_Tweak:(sv.toList== [116,119,101,97,107])=true:=by rw [hsv,Q0a];rfl
 rw [<-hsv]
 clear hsv
 have k_0:=H.box.cell (i:=1) rfl
 have l_d:=H.box.lt
 have e_d1:db≠kb:=by have:=H.bk;have:=H.pd;omega
 have e_d2:db≠mb:=by have:=H.bm;have:=H.pd;omega
 have hcf: ∀(x y:Value) (W:World),(callFunc 90 #[x,y]).run Tryz.prog W= .ok (.enter 90 #[x,y]) W:=fun x y W=>by kernel_rfl
 obtain ⟨b3,c3,hv,hb3,l_b,hcell⟩:=Q1E H.own (by simp)
 obtain ⟨N,hN⟩: ∃N,N=([z0,z1]).length:=⟨_,rfl⟩
 have hN1:N>=2:=by simp [hN]
 have hNc:N<=c3:=by have:=H.own.is;obtain ⟨A,c,e1,e2,_⟩:=this;rw [hv] at e1;injection e1 with _ _ e1;omega
 rw [<-hN] at hv
 subst hv
 have hN2:N=2:=by rw [hN];rfl
 clear hN hN1
 subst hN2
 have e_b1:b3≠kb:=by have:=H.p1;omega
 have e_b2:b3≠mb:=by have:=H.p2;omega
 have k_1:=hcell 0 z0 rfl
 have i_0:=H.own.2.2 z0 (by simp)
 have p_0:=H.nn z0 (by simp)
 have hwz0:IntKind.u64.wrap z0=z0:=u64_nonneg p_0 (by have:=i_0.2;omega)
 have u_0:U64 z0:=⟨p_0,by have:=i_0.2;omega⟩
 have k_2:=hcell 1 z1 rfl
 have i_1:=H.own.2.2 z1 (by simp)
 have p_1:=H.nn z1 (by simp)
 have hwz1:IntKind.u64.wrap z1=z1:=u64_nonneg p_1 (by have:=i_1.2;omega)
 have u_1:U64 z1:=⟨p_1,by have:=i_1.2;omega⟩
 suffices hgoal: ∀Post:Ending->World->Prop,(∀w',RI base kb mb w' (Q3u z0 z1 k).2->Q1F kb mb w w'->Post (.returned (.string (bs (Q3u z0 z1 k).1))) w')->Calls Tryz.prog 43 #[.pointer (some ⟨db,0,none⟩),.string sv,.slice (some ⟨b3,0,none⟩) 2 c3] w Post from hgoal _ fun w' h1 h2=>⟨rfl,h1,h2⟩
 intro Post hpo
 have HP:=Qh hpo
 have CK:=Qh (fun q=>Z7Y z0 z1 (w.drewN q) (HK.out.below (below_drewN (Below.refl _ _) q)) i_0 u_1 HO.out)
 clear hpo H hnn hcell hb3
 go_enter Tryz.func43,Tryz.ntmps43
 go_wp2_with fail
 go_region_held3 (fun w'=>w'.cell? ⟨db,1,none⟩=some (.pointer (some ⟨kb,0,none⟩))/\w'.cell? ⟨b3,0,none⟩=some (.int .i64 z0)/\w'.cell? ⟨b3,1,none⟩=some (.int .i64 z1)) (go_keep) (first|(go_at_call 94;refine (CK.out _).mono ?_;rintro e W1 ⟨z,E,rfl,hr,hz,hE,hk,hn⟩;have N1:=Qh (Q1F.undrew hn);have q1_0:=(Q0e (p:=⟨db,1,none⟩) N1.out l_d e_d1 e_d2).trans k_0;have q1_1:=(Q0e (p:=⟨b3,0,none⟩) N1.out l_b e_b1 e_b2).trans k_1;have q1_2:=(Q0e (p:=⟨b3,1,none⟩) N1.out l_b e_b1 e_b2).trans k_2;have HR:=Qh hr;have HZ:=Qh hk;have CT:=Qh (Q8C z E W1 hz.1 hz.2 hE.1 hE.2 (HL.out.low (N1.out.low H0.out.1 H0.out.2.1 H0.out.2.2)).lay.2.1);clear hr hk hn CK)|(go_at_call 90;refine (CT.out).mono ?_;rintro e W2 ⟨rfl,hb⟩;have N2:=Qh (N1.out.below hb);have q2_0:=(Q0e (p:=⟨db,1,none⟩) N2.out l_d e_d1 e_d2).trans k_0;have q2_1:=(Q0e (p:=⟨b3,0,none⟩) N2.out l_b e_b1 e_b2).trans k_1;have q2_2:=(Q0e (p:=⟨b3,1,none⟩) N2.out l_b e_b1 e_b2).trans k_2;have HZ2:=Qh (HZ.out.below hb);clear hb CT q1_0 q1_1 q1_2))
 go_wp2_with fail
 have hp:=HP.out W2 HZ2.out N2.out
 rw [HR.out] at hp
 exact hp
theorem Y0Q (z0 z1 z2 z3:Int) (k:Q1J) (va:Value) (w:World) (H:Q7S w base db kb mb lo tx k va ([z0,z1,z2,z3])):
  Calls Tryz.prog 43 #[.pointer (some ⟨db,0,none⟩),.string (bs Q3t),va] w fun e w'=>Z4F base kb mb (Q1w z0 z1 z2 z3 k) w e w':=by
 have HL:=Qh H.lay
 have HK:=Qh H.keys
 have HO:=Qh H.ok
 have H0:=Qh (And.intro H.bk (And.intro H.bm H.bw))
 have hnn:=H.nn
 obtain ⟨sv,hsv⟩: ∃sv,sv=bs Q3t:=⟨_,rfl⟩
 have t_Gen:(sv.toList== [103,101,110])=false:=by rw [hsv,Q0a];decide
 have t_Refresh:(sv.toList== [114,101,102,114,101,115,104])=false:=by rw [hsv,Q0a];decide
 have t_Tweak:(sv.toList== [116,119,101,97,107])=false:=by rw [hsv,Q0a];decide
 have t_Combine:(sv.toList== [99,111,109,98,105,110,101])=true:=by rw [hsv,Q0a];rfl
 rw [<-hsv]
 clear hsv
 have k_0:=H.box.cell (i:=1) rfl
 have l_d:=H.box.lt
 have e_d1:db≠kb:=by have:=H.bk;have:=H.pd;omega
 have e_d2:db≠mb:=by have:=H.bm;have:=H.pd;omega
 have hcf: ∀(x y:Value) (W:World),(callFunc 90 #[x,y]).run Tryz.prog W= .ok (.enter 90 #[x,y]) W:=fun x y W=>by kernel_rfl
 obtain ⟨b3,c3,hv,hb3,l_b,hcell⟩:=Q1E H.own (by simp)
 obtain ⟨N,hN⟩: ∃N,N=([z0,z1,z2,z3]).length:=⟨_,rfl⟩
 have hN1:N>=4:=by simp [hN]
 have hNc:N<=c3:=by have:=H.own.is;obtain ⟨A,c,e1,e2,_⟩:=this;rw [hv] at e1;injection e1 with _ _ e1;omega
 rw [<-hN] at hv
 subst hv
 have hN2:N=4:=by rw [hN];rfl
 clear hN hN1
 subst hN2
 have e_b1:b3≠kb:=by have:=H.p1;omega
 have e_b2:b3≠mb:=by have:=H.p2;omega
 have k_1:=hcell 0 z0 rfl
 have i_0:=H.own.2.2 z0 (by simp)
 have p_0:=H.nn z0 (by simp)
 have hwz0:IntKind.u64.wrap z0=z0:=u64_nonneg p_0 (by have:=i_0.2;omega)
 have u_0:U64 z0:=⟨p_0,by have:=i_0.2;omega⟩
 have k_2:=hcell 1 z1 rfl
 have i_1:=H.own.2.2 z1 (by simp)
 have p_1:=H.nn z1 (by simp)
 have hwz1:IntKind.u64.wrap z1=z1:=u64_nonneg p_1 (by have:=i_1.2;omega)
 have u_1:U64 z1:=⟨p_1,by have:=i_1.2;omega⟩
 have k_3:=hcell 2 z2 rfl
 have i_2:=H.own.2.2 z2 (by simp)
 have p_2:=H.nn z2 (by simp)
 have hwz2:IntKind.u64.wrap z2=z2:=u64_nonneg p_2 (by have:=i_2.2;omega)
 have u_2:U64 z2:=⟨p_2,by have:=i_2.2;omega⟩
 have k_4:=hcell 3 z3 rfl
 have i_3:=H.own.2.2 z3 (by simp)
 have p_3:=H.nn z3 (by simp)
 have hwz3:IntKind.u64.wrap z3=z3:=u64_nonneg p_3 (by have:=i_3.2;omega)
 have u_3:U64 z3:=⟨p_3,by have:=i_3.2;omega⟩
 suffices hgoal: ∀Post:Ending->World->Prop,(∀w',RI base kb mb w' (Q1w z0 z1 z2 z3 k).2->Q1F kb mb w w'->Post (.returned (.string (bs (Q1w z0 z1 z2 z3 k).1))) w')->Calls Tryz.prog 43 #[.pointer (some ⟨db,0,none⟩),.string sv,.slice (some ⟨b3,0,none⟩) 4 c3] w Post from hgoal _ fun w' h1 h2=>⟨rfl,h1,h2⟩
 intro Post hpo
 have HP:=Qh hpo
 have CK:=Qh (fun q=>Z4B z0 z1 z2 z3 (w.drewN q) (HK.out.below (below_drewN (Below.refl _ _) q)) i_0 i_1 u_2 u_3 HO.out)
 clear hpo H hnn hcell hb3
 go_enter Tryz.func43,Tryz.ntmps43
 go_wp2_with fail
 go_region_held3 (fun w'=>w'.cell? ⟨db,1,none⟩=some (.pointer (some ⟨kb,0,none⟩))/\w'.cell? ⟨b3,0,none⟩=some (.int .i64 z0)/\w'.cell? ⟨b3,1,none⟩=some (.int .i64 z1)/\w'.cell? ⟨b3,2,none⟩=some (.int .i64 z2)/\w'.cell? ⟨b3,3,none⟩=some (.int .i64 z3)) (go_keep) (first|(go_at_call 94;refine (CK.out _).mono ?_;rintro e W1 ⟨z,E,rfl,hr,hz,hE,hk,hn⟩;have N1:=Qh (Q1F.undrew hn);have q1_0:=(Q0e (p:=⟨db,1,none⟩) N1.out l_d e_d1 e_d2).trans k_0;have q1_1:=(Q0e (p:=⟨b3,0,none⟩) N1.out l_b e_b1 e_b2).trans k_1;have q1_2:=(Q0e (p:=⟨b3,1,none⟩) N1.out l_b e_b1 e_b2).trans k_2;have q1_3:=(Q0e (p:=⟨b3,2,none⟩) N1.out l_b e_b1 e_b2).trans k_3;have q1_4:=(Q0e (p:=⟨b3,3,none⟩) N1.out l_b e_b1 e_b2).trans k_4;have HR:=Qh hr;have HZ:=Qh hk;have CT:=Qh (Q8C z E W1 hz.1 hz.2 hE.1 hE.2 (HL.out.low (N1.out.low H0.out.1 H0.out.2.1 H0.out.2.2)).lay.2.1);clear hr hk hn CK)|(go_at_call 90;refine (CT.out).mono ?_;rintro e W2 ⟨rfl,hb⟩;have N2:=Qh (N1.out.below hb);have q2_0:=(Q0e (p:=⟨db,1,none⟩) N2.out l_d e_d1 e_d2).trans k_0;have q2_1:=(Q0e (p:=⟨b3,0,none⟩) N2.out l_b e_b1 e_b2).trans k_1;have q2_2:=(Q0e (p:=⟨b3,1,none⟩) N2.out l_b e_b1 e_b2).trans k_2;have q2_3:=(Q0e (p:=⟨b3,2,none⟩) N2.out l_b e_b1 e_b2).trans k_3;have q2_4:=(Q0e (p:=⟨b3,3,none⟩) N2.out l_b e_b1 e_b2).trans k_4;have HZ2:=Qh (HZ.out.below hb);clear hb CT q1_0 q1_1 q1_2 q1_3 q1_4))
 go_wp2_with fail
 have hp:=HP.out W2 HZ2.out N2.out
 rw [HR.out] at hp
 exact hp
theorem Y0R (z0 z1:Int) (r:List Int) (k:Q1J) (va:Value) (w:World) (H:Q7S w base db kb mb lo tx k va (z0::z1::r)):
  Calls Tryz.prog 43 #[.pointer (some ⟨db,0,none⟩),.string (bs Q2z),va] w fun e w'=>Z4F base kb mb (Q0Z z0 z1 r k) w e w':=by
 have HL:=Qh H.lay
 have HK:=Qh H.keys
 have HO:=Qh H.ok
 have H0:=Qh (And.intro H.bk (And.intro H.bm H.bw))
 have hnn:=H.nn
 obtain ⟨sv,hsv⟩: ∃sv,sv=bs Q2z:=⟨_,rfl⟩
 have t_Gen:(sv.toList== [103,101,110])=false:=by rw [hsv,Q0a];decide
 have t_Refresh:(sv.toList== [114,101,102,114,101,115,104])=false:=by rw [hsv,Q0a];decide
 have t_Tweak:(sv.toList== [116,119,101,97,107])=false:=by rw [hsv,Q0a];decide
 have t_Combine:(sv.toList== [99,111,109,98,105,110,101])=false:=by rw [hsv,Q0a];decide
 have t_Multiply:(sv.toList== [109,117,108,116,105,112,108,121])=true:=by rw [hsv,Q0a];rfl
 rw [<-hsv]
 clear hsv
 have k_0:=H.box.cell (i:=1) rfl
 have l_d:=H.box.lt
 have e_d1:db≠kb:=by have:=H.bk;have:=H.pd;omega
 have e_d2:db≠mb:=by have:=H.bm;have:=H.pd;omega
 have hcf: ∀(x y:Value) (W:World),(callFunc 90 #[x,y]).run Tryz.prog W= .ok (.enter 90 #[x,y]) W:=fun x y W=>by kernel_rfl
 obtain ⟨b3,c3,hv,hb3,l_b,hcell⟩:=Q1E H.own (by simp)
 obtain ⟨N,hN⟩: ∃N,N=(z0::z1::r).length:=⟨_,rfl⟩
 have hN1:N>=2:=by simp [hN]
 have hJ0:0<N:=by omega
 have hI0:(0:Int)<(N:Int):=by omega
 have hI1:(1:Int)<(N:Int):=by omega
 have hNc:N<=c3:=by have:=H.own.is;obtain ⟨A,c,e1,e2,_⟩:=this;rw [hv] at e1;injection e1 with _ _ e1;omega
 rw [<-hN] at hv
 subst hv
 have e_b1:b3≠kb:=by have:=H.p1;omega
 have e_b2:b3≠mb:=by have:=H.p2;omega
 have k_1:=hcell 0 z0 rfl
 have i_0:=H.own.2.2 z0 (by simp)
 have p_0:=H.nn z0 (by simp)
 have hwz0:IntKind.u64.wrap z0=z0:=u64_nonneg p_0 (by have:=i_0.2;omega)
 have u_0:U64 z0:=⟨p_0,by have:=i_0.2;omega⟩
 have k_2:=hcell 1 z1 rfl
 have i_1:=H.own.2.2 z1 (by simp)
 have p_1:=H.nn z1 (by simp)
 have hwz1:IntKind.u64.wrap z1=z1:=u64_nonneg p_1 (by have:=i_1.2;omega)
 have u_1:U64 z1:=⟨p_1,by have:=i_1.2;omega⟩
 have hcut:=Q4A (lo:=2) (show Q0y w (.slice (some ⟨b3,0,none⟩) (z0::z1::r).length c3) (z0::z1::r) by rw [<-hN];exact H.own.is) (by simp)
 rw [<-hN] at hcut
 have hs1:=Q2A (some ⟨b3,0,none⟩) N c3 2 2 rfl (by omega)
 have hs2:=Q2B (some ⟨b3,0,none⟩) N c3 2 2 rfl (by omega)
 obtain ⟨vt,hvt⟩: ∃vt,vt=Value.slice (if c3=2 then some ⟨b3,0,none⟩ else (some (⟨b3,0,none⟩:Addr)).map (·.add (2 * 1))) (N - 2) (c3 - 2):=⟨_,rfl⟩
 rw [<-hvt] at hcut hs1 hs2
 have KN:=Qh hcut
 have hr0: ∀z∈r,0<=z:=fun z hz=>hnn z (by simp [hz])
 clear hcut hvt
 suffices hgoal: ∀Post:Ending->World->Prop,(∀w',RI base kb mb w' (Q0Z z0 z1 r k).2->Q1F kb mb w w'->Post (.returned (.string (bs (Q0Z z0 z1 r k).1))) w')->Calls Tryz.prog 43 #[.pointer (some ⟨db,0,none⟩),.string sv,.slice (some ⟨b3,0,none⟩) N c3] w Post from hgoal _ fun w' h1 h2=>⟨rfl,h1,h2⟩
 intro Post hpo
 have HP:=Qh hpo
 have CW:=Qh (fun q=>Q4B _ r (w.drewN q) (KN.out.drewN q) hr0)
 clear hpo H hnn hcell hb3 hN
 go_enter Tryz.func43,Tryz.ntmps43
 go_wp2_with fail
 go_region_held3 (fun w'=>w'.cell? ⟨db,1,none⟩=some (.pointer (some ⟨kb,0,none⟩))/\w'.cell? ⟨b3,0,none⟩=some (.int .i64 z0)/\w'.cell? ⟨b3,1,none⟩=some (.int .i64 z1)) (go_keep) (first|(go_at_call 38;refine (CW.out _).mono ?_;rintro e W1 ⟨vw,rfl,ho,hb⟩;have N1:=Qh (Q1F.of_below (kb:=kb) (mb:=mb) ((below_drewN (Below.refl w.heap.size w) _).trans hb));have D1:=Qh ((below_drewN (Below.refl w.heap.size w) _).trans hb);have q1_0:=(Q0e (p:=⟨db,1,none⟩) N1.out l_d e_d1 e_d2).trans k_0;have q1_1:=(Q0e (p:=⟨b3,0,none⟩) N1.out l_b e_b1 e_b2).trans k_1;have q1_2:=(Q0e (p:=⟨b3,1,none⟩) N1.out l_b e_b1 e_b2).trans k_2;have CK:=Qh (Z3i z0 z1 _ r W1 (HK.out.below D1.out) i_0 i_1 ho.is HO.out);clear ho hb CW)|(go_at_call 95;refine (CK.out).mono ?_;rintro e W2 ⟨z,E,rfl,hr,hz,hE,hk,hn⟩;have N2:=Qh (N1.out.trans hn);have q2_0:=(Q0e (p:=⟨db,1,none⟩) N2.out l_d e_d1 e_d2).trans k_0;have q2_1:=(Q0e (p:=⟨b3,0,none⟩) N2.out l_b e_b1 e_b2).trans k_1;have q2_2:=(Q0e (p:=⟨b3,1,none⟩) N2.out l_b e_b1 e_b2).trans k_2;have HR:=Qh hr;have HZ:=Qh hk;have CT:=Qh (Q8C z E W2 hz.1 hz.2 hE.1 hE.2 (HL.out.low (N2.out.low H0.out.1 H0.out.2.1 H0.out.2.2)).lay.2.1);clear hr hk hn CK q1_0 q1_1 q1_2)|(go_at_call 90;refine (CT.out).mono ?_;rintro e W3 ⟨rfl,hb⟩;have N3:=Qh (N2.out.below hb);have q3_0:=(Q0e (p:=⟨db,1,none⟩) N3.out l_d e_d1 e_d2).trans k_0;have q3_1:=(Q0e (p:=⟨b3,0,none⟩) N3.out l_b e_b1 e_b2).trans k_1;have q3_2:=(Q0e (p:=⟨b3,1,none⟩) N3.out l_b e_b1 e_b2).trans k_2;have HZ2:=Qh (HZ.out.below hb);clear hb CT q2_0 q2_1 q2_2))
 go_wp2_with fail
 have hp:=HP.out W3 HZ2.out N3.out
 rw [HR.out] at hp
 exact hp
theorem Y0S (z0:Int) (k:Q1J) (va:Value) (w:World) (H:Q7S w base db kb mb lo tx k va ([z0])):
  Calls Tryz.prog 43 #[.pointer (some ⟨db,0,none⟩),.string (bs Y0r),va] w fun e w'=>Z4F base kb mb (Z4y z0 k) w e w':=by
 have HL:=Qh H.lay
 have HK:=Qh H.keys
 have HO:=Qh H.ok
 have H0:=Qh (And.intro H.bk (And.intro H.bm H.bw))
 have hnn:=H.nn
 obtain ⟨sv,hsv⟩: ∃sv,sv=bs Y0r:=⟨_,rfl⟩
 have t_Gen:(sv.toList== [103,101,110])=false:=by rw [hsv,Q0a];decide
 have t_Refresh:(sv.toList== [114,101,102,114,101,115,104])=false:=by rw [hsv,Q0a];decide
 have t_Tweak:(sv.toList== [116,119,101,97,107])=false:=by rw [hsv,Q0a];decide
 have t_Combine:(sv.toList== [99,111,109,98,105,110,101])=false:=by rw [hsv,Q0a];decide
 have t_Multiply:(sv.toList== [109,117,108,116,105,112,108,121])=false:=by rw [hsv,Q0a];decide
 have t_Key:(sv.toList== [107,101,121])=true:=by rw [hsv,Q0a];rfl
 rw [<-hsv]
 clear hsv
 have k_0:=H.box.cell (i:=1) rfl
 have l_d:=H.box.lt
 have e_d1:db≠kb:=by have:=H.bk;have:=H.pd;omega
 have e_d2:db≠mb:=by have:=H.bm;have:=H.pd;omega
 have hcf: ∀(x y:Value) (W:World),(callFunc 90 #[x,y]).run Tryz.prog W= .ok (.enter 90 #[x,y]) W:=fun x y W=>by kernel_rfl
 obtain ⟨b3,c3,hv,hb3,l_b,hcell⟩:=Q1E H.own (by simp)
 obtain ⟨N,hN⟩: ∃N,N=([z0]).length:=⟨_,rfl⟩
 have hN1:N>=1:=by simp [hN]
 have hNc:N<=c3:=by have:=H.own.is;obtain ⟨A,c,e1,e2,_⟩:=this;rw [hv] at e1;injection e1 with _ _ e1;omega
 rw [<-hN] at hv
 subst hv
 have hN2:N=1:=by rw [hN];rfl
 clear hN hN1
 subst hN2
 have e_b1:b3≠kb:=by have:=H.p1;omega
 have e_b2:b3≠mb:=by have:=H.p2;omega
 have k_1:=hcell 0 z0 rfl
 have i_0:=H.own.2.2 z0 (by simp)
 have p_0:=H.nn z0 (by simp)
 have hwz0:IntKind.u64.wrap z0=z0:=u64_nonneg p_0 (by have:=i_0.2;omega)
 have u_0:U64 z0:=⟨p_0,by have:=i_0.2;omega⟩
 suffices hgoal: ∀Post:Ending->World->Prop,(∀w',RI base kb mb w' (Z4y z0 k).2->Q1F kb mb w w'->Post (.returned (.string (bs (Z4y z0 k).1))) w')->Calls Tryz.prog 43 #[.pointer (some ⟨db,0,none⟩),.string sv,.slice (some ⟨b3,0,none⟩) 1 c3] w Post from hgoal _ fun w' h1 h2=>⟨rfl,h1,h2⟩
 intro Post hpo
 have HP:=Qh hpo
 have CK:=Qh (fun q=>Y3u z0 (w.drewN q) (HK.out.below (below_drewN (Below.refl _ _) q)) i_0 HO.out)
 clear hpo H hnn hcell hb3
 go_enter Tryz.func43,Tryz.ntmps43
 go_wp2_with fail
 go_region_held3 (fun w'=>w'.cell? ⟨db,1,none⟩=some (.pointer (some ⟨kb,0,none⟩))/\w'.cell? ⟨b3,0,none⟩=some (.int .i64 z0)) (go_keep) (first|(go_at_call 96;refine (CK.out _).mono ?_;rintro e W1 ⟨z,E,rfl,hr,hz,hE,hb⟩;have N1:=Qh (Q1F.of_below (kb:=kb) (mb:=mb) ((below_drewN (Below.refl w.heap.size w) _).trans hb));have D1:=Qh ((below_drewN (Below.refl w.heap.size w) _).trans hb);have q1_0:=(Q0e (p:=⟨db,1,none⟩) N1.out l_d e_d1 e_d2).trans k_0;have q1_1:=(Q0e (p:=⟨b3,0,none⟩) N1.out l_b e_b1 e_b2).trans k_1;have HR:=Qh hr;have HZ:=Qh hz;have HE:=Qh hE;clear hr hb CK hz hE))
 have KL:=Qh (Q9Q W1 [z] (by intro y hy;simp only [List.mem_singleton] at hy;subst hy;exact HZ.out) (by simp))
 have BA:=Qh ((Below.refl W1.heap.size W1).alloc (Nat.le_refl _) (.cells #[.int .u64 z] 67))
 have CT:=Qh (Q5u _ [z] E _ KL.out (by simp) HE.out.1 HE.out.2 (Q0M (HL.out.low (N1.out.low H0.out.1 H0.out.2.1 H0.out.2.2)).lay.2.1 BA.out))
 go_wp2_with fail
 refine CT.out.mono ?_
 rintro e W2 ⟨rfl,hb⟩
 have B2:=Qh (Q0b BA.out hb BA.out.size)
 clear hb
 try dsimp only
 go_wp2_with fail
 have hp:=HP.out W2 (by rw [HR.out];exact (HK.out.below D1.out).below B2.out) (N1.out.below B2.out)
 rw [HR.out] at hp
 exact hp
theorem Y0T (z0:Int) (k:Q1J) (va:Value) (w:World) (H:Q7S w base db kb mb lo tx k va ([z0])):
  Calls Tryz.prog 43 #[.pointer (some ⟨db,0,none⟩),.string (bs Z1f),va] w fun e w'=>Z4F base kb mb (Q5S z0 k) w e w':=by
 have HL:=Qh H.lay
 have HK:=Qh H.keys
 have HO:=Qh H.ok
 have H0:=Qh (And.intro H.bk (And.intro H.bm H.bw))
 have hnn:=H.nn
 obtain ⟨sv,hsv⟩: ∃sv,sv=bs Z1f:=⟨_,rfl⟩
 have t_Gen:(sv.toList== [103,101,110])=false:=by rw [hsv,Q0a];decide
 have t_Refresh:(sv.toList== [114,101,102,114,101,115,104])=false:=by rw [hsv,Q0a];decide
 have t_Tweak:(sv.toList== [116,119,101,97,107])=false:=by rw [hsv,Q0a];decide
 have t_Combine:(sv.toList== [99,111,109,98,105,110,101])=false:=by rw [hsv,Q0a];decide
 have t_Multiply:(sv.toList== [109,117,108,116,105,112,108,121])=false:=by rw [hsv,Q0a];decide
 have t_Key:(sv.toList== [107,101,121])=false:=by rw [hsv,Q0a];decide
 have t_Drop:(sv.toList== [100,114,111,112])=true:=by rw [hsv,Q0a];rfl
 rw [<-hsv]
 clear hsv
 have k_0:=H.box.cell (i:=1) rfl
 have l_d:=H.box.lt
 have e_d1:db≠kb:=by have:=H.bk;have:=H.pd;omega
 have e_d2:db≠mb:=by have:=H.bm;have:=H.pd;omega
 have hcf: ∀(x y:Value) (W:World),(callFunc 90 #[x,y]).run Tryz.prog W= .ok (.enter 90 #[x,y]) W:=fun x y W=>by kernel_rfl
 obtain ⟨b3,c3,hv,hb3,l_b,hcell⟩:=Q1E H.own (by simp)
 obtain ⟨N,hN⟩: ∃N,N=([z0]).length:=⟨_,rfl⟩
 have hN1:N>=1:=by simp [hN]
 have hNc:N<=c3:=by have:=H.own.is;obtain ⟨A,c,e1,e2,_⟩:=this;rw [hv] at e1;injection e1 with _ _ e1;omega
 rw [<-hN] at hv
 subst hv
 have hN2:N=1:=by rw [hN];rfl
 clear hN hN1
 subst hN2
 have e_b1:b3≠kb:=by have:=H.p1;omega
 have e_b2:b3≠mb:=by have:=H.p2;omega
 have k_1:=hcell 0 z0 rfl
 have i_0:=H.own.2.2 z0 (by simp)
 have p_0:=H.nn z0 (by simp)
 have hwz0:IntKind.u64.wrap z0=z0:=u64_nonneg p_0 (by have:=i_0.2;omega)
 have u_0:U64 z0:=⟨p_0,by have:=i_0.2;omega⟩
 suffices hgoal: ∀Post:Ending->World->Prop,(∀w',RI base kb mb w' (Q5S z0 k).2->Q1F kb mb w w'->Post (.returned (.string (bs (Q5S z0 k).1))) w')->Calls Tryz.prog 43 #[.pointer (some ⟨db,0,none⟩),.string sv,.slice (some ⟨b3,0,none⟩) 1 c3] w Post from hgoal _ fun w' h1 h2=>⟨rfl,h1,h2⟩
 intro Post hpo
 have HP:=Qh hpo
 have CK:=Qh (fun q=>Y0C z0 (w.drewN q) (HK.out.below (below_drewN (Below.refl _ _) q)) i_0)
 clear hpo H hnn hcell hb3
 go_enter Tryz.func43,Tryz.ntmps43
 go_wp2_with fail
 go_region_held3 (fun w'=>w'.cell? ⟨db,1,none⟩=some (.pointer (some ⟨kb,0,none⟩))/\w'.cell? ⟨b3,0,none⟩=some (.int .i64 z0)) (go_keep) (first|(go_at_call 97;refine (CK.out _).mono ?_;rintro e W1 ⟨E,rfl,hr,hE,hk,hn⟩;have N1:=Qh (Q1F.undrew hn);have q1_0:=(Q0e (p:=⟨db,1,none⟩) N1.out l_d e_d1 e_d2).trans k_0;have q1_1:=(Q0e (p:=⟨b3,0,none⟩) N1.out l_b e_b1 e_b2).trans k_1;have HR:=Qh hr;have HZ:=Qh hk;have CT:=Qh (Z4E E W1 hE.1 hE.2 (HL.out.low (N1.out.low H0.out.1 H0.out.2.1 H0.out.2.2)).lay.2.1);clear hr hk hn CK)|(go_at_call 92;refine (CT.out).mono ?_;rintro e W2 ⟨rfl,hb⟩;have N2:=Qh (N1.out.below hb);have q2_0:=(Q0e (p:=⟨db,1,none⟩) N2.out l_d e_d1 e_d2).trans k_0;have q2_1:=(Q0e (p:=⟨b3,0,none⟩) N2.out l_b e_b1 e_b2).trans k_1;have HZ2:=Qh (HZ.out.below hb);clear hb CT q1_0 q1_1))
 go_wp2_with fail
 have hp:=HP.out W2 HZ2.out N2.out
 rw [HR.out] at hp
 exact hp
end
end Go.Proofs.YtploomncapiloaaGreatDoor
