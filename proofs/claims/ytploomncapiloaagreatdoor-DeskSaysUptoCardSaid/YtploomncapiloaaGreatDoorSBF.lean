/- Parts of the proof, put together by a program: DeskC DeskR. No condition. -/
import Derived.Test.YtploomncapiloaaGreatDoorSBE
set_option maxRecDepth 100000
set_option maxHeartbeats 8000000
namespace Go.Proofs.YtploomncapiloaaGreatDoor
open Go.RowKit Go.Sort Go.PlainAid Croft
theorem Q4A {w:World} {A:Option Addr} {c lo:Nat} {zs:List Int} (h:Q0y w (.slice A zs.length c) zs) (h1:lo<=zs.length):Q0y w (.slice (if c=lo then A else A.map (·.add (lo * 1))) (zs.length - lo) (c - lo)) (zs.drop lo):=by
 obtain ⟨A1,c1,e1,e2,e3,e4,e5,e6⟩:=h
 injection e1 with e1a _ e1c
 subst e1a e1c
 have hl:(zs.drop lo).length=zs.length - lo:=by simp
 refine ⟨_,_,by rw [hl],by rw [hl];omega,by omega,by rw [hl];omega,fun z hz=>e5 z (List.mem_of_mem_drop hz), ?_⟩
 rcases Nat.lt_or_ge lo zs.length with hlt|hge
 ·obtain ⟨b,o,rfl,hb,hc⟩:=e6.at_ (j:=lo) (by rw [Q4u];omega)
  rw [if_neg (by omega)]
  refine .inr ⟨b,o+lo,by simp [Q0N],hb,fun j hj=> ?_⟩
  rw [Q4u,hl] at hj
  rw [Nat.add_assoc,hc _ (by rw [Q4u];omega),Z2B,Z2B,List.getElem?_drop]
 ·have h0:zs.drop lo= []:=List.drop_of_length_le hge
  rw [h0];exact .inl (by simp [Q8M])
theorem Q2A (A:Option Addr) (m c lo:Nat) (x:Int) (hx:x=lo) (h1:lo<=m) (W:World):
  (Instr.slice 53 (.slice A m c) (some (.int .i64 x)) none none).run Tryz.prog W= .ok (.slice (if c=lo then A else A.map (·.add (lo * 1))) (m - lo) (c - lo)) W:=by
 subst hx
 have hU:Program.underlying Tryz.prog 53=some (.slice (Program.elem Tryz.prog 53)):=by kernel_rfl
 have hs: ∀W,(sizeOf (Program.elem Tryz.prog 53)).run Tryz.prog W= .ok 1 W:=fun W=>by kernel_rfl
 rw [run_slice_l W _ A m c hU .i64 _ (by omega) (by omega),hs]
 simp [Result.andThen,sliced]
theorem Q2B (A:Option Addr) (m c lo:Nat) (x:Int) (hx:x=lo) (h1:lo<=m) (W:World):
  (Instr.sliceAt 53 (.slice A m c) (some (.int .i64 x)) none none).run Tryz.prog W= .ok (.slice (if c=lo then A else A.map (·.add (lo * 1))) (m - lo) (c - lo)) W:=by
 have hU:Program.underlying Tryz.prog 53=some (.slice (Program.elem Tryz.prog 53)):=by kernel_rfl
 rw [run_sliceAt_slice _ _ _ _ _ _ hU]
 exact Q2A A m c lo x hx h1 W
theorem Q1E {w:World} {lo:Nat} {v:Value} {zs:List Int} (h:Q0j w lo v zs) (h1:0<zs.length): ∃b c,v= .slice (some ⟨b,0,none⟩) zs.length c/\lo<=b/\b<w.heap.size/\ ∀(k:Nat) (z:Int),zs[k]? =some z->w.cell? ⟨b,k,none⟩=some (.int .i64 z):=by
 obtain ⟨g,c,rfl,h2,h3⟩:=Q1s h.1 h1
 obtain ⟨A,c',e1,_,_,_,e5,e6⟩:=h.is
 injection e1 with e1 _ _
 subst e1
 refine ⟨g,c,rfl,h2,h3,fun k z hz=> ?_⟩
 obtain ⟨b,o,y,e2,_,hy,_,hc⟩:=ints_at e6 e5 (List.getElem?_eq_some_iff.1 hz).1
 injection e2 with e2
 injection e2 with e2 e3 _
 subst e2 e3
 rw [hz] at hy
 injection hy with hy
 subst hy
 rw [Nat.zero_add] at hc
 exact hc
theorem Q1F.undrew {kb mb n:Nat} {w w':World} (h:Q1F kb mb (w.drewN n) w'):Q1F kb mb w w':=⟨h.os,h.tape,h.output,h.size,h.block⟩
theorem Q0e {kb mb:Nat} {w w':World} {p:Addr} (h:Q1F kb mb w w') (hl:p.block<w.heap.size) (h1:p.block≠kb) (h2:p.block≠mb):w'.cell? p=w.cell? p:=World.cell?_of_block (h.block p.block hl h1 h2)
def Z1t (lo:Nat) (w:World):Prop:= ∃w0,Lay w0/\Below w0.heap.size w0 w/\w0.heap.size<=lo
theorem Z1t.lay {lo:Nat} {w:World} (h:Z1t lo w):Lay w:=by
 obtain ⟨w0,h1,h2,_⟩:=h;exact h1.below h2
theorem Z1t.low {lo:Nat} {w w':World} (h:Z1t lo w) (hb:Below lo w w'):Z1t lo w':=by
 obtain ⟨w0,h1,h2,h3⟩:=h;exact ⟨w0,h1,h2.trans (hb.mono h3),h3⟩
structure Held (w:World) (base kb mb lo bk bn:Nat) (k:Q1J) (va:Value) (n:List Int):Prop where
 keys:KI base kb mb w k
 ok:k.Ok 1000
 ck:w.cell? ⟨bk,0,none⟩=some (.pointer (some ⟨kb,0,none⟩))
 cn:w.cell? ⟨bn,0,none⟩=some va
 own:Q0j w lo va n
 nn: ∀z∈n,0<=z
 lay:Z1t base w
 p1:kb<lo
 p2:mb<lo
 p3:lo<=bk
 p4:lo<=bn
 p5:bk<w.heap.size
 p6:bn<w.heap.size
section
variable {base kb mb lo:Nat}
theorem Held.far {w:World} {bk bn:Nat} {k:Q1J} {va:Value} {n:List Int} (h:Held w base kb mb lo bk bn k va n):bk<w.heap.size/\bk≠kb/\bk≠mb/\bn<w.heap.size/\bn≠kb/\bn≠mb:=by
 have:=h.p1;have:=h.p2;have:=h.p3;have:=h.p4;have:=h.p5;have:=h.p6
 omega
theorem Held.bk {w:World} {bk bn:Nat} {k:Q1J} {va:Value} {n:List Int} (h:Held w base kb mb lo bk bn k va n):base<=kb:=by
 obtain ⟨V,hk⟩:=h.keys;exact hk.le
theorem Held.bm {w:World} {bk bn:Nat} {k:Q1J} {va:Value} {n:List Int} (h:Held w base kb mb lo bk bn k va n):base<=mb:=by
 obtain ⟨V,hk⟩:=h.keys;exact hk.store.le
theorem Held.bw {w:World} {bk bn:Nat} {k:Q1J} {va:Value} {n:List Int} (h:Held w base kb mb lo bk bn k va n):base<=w.heap.size:=by
 obtain ⟨V,hk⟩:=h.keys;have:=hk.le;have:=hk.lt;omega
def Y4m (base kb mb:Nat) (r:List UInt8×Q1J) (w:World) (e:Ending) (w':World):Prop:=e= .returned (.string (bs r.1))/\KI base kb mb w' r.2/\Q1F kb mb w w'
theorem Z8c (n:List Int) (bk bn:Nat) (k:Q1J) (va:Value) (w:World) (H:Held w base kb mb lo bk bn k va (n)):
  Calls Tryz.prog 63 #[.pointer (some ⟨bk,0,none⟩),.pointer (some ⟨bn,0,none⟩)] w fun e w'=>Y4m base kb mb (Z5P n k) w e w':=by
 have HL:=Qh H.lay
 have HK:=Qh H.keys
 have HO:=Qh H.ok
 have H0:=Qh (And.intro H.bk (And.intro H.bm H.bw))
 have hnn:=H.nn
 obtain ⟨l_k,e_k1,e_k2,l_n,e_n1,e_n2⟩:=H.far
 obtain ⟨A3,c3,hv,_⟩:=Q0k H.own.1
 obtain ⟨N,hN⟩: ∃N,N=n.length:=⟨_,rfl⟩
 rw [<-hN] at hv
 subst hv
 have k_0:=H.ck
 have k_1:=H.cn
 have KN:=Qh H.own.is
 suffices hgoal: ∀Post:Ending->World->Prop,(∀w',KI base kb mb w' (Z5P n k).2->Q1F kb mb w w'->Post (.returned (.string (bs (Z5P n k).1))) w')->Calls Tryz.prog 63 #[.pointer (some ⟨bk,0,none⟩),.pointer (some ⟨bn,0,none⟩)] w Post from hgoal _ fun w' h1 h2=>⟨rfl,h1,h2⟩
 intro Post hpo
 have HP:=Qh hpo
 have CW:=Qh (fun q=>Q4R _ n (w.drewN q) (KN.out.drewN q) hnn)
 clear hpo H hnn hN
 go_enter Tryz.func63,Tryz.ntmps63
 go_upto_block 1 with fail
 go_region_held3 (fun w'=>w'.cell? ⟨bk,0,none⟩=some (.pointer (some ⟨kb,0,none⟩))/\w'.cell? ⟨bn,0,none⟩=some (.slice A3 N c3)) (go_keep) (first|(go_at_call 52;refine (CW.out _).mono ?_;rintro e W1 ⟨vw,rfl,ho,hb⟩;have N1:=Qh (Q1F.of_below (kb:=kb) (mb:=mb) ((below_drewN (Below.refl w.heap.size w) _).trans hb));have D1:=Qh ((below_drewN (Below.refl w.heap.size w) _).trans hb);have q1_0:=(Q0e (p:=⟨bk,0,none⟩) N1.out l_k e_k1 e_k2).trans k_0;have q1_1:=(Q0e (p:=⟨bn,0,none⟩) N1.out l_n e_n1 e_n2).trans k_1;have CK:=Qh (Y0A _ n W1 (HK.out.below D1.out) ho.is HO.out);clear ho hb CW)|(go_at_call 65;refine (CK.out).mono ?_;rintro e W2 ⟨z,E,rfl,hr,hz,hE,hk,hn⟩;have N2:=Qh (N1.out.trans hn);have q2_0:=(Q0e (p:=⟨bk,0,none⟩) N2.out l_k e_k1 e_k2).trans k_0;have q2_1:=(Q0e (p:=⟨bn,0,none⟩) N2.out l_n e_n1 e_n2).trans k_1;have HR:=Qh hr;have HZ:=Qh hk;have CT:=Qh (Q6V z E W2 hz.1 hz.2 hE.1 hE.2 (HL.out.low (N2.out.low H0.out.1 H0.out.2.1 H0.out.2.2)).lay.2.1);clear hr hk hn CK q1_0 q1_1)|(go_at_call 64;refine (CT.out).mono ?_;rintro e W3 ⟨rfl,hb⟩;have N3:=Qh (N2.out.below hb);have q3_0:=(Q0e (p:=⟨bk,0,none⟩) N3.out l_k e_k1 e_k2).trans k_0;have q3_1:=(Q0e (p:=⟨bn,0,none⟩) N3.out l_n e_n1 e_n2).trans k_1;have HZ2:=Qh (HZ.out.below hb);clear hb CT q2_0 q2_1))
 go_wp2_with fail
 have hp:=HP.out W3 HZ2.out N3.out
 rw [HR.out] at hp
 exact hp
theorem Z8d (z0:Int) (r:List Int) (bk bn:Nat) (k:Q1J) (va:Value) (w:World) (H:Held w base kb mb lo bk bn k va (z0::r)):
  Calls Tryz.prog 66 #[.pointer (some ⟨bk,0,none⟩),.pointer (some ⟨bn,0,none⟩)] w fun e w'=>Y4m base kb mb (Q1v z0 r k) w e w':=by
 have HL:=Qh H.lay
 have HK:=Qh H.keys
 have HO:=Qh H.ok
 have H0:=Qh (And.intro H.bk (And.intro H.bm H.bw))
 have hnn:=H.nn
 obtain ⟨l_k,e_k1,e_k2,l_n,e_n1,e_n2⟩:=H.far
 obtain ⟨b3,c3,hv,hb3,l_b,hcell⟩:=Q1E H.own (by simp)
 obtain ⟨N,hN⟩: ∃N,N=(z0::r).length:=⟨_,rfl⟩
 have hN1:N>=1:=by simp [hN]
 have hJ0:0<N:=by omega
 have hI0:(0:Int)<(N:Int):=by omega
 have hNc:N<=c3:=by have:=H.own.is;obtain ⟨A,c,e1,e2,_⟩:=this;rw [hv] at e1;injection e1 with _ _ e1;omega
 rw [<-hN] at hv
 subst hv
 have e_b1:b3≠kb:=by have:=H.p1;omega
 have e_b2:b3≠mb:=by have:=H.p2;omega
 have k_0:=H.ck
 have k_1:=H.cn
 have k_2:=hcell 0 z0 rfl
 have i_0:=H.own.2.2 z0 (by simp)
 have p_0:=H.nn z0 (by simp)
 have hwz0:IntKind.u64.wrap z0=z0:=u64_nonneg p_0 (by have:=i_0.2;omega)
 have u_0:U64 z0:=⟨p_0,by have:=i_0.2;omega⟩
 have hcut:=Q4A (lo:=1) (show Q0y w (.slice (some ⟨b3,0,none⟩) (z0::r).length c3) (z0::r) by rw [<-hN];exact H.own.is) (by simp)
 rw [<-hN] at hcut
 have hs1:=Q2A (some ⟨b3,0,none⟩) N c3 1 1 rfl (by omega)
 have hs2:=Q2B (some ⟨b3,0,none⟩) N c3 1 1 rfl (by omega)
 obtain ⟨vt,hvt⟩: ∃vt,vt=Value.slice (if c3=1 then some ⟨b3,0,none⟩ else (some (⟨b3,0,none⟩:Addr)).map (·.add (1 * 1))) (N - 1) (c3 - 1):=⟨_,rfl⟩
 rw [<-hvt] at hcut hs1 hs2
 have KN:=Qh hcut
 have hr0: ∀z∈r,0<=z:=fun z hz=>hnn z (by simp [hz])
 clear hcut hvt
 suffices hgoal: ∀Post:Ending->World->Prop,(∀w',KI base kb mb w' (Q1v z0 r k).2->Q1F kb mb w w'->Post (.returned (.string (bs (Q1v z0 r k).1))) w')->Calls Tryz.prog 66 #[.pointer (some ⟨bk,0,none⟩),.pointer (some ⟨bn,0,none⟩)] w Post from hgoal _ fun w' h1 h2=>⟨rfl,h1,h2⟩
 intro Post hpo
 have HP:=Qh hpo
 have CW:=Qh (fun q=>Q4R _ r (w.drewN q) (KN.out.drewN q) hr0)
 clear hpo H hnn hcell hb3 hN
 go_enter Tryz.func66,Tryz.ntmps66
 go_upto_block 1 with fail
 go_region_held3 (fun w'=>w'.cell? ⟨bk,0,none⟩=some (.pointer (some ⟨kb,0,none⟩))/\w'.cell? ⟨bn,0,none⟩=some (.slice (some ⟨b3,0,none⟩) N c3)/\w'.cell? ⟨b3,0,none⟩=some (.int .i64 z0)) (go_keep) (first|(go_at_call 52;refine (CW.out _).mono ?_;rintro e W1 ⟨vw,rfl,ho,hb⟩;have N1:=Qh (Q1F.of_below (kb:=kb) (mb:=mb) ((below_drewN (Below.refl w.heap.size w) _).trans hb));have D1:=Qh ((below_drewN (Below.refl w.heap.size w) _).trans hb);have q1_0:=(Q0e (p:=⟨bk,0,none⟩) N1.out l_k e_k1 e_k2).trans k_0;have q1_1:=(Q0e (p:=⟨bn,0,none⟩) N1.out l_n e_n1 e_n2).trans k_1;have q1_2:=(Q0e (p:=⟨b3,0,none⟩) N1.out l_b e_b1 e_b2).trans k_2;have CK:=Qh (Z3g z0 _ r W1 (HK.out.below D1.out) i_0 ho.is HO.out);clear ho hb CW)|(go_at_call 67;refine (CK.out).mono ?_;rintro e W2 ⟨E,rfl,hr,hE,hk,hn⟩;have N2:=Qh (N1.out.trans hn);have q2_0:=(Q0e (p:=⟨bk,0,none⟩) N2.out l_k e_k1 e_k2).trans k_0;have q2_1:=(Q0e (p:=⟨bn,0,none⟩) N2.out l_n e_n1 e_n2).trans k_1;have q2_2:=(Q0e (p:=⟨b3,0,none⟩) N2.out l_b e_b1 e_b2).trans k_2;have HR:=Qh hr;have HZ:=Qh hk;have CT:=Qh (Q9S E W2 hE.1 hE.2 (HL.out.low (N2.out.low H0.out.1 H0.out.2.1 H0.out.2.2)).lay.2.1);clear hr hk hn CK q1_0 q1_1 q1_2)|(go_at_call 62;refine (CT.out).mono ?_;rintro e W3 ⟨rfl,hb⟩;have N3:=Qh (N2.out.below hb);have q3_0:=(Q0e (p:=⟨bk,0,none⟩) N3.out l_k e_k1 e_k2).trans k_0;have q3_1:=(Q0e (p:=⟨bn,0,none⟩) N3.out l_n e_n1 e_n2).trans k_1;have q3_2:=(Q0e (p:=⟨b3,0,none⟩) N3.out l_b e_b1 e_b2).trans k_2;have HZ2:=Qh (HZ.out.below hb);clear hb CT q2_0 q2_1 q2_2))
 go_wp2_with fail
 have hp:=HP.out W3 HZ2.out N3.out
 rw [HR.out] at hp
 exact hp
theorem Z8e (z0 z1:Int) (bk bn:Nat) (k:Q1J) (va:Value) (w:World) (H:Held w base kb mb lo bk bn k va ([z0,z1])):
  Calls Tryz.prog 68 #[.pointer (some ⟨bk,0,none⟩),.pointer (some ⟨bn,0,none⟩)] w fun e w'=>Y4m base kb mb (Q3u z0 z1 k) w e w':=by
 have HL:=Qh H.lay
 have HK:=Qh H.keys
 have HO:=Qh H.ok
 have H0:=Qh (And.intro H.bk (And.intro H.bm H.bw))
 have hnn:=H.nn
 obtain ⟨l_k,e_k1,e_k2,l_n,e_n1,e_n2⟩:=H.far
 obtain ⟨b3,c3,hv,hb3,l_b,hcell⟩:=Q1E H.own (by simp)
 obtain ⟨N,hN⟩: ∃N,N=([z0,z1]).length:=⟨_,rfl⟩
 have hN1:N>=2:=by simp [hN]
 have hNc:N<=c3:=by have:=H.own.is;obtain ⟨A,c,e1,e2,_⟩:=this;rw [hv] at e1;injection e1 with _ _ e1;omega
 rw [<-hN] at hv
 subst hv
 have hN2:N=2:=by rw [hN];rfl
 clear hN hN1
 subst hN2
 have e_b1:b3≠kb:=by have:=H.p1;omega
 have e_b2:b3≠mb:=by have:=H.p2;omega
 have k_0:=H.ck
 have k_1:=H.cn
 have k_2:=hcell 0 z0 rfl
 have i_0:=H.own.2.2 z0 (by simp)
 have p_0:=H.nn z0 (by simp)
 have hwz0:IntKind.u64.wrap z0=z0:=u64_nonneg p_0 (by have:=i_0.2;omega)
 have u_0:U64 z0:=⟨p_0,by have:=i_0.2;omega⟩
 have k_3:=hcell 1 z1 rfl
 have i_1:=H.own.2.2 z1 (by simp)
 have p_1:=H.nn z1 (by simp)
 have hwz1:IntKind.u64.wrap z1=z1:=u64_nonneg p_1 (by have:=i_1.2;omega)
 have u_1:U64 z1:=⟨p_1,by have:=i_1.2;omega⟩
 suffices hgoal: ∀Post:Ending->World->Prop,(∀w',KI base kb mb w' (Q3u z0 z1 k).2->Q1F kb mb w w'->Post (.returned (.string (bs (Q3u z0 z1 k).1))) w')->Calls Tryz.prog 68 #[.pointer (some ⟨bk,0,none⟩),.pointer (some ⟨bn,0,none⟩)] w Post from hgoal _ fun w' h1 h2=>⟨rfl,h1,h2⟩
 intro Post hpo
 have HP:=Qh hpo
 have CK:=Qh (fun q=>Z5S z0 z1 (w.drewN q) (HK.out.below (below_drewN (Below.refl _ _) q)) i_0 u_1 HO.out)
 clear hpo H hnn hcell hb3
 go_enter Tryz.func68,Tryz.ntmps68
 go_upto_block 1 with fail
 go_region_held3 (fun w'=>w'.cell? ⟨bk,0,none⟩=some (.pointer (some ⟨kb,0,none⟩))/\w'.cell? ⟨bn,0,none⟩=some (.slice (some ⟨b3,0,none⟩) 2 c3)/\w'.cell? ⟨b3,0,none⟩=some (.int .i64 z0)/\w'.cell? ⟨b3,1,none⟩=some (.int .i64 z1)) (go_keep) (first|(go_at_call 69;refine (CK.out _).mono ?_;rintro e W1 ⟨z,E,rfl,hr,hz,hE,hk,hn⟩;have N1:=Qh (Q1F.undrew hn);have q1_0:=(Q0e (p:=⟨bk,0,none⟩) N1.out l_k e_k1 e_k2).trans k_0;have q1_1:=(Q0e (p:=⟨bn,0,none⟩) N1.out l_n e_n1 e_n2).trans k_1;have q1_2:=(Q0e (p:=⟨b3,0,none⟩) N1.out l_b e_b1 e_b2).trans k_2;have q1_3:=(Q0e (p:=⟨b3,1,none⟩) N1.out l_b e_b1 e_b2).trans k_3;have HR:=Qh hr;have HZ:=Qh hk;have CT:=Qh (Q6V z E W1 hz.1 hz.2 hE.1 hE.2 (HL.out.low (N1.out.low H0.out.1 H0.out.2.1 H0.out.2.2)).lay.2.1);clear hr hk hn CK)|(go_at_call 64;refine (CT.out).mono ?_;rintro e W2 ⟨rfl,hb⟩;have N2:=Qh (N1.out.below hb);have q2_0:=(Q0e (p:=⟨bk,0,none⟩) N2.out l_k e_k1 e_k2).trans k_0;have q2_1:=(Q0e (p:=⟨bn,0,none⟩) N2.out l_n e_n1 e_n2).trans k_1;have q2_2:=(Q0e (p:=⟨b3,0,none⟩) N2.out l_b e_b1 e_b2).trans k_2;have q2_3:=(Q0e (p:=⟨b3,1,none⟩) N2.out l_b e_b1 e_b2).trans k_3;have HZ2:=Qh (HZ.out.below hb);clear hb CT q1_0 q1_1 q1_2 q1_3))
 go_wp2_with fail
 have hp:=HP.out W2 HZ2.out N2.out
 rw [HR.out] at hp
 exact hp
theorem Z8f (z0 z1 z2 z3:Int) (bk bn:Nat) (k:Q1J) (va:Value) (w:World) (H:Held w base kb mb lo bk bn k va ([z0,z1,z2,z3])):
  Calls Tryz.prog 70 #[.pointer (some ⟨bk,0,none⟩),.pointer (some ⟨bn,0,none⟩)] w fun e w'=>Y4m base kb mb (Q1w z0 z1 z2 z3 k) w e w':=by
 have HL:=Qh H.lay
 have HK:=Qh H.keys
 have HO:=Qh H.ok
 have H0:=Qh (And.intro H.bk (And.intro H.bm H.bw))
 have hnn:=H.nn
 obtain ⟨l_k,e_k1,e_k2,l_n,e_n1,e_n2⟩:=H.far
 obtain ⟨b3,c3,hv,hb3,l_b,hcell⟩:=Q1E H.own (by simp)
 obtain ⟨N,hN⟩: ∃N,N=([z0,z1,z2,z3]).length:=⟨_,rfl⟩
 have hN1:N>=4:=by simp [hN]
 have hNc:N<=c3:=by have:=H.own.is;obtain ⟨A,c,e1,e2,_⟩:=this;rw [hv] at e1;injection e1 with _ _ e1;omega
 rw [<-hN] at hv
 subst hv
 have hN2:N=4:=by rw [hN];rfl
 clear hN hN1
 subst hN2
 have e_b1:b3≠kb:=by have:=H.p1;omega
 have e_b2:b3≠mb:=by have:=H.p2;omega
 have k_0:=H.ck
 have k_1:=H.cn
 have k_2:=hcell 0 z0 rfl
 have i_0:=H.own.2.2 z0 (by simp)
 have p_0:=H.nn z0 (by simp)
 have hwz0:IntKind.u64.wrap z0=z0:=u64_nonneg p_0 (by have:=i_0.2;omega)
 have u_0:U64 z0:=⟨p_0,by have:=i_0.2;omega⟩
 have k_3:=hcell 1 z1 rfl
 have i_1:=H.own.2.2 z1 (by simp)
 have p_1:=H.nn z1 (by simp)
 have hwz1:IntKind.u64.wrap z1=z1:=u64_nonneg p_1 (by have:=i_1.2;omega)
 have u_1:U64 z1:=⟨p_1,by have:=i_1.2;omega⟩
 have k_4:=hcell 2 z2 rfl
 have i_2:=H.own.2.2 z2 (by simp)
 have p_2:=H.nn z2 (by simp)
 have hwz2:IntKind.u64.wrap z2=z2:=u64_nonneg p_2 (by have:=i_2.2;omega)
 have u_2:U64 z2:=⟨p_2,by have:=i_2.2;omega⟩
 have k_5:=hcell 3 z3 rfl
 have i_3:=H.own.2.2 z3 (by simp)
 have p_3:=H.nn z3 (by simp)
 have hwz3:IntKind.u64.wrap z3=z3:=u64_nonneg p_3 (by have:=i_3.2;omega)
 have u_3:U64 z3:=⟨p_3,by have:=i_3.2;omega⟩
 suffices hgoal: ∀Post:Ending->World->Prop,(∀w',KI base kb mb w' (Q1w z0 z1 z2 z3 k).2->Q1F kb mb w w'->Post (.returned (.string (bs (Q1w z0 z1 z2 z3 k).1))) w')->Calls Tryz.prog 70 #[.pointer (some ⟨bk,0,none⟩),.pointer (some ⟨bn,0,none⟩)] w Post from hgoal _ fun w' h1 h2=>⟨rfl,h1,h2⟩
 intro Post hpo
 have HP:=Qh hpo
 have CK:=Qh (fun q=>Z3h z0 z1 z2 z3 (w.drewN q) (HK.out.below (below_drewN (Below.refl _ _) q)) i_0 i_1 u_2 u_3 HO.out)
 clear hpo H hnn hcell hb3
 go_enter Tryz.func70,Tryz.ntmps70
 go_upto_block 1 with fail
 go_region_held3 (fun w'=>w'.cell? ⟨bk,0,none⟩=some (.pointer (some ⟨kb,0,none⟩))/\w'.cell? ⟨bn,0,none⟩=some (.slice (some ⟨b3,0,none⟩) 4 c3)/\w'.cell? ⟨b3,0,none⟩=some (.int .i64 z0)/\w'.cell? ⟨b3,1,none⟩=some (.int .i64 z1)/\w'.cell? ⟨b3,2,none⟩=some (.int .i64 z2)/\w'.cell? ⟨b3,3,none⟩=some (.int .i64 z3)) (go_keep) (first|(go_at_call 71;refine (CK.out _).mono ?_;rintro e W1 ⟨z,E,rfl,hr,hz,hE,hk,hn⟩;have N1:=Qh (Q1F.undrew hn);have q1_0:=(Q0e (p:=⟨bk,0,none⟩) N1.out l_k e_k1 e_k2).trans k_0;have q1_1:=(Q0e (p:=⟨bn,0,none⟩) N1.out l_n e_n1 e_n2).trans k_1;have q1_2:=(Q0e (p:=⟨b3,0,none⟩) N1.out l_b e_b1 e_b2).trans k_2;have q1_3:=(Q0e (p:=⟨b3,1,none⟩) N1.out l_b e_b1 e_b2).trans k_3;have q1_4:=(Q0e (p:=⟨b3,2,none⟩) N1.out l_b e_b1 e_b2).trans k_4;have q1_5:=(Q0e (p:=⟨b3,3,none⟩) N1.out l_b e_b1 e_b2).trans k_5;have HR:=Qh hr;have HZ:=Qh hk;have CT:=Qh (Q6V z E W1 hz.1 hz.2 hE.1 hE.2 (HL.out.low (N1.out.low H0.out.1 H0.out.2.1 H0.out.2.2)).lay.2.1);clear hr hk hn CK)|(go_at_call 64;refine (CT.out).mono ?_;rintro e W2 ⟨rfl,hb⟩;have N2:=Qh (N1.out.below hb);have q2_0:=(Q0e (p:=⟨bk,0,none⟩) N2.out l_k e_k1 e_k2).trans k_0;have q2_1:=(Q0e (p:=⟨bn,0,none⟩) N2.out l_n e_n1 e_n2).trans k_1;have q2_2:=(Q0e (p:=⟨b3,0,none⟩) N2.out l_b e_b1 e_b2).trans k_2;have q2_3:=(Q0e (p:=⟨b3,1,none⟩) N2.out l_b e_b1 e_b2).trans k_3;have q2_4:=(Q0e (p:=⟨b3,2,none⟩) N2.out l_b e_b1 e_b2).trans k_4;have q2_5:=(Q0e (p:=⟨b3,3,none⟩) N2.out l_b e_b1 e_b2).trans k_5;have HZ2:=Qh (HZ.out.below hb);clear hb CT q1_0 q1_1 q1_2 q1_3 q1_4 q1_5))
 go_wp2_with fail
 have hp:=HP.out W2 HZ2.out N2.out
 rw [HR.out] at hp
 exact hp
theorem Z8g (z0 z1:Int) (r:List Int) (bk bn:Nat) (k:Q1J) (va:Value) (w:World) (H:Held w base kb mb lo bk bn k va (z0::z1::r)):
  Calls Tryz.prog 72 #[.pointer (some ⟨bk,0,none⟩),.pointer (some ⟨bn,0,none⟩)] w fun e w'=>Y4m base kb mb (Q0Z z0 z1 r k) w e w':=by
 have HL:=Qh H.lay
 have HK:=Qh H.keys
 have HO:=Qh H.ok
 have H0:=Qh (And.intro H.bk (And.intro H.bm H.bw))
 have hnn:=H.nn
 obtain ⟨l_k,e_k1,e_k2,l_n,e_n1,e_n2⟩:=H.far
 obtain ⟨b3,c3,hv,hb3,l_b,hcell⟩:=Q1E H.own (by simp)
 obtain ⟨N,hN⟩: ∃N,N=(z0::z1::r).length:=⟨_,rfl⟩
 have hN1:N>=2:=by simp [hN]
 have hJ0:0<N:=by omega
 have hI0:(0:Int)<(N:Int):=by omega
 have hI1:(1:Int)<(N:Int):=by omega
 have hNc:N<=c3:=by have:=H.own.is;obtain ⟨A,c,e1,e2,_⟩:=this;rw [hv] at e1;injection e1 with _ _ e1;omega
 rw [<-hN] at hv
 subst hv
 have e_b1:b3≠kb:=by have:=H.p1;omega
 have e_b2:b3≠mb:=by have:=H.p2;omega
 have k_0:=H.ck
 have k_1:=H.cn
 have k_2:=hcell 0 z0 rfl
 have i_0:=H.own.2.2 z0 (by simp)
 have p_0:=H.nn z0 (by simp)
 have hwz0:IntKind.u64.wrap z0=z0:=u64_nonneg p_0 (by have:=i_0.2;omega)
 have u_0:U64 z0:=⟨p_0,by have:=i_0.2;omega⟩
 have k_3:=hcell 1 z1 rfl
 have i_1:=H.own.2.2 z1 (by simp)
 have p_1:=H.nn z1 (by simp)
 have hwz1:IntKind.u64.wrap z1=z1:=u64_nonneg p_1 (by have:=i_1.2;omega)
 have u_1:U64 z1:=⟨p_1,by have:=i_1.2;omega⟩
 have hcut:=Q4A (lo:=2) (show Q0y w (.slice (some ⟨b3,0,none⟩) (z0::z1::r).length c3) (z0::z1::r) by rw [<-hN];exact H.own.is) (by simp)
 rw [<-hN] at hcut
 have hs1:=Q2A (some ⟨b3,0,none⟩) N c3 2 2 rfl (by omega)
 have hs2:=Q2B (some ⟨b3,0,none⟩) N c3 2 2 rfl (by omega)
 obtain ⟨vt,hvt⟩: ∃vt,vt=Value.slice (if c3=2 then some ⟨b3,0,none⟩ else (some (⟨b3,0,none⟩:Addr)).map (·.add (2 * 1))) (N - 2) (c3 - 2):=⟨_,rfl⟩
 rw [<-hvt] at hcut hs1 hs2
 have KN:=Qh hcut
 have hr0: ∀z∈r,0<=z:=fun z hz=>hnn z (by simp [hz])
 clear hcut hvt
 suffices hgoal: ∀Post:Ending->World->Prop,(∀w',KI base kb mb w' (Q0Z z0 z1 r k).2->Q1F kb mb w w'->Post (.returned (.string (bs (Q0Z z0 z1 r k).1))) w')->Calls Tryz.prog 72 #[.pointer (some ⟨bk,0,none⟩),.pointer (some ⟨bn,0,none⟩)] w Post from hgoal _ fun w' h1 h2=>⟨rfl,h1,h2⟩
 intro Post hpo
 have HP:=Qh hpo
 have CW:=Qh (fun q=>Q4R _ r (w.drewN q) (KN.out.drewN q) hr0)
 clear hpo H hnn hcell hb3 hN
 go_enter Tryz.func72,Tryz.ntmps72
 go_upto_block 1 with fail
 go_region_held3 (fun w'=>w'.cell? ⟨bk,0,none⟩=some (.pointer (some ⟨kb,0,none⟩))/\w'.cell? ⟨bn,0,none⟩=some (.slice (some ⟨b3,0,none⟩) N c3)/\w'.cell? ⟨b3,0,none⟩=some (.int .i64 z0)/\w'.cell? ⟨b3,1,none⟩=some (.int .i64 z1)) (go_keep) (first|(go_at_call 52;refine (CW.out _).mono ?_;rintro e W1 ⟨vw,rfl,ho,hb⟩;have N1:=Qh (Q1F.of_below (kb:=kb) (mb:=mb) ((below_drewN (Below.refl w.heap.size w) _).trans hb));have D1:=Qh ((below_drewN (Below.refl w.heap.size w) _).trans hb);have q1_0:=(Q0e (p:=⟨bk,0,none⟩) N1.out l_k e_k1 e_k2).trans k_0;have q1_1:=(Q0e (p:=⟨bn,0,none⟩) N1.out l_n e_n1 e_n2).trans k_1;have q1_2:=(Q0e (p:=⟨b3,0,none⟩) N1.out l_b e_b1 e_b2).trans k_2;have q1_3:=(Q0e (p:=⟨b3,1,none⟩) N1.out l_b e_b1 e_b2).trans k_3;have CK:=Qh (Z1S z0 z1 _ r W1 (HK.out.below D1.out) i_0 i_1 ho.is HO.out);clear ho hb CW)|(go_at_call 73;refine (CK.out).mono ?_;rintro e W2 ⟨z,E,rfl,hr,hz,hE,hk,hn⟩;have N2:=Qh (N1.out.trans hn);have q2_0:=(Q0e (p:=⟨bk,0,none⟩) N2.out l_k e_k1 e_k2).trans k_0;have q2_1:=(Q0e (p:=⟨bn,0,none⟩) N2.out l_n e_n1 e_n2).trans k_1;have q2_2:=(Q0e (p:=⟨b3,0,none⟩) N2.out l_b e_b1 e_b2).trans k_2;have q2_3:=(Q0e (p:=⟨b3,1,none⟩) N2.out l_b e_b1 e_b2).trans k_3;have HR:=Qh hr;have HZ:=Qh hk;have CT:=Qh (Q6V z E W2 hz.1 hz.2 hE.1 hE.2 (HL.out.low (N2.out.low H0.out.1 H0.out.2.1 H0.out.2.2)).lay.2.1);clear hr hk hn CK q1_0 q1_1 q1_2 q1_3)|(go_at_call 64;refine (CT.out).mono ?_;rintro e W3 ⟨rfl,hb⟩;have N3:=Qh (N2.out.below hb);have q3_0:=(Q0e (p:=⟨bk,0,none⟩) N3.out l_k e_k1 e_k2).trans k_0;have q3_1:=(Q0e (p:=⟨bn,0,none⟩) N3.out l_n e_n1 e_n2).trans k_1;have q3_2:=(Q0e (p:=⟨b3,0,none⟩) N3.out l_b e_b1 e_b2).trans k_2;have q3_3:=(Q0e (p:=⟨b3,1,none⟩) N3.out l_b e_b1 e_b2).trans k_3;have HZ2:=Qh (HZ.out.below hb);clear hb CT q2_0 q2_1 q2_2 q2_3))
 go_wp2_with fail
 have hp:=HP.out W3 HZ2.out N3.out
 rw [HR.out] at hp
 exact hp
theorem Z8h (z0:Int) (bk bn:Nat) (k:Q1J) (va:Value) (w:World) (H:Held w base kb mb lo bk bn k va ([z0])):
  Calls Tryz.prog 74 #[.pointer (some ⟨bk,0,none⟩),.pointer (some ⟨bn,0,none⟩)] w fun e w'=>Y4m base kb mb (Z4y z0 k) w e w':=by
 have HL:=Qh H.lay
 have HK:=Qh H.keys
 have HO:=Qh H.ok
 have H0:=Qh (And.intro H.bk (And.intro H.bm H.bw))
 have hnn:=H.nn
 obtain ⟨l_k,e_k1,e_k2,l_n,e_n1,e_n2⟩:=H.far
 obtain ⟨b3,c3,hv,hb3,l_b,hcell⟩:=Q1E H.own (by simp)
 obtain ⟨N,hN⟩: ∃N,N=([z0]).length:=⟨_,rfl⟩
 have hN1:N>=1:=by simp [hN]
 have hNc:N<=c3:=by have:=H.own.is;obtain ⟨A,c,e1,e2,_⟩:=this;rw [hv] at e1;injection e1 with _ _ e1;omega
 rw [<-hN] at hv
 subst hv
 have hN2:N=1:=by rw [hN];rfl
 clear hN hN1
 subst hN2
 have e_b1:b3≠kb:=by have:=H.p1;omega
 have e_b2:b3≠mb:=by have:=H.p2;omega
 have k_0:=H.ck
 have k_1:=H.cn
 have k_2:=hcell 0 z0 rfl
 have i_0:=H.own.2.2 z0 (by simp)
 have p_0:=H.nn z0 (by simp)
 have hwz0:IntKind.u64.wrap z0=z0:=u64_nonneg p_0 (by have:=i_0.2;omega)
 have u_0:U64 z0:=⟨p_0,by have:=i_0.2;omega⟩
 suffices hgoal: ∀Post:Ending->World->Prop,(∀w',KI base kb mb w' (Z4y z0 k).2->Q1F kb mb w w'->Post (.returned (.string (bs (Z4y z0 k).1))) w')->Calls Tryz.prog 74 #[.pointer (some ⟨bk,0,none⟩),.pointer (some ⟨bn,0,none⟩)] w Post from hgoal _ fun w' h1 h2=>⟨rfl,h1,h2⟩
 intro Post hpo
 have HP:=Qh hpo
 have CK:=Qh (fun q=>Y0B z0 (w.drewN q) (HK.out.below (below_drewN (Below.refl _ _) q)) i_0 HO.out)
 clear hpo H hnn hcell hb3
 go_enter Tryz.func74,Tryz.ntmps74
 go_upto_block 1 with fail
 go_region_held3 (fun w'=>w'.cell? ⟨bk,0,none⟩=some (.pointer (some ⟨kb,0,none⟩))/\w'.cell? ⟨bn,0,none⟩=some (.slice (some ⟨b3,0,none⟩) 1 c3)/\w'.cell? ⟨b3,0,none⟩=some (.int .i64 z0)) (go_keep) (first|(go_at_call 75;refine (CK.out _).mono ?_;rintro e W1 ⟨z,E,rfl,hr,hz,hE,hb⟩;have N1:=Qh (Q1F.of_below (kb:=kb) (mb:=mb) ((below_drewN (Below.refl w.heap.size w) _).trans hb));have D1:=Qh ((below_drewN (Below.refl w.heap.size w) _).trans hb);have q1_0:=(Q0e (p:=⟨bk,0,none⟩) N1.out l_k e_k1 e_k2).trans k_0;have q1_1:=(Q0e (p:=⟨bn,0,none⟩) N1.out l_n e_n1 e_n2).trans k_1;have q1_2:=(Q0e (p:=⟨b3,0,none⟩) N1.out l_b e_b1 e_b2).trans k_2;have HR:=Qh hr;have HZ:=Qh hz;have HE:=Qh hE;clear hr hb CK hz hE))
 have KL:=Qh (Q9Q W1 [z] (by intro y hy;simp only [List.mem_singleton] at hy;subst hy;exact HZ.out) (by simp))
 have BA:=Qh ((Below.refl W1.heap.size W1).alloc (Nat.le_refl _) (.cells #[.int .u64 z] 67))
 have CT:=Qh (Q6U _ [z] E _ KL.out (by simp) HE.out.1 HE.out.2 (Q0M (HL.out.low (N1.out.low H0.out.1 H0.out.2.1 H0.out.2.2)).lay.2.1 BA.out))
 go_wp2_with fail
 refine CT.out.mono ?_
 rintro e W2 ⟨rfl,hb⟩
 have B2:=Qh (Q0b BA.out hb BA.out.size)
 clear hb
 try dsimp only
 go_wp2_with fail
 have hp:=HP.out W2 (by rw [HR.out];exact (HK.out.below D1.out).below B2.out) (N1.out.below B2.out)
 rw [HR.out] at hp
 exact hp
theorem Z8i (z0:Int) (bk bn:Nat) (k:Q1J) (va:Value) (w:World) (H:Held w base kb mb lo bk bn k va ([z0])):
  Calls Tryz.prog 76 #[.pointer (some ⟨bk,0,none⟩),.pointer (some ⟨bn,0,none⟩)] w fun e w'=>Y4m base kb mb (Q5S z0 k) w e w':=by
 have HL:=Qh H.lay
 have HK:=Qh H.keys
 have HO:=Qh H.ok
 have H0:=Qh (And.intro H.bk (And.intro H.bm H.bw))
 have hnn:=H.nn
 obtain ⟨l_k,e_k1,e_k2,l_n,e_n1,e_n2⟩:=H.far
 obtain ⟨b3,c3,hv,hb3,l_b,hcell⟩:=Q1E H.own (by simp)
 obtain ⟨N,hN⟩: ∃N,N=([z0]).length:=⟨_,rfl⟩
 have hN1:N>=1:=by simp [hN]
 have hNc:N<=c3:=by have:=H.own.is;obtain ⟨A,c,e1,e2,_⟩:=this;rw [hv] at e1;injection e1 with _ _ e1;omega
 rw [<-hN] at hv
 subst hv
 have hN2:N=1:=by rw [hN];rfl
 clear hN hN1
 subst hN2
 have e_b1:b3≠kb:=by have:=H.p1;omega
 have e_b2:b3≠mb:=by have:=H.p2;omega
 have k_0:=H.ck
 have k_1:=H.cn
 have k_2:=hcell 0 z0 rfl
 have i_0:=H.own.2.2 z0 (by simp)
 have p_0:=H.nn z0 (by simp)
 have hwz0:IntKind.u64.wrap z0=z0:=u64_nonneg p_0 (by have:=i_0.2;omega)
 have u_0:U64 z0:=⟨p_0,by have:=i_0.2;omega⟩
 suffices hgoal: ∀Post:Ending->World->Prop,(∀w',KI base kb mb w' (Q5S z0 k).2->Q1F kb mb w w'->Post (.returned (.string (bs (Q5S z0 k).1))) w')->Calls Tryz.prog 76 #[.pointer (some ⟨bk,0,none⟩),.pointer (some ⟨bn,0,none⟩)] w Post from hgoal _ fun w' h1 h2=>⟨rfl,h1,h2⟩
 intro Post hpo
 have HP:=Qh hpo
 have CK:=Qh (fun q=>Z7Z z0 (w.drewN q) (HK.out.below (below_drewN (Below.refl _ _) q)) i_0)
 clear hpo H hnn hcell hb3
 go_enter Tryz.func76,Tryz.ntmps76
 go_upto_block 1 with fail
 go_region_held3 (fun w'=>w'.cell? ⟨bk,0,none⟩=some (.pointer (some ⟨kb,0,none⟩))/\w'.cell? ⟨bn,0,none⟩=some (.slice (some ⟨b3,0,none⟩) 1 c3)/\w'.cell? ⟨b3,0,none⟩=some (.int .i64 z0)) (go_keep) (first|(go_at_call 77;refine (CK.out _).mono ?_;rintro e W1 ⟨E,rfl,hr,hE,hk,hn⟩;have N1:=Qh (Q1F.undrew hn);have q1_0:=(Q0e (p:=⟨bk,0,none⟩) N1.out l_k e_k1 e_k2).trans k_0;have q1_1:=(Q0e (p:=⟨bn,0,none⟩) N1.out l_n e_n1 e_n2).trans k_1;have q1_2:=(Q0e (p:=⟨b3,0,none⟩) N1.out l_b e_b1 e_b2).trans k_2;have HR:=Qh hr;have HZ:=Qh hk;have CT:=Qh (Q9S E W1 hE.1 hE.2 (HL.out.low (N1.out.low H0.out.1 H0.out.2.1 H0.out.2.2)).lay.2.1);clear hr hk hn CK)|(go_at_call 62;refine (CT.out).mono ?_;rintro e W2 ⟨rfl,hb⟩;have N2:=Qh (N1.out.below hb);have q2_0:=(Q0e (p:=⟨bk,0,none⟩) N2.out l_k e_k1 e_k2).trans k_0;have q2_1:=(Q0e (p:=⟨bn,0,none⟩) N2.out l_n e_n1 e_n2).trans k_1;have q2_2:=(Q0e (p:=⟨b3,0,none⟩) N2.out l_b e_b1 e_b2).trans k_2;have HZ2:=Qh (HZ.out.below hb);clear hb CT q1_0 q1_1 q1_2))
 go_wp2_with fail
 have hp:=HP.out W2 HZ2.out N2.out
 rw [HR.out] at hp
 exact hp
end
theorem Q1L (E:Int) (w:World) (h0:0<=E) (h1:E<=1000) (htab:Lib.TabIs Tryz.prog w "internal/strconv.uint64pow10" .u64 Lib.pow10Tab):
  Calls Tryz.prog 33 #[.int .i64 E] w fun e w'=>e= .returned (.string (bs (Q2h E)))/\Below w.heap.size w w':=by
 obtain ⟨sn,hsn⟩: ∃sn,sn=bs (Q3y E):=⟨_,rfl⟩
 have CI:=Qh (Q3n E w h0 (by omega) htab)
 rw [<-hsn] at CI
 have hss:sn.size<=20:=by rw [hsn,Q0q];exact Q1c _ (by omega)
 have HT:=Qh (show (⟨#[101,114,114,111,114,32]⟩:ByteArray)++sn=bs (Q2h E) by rw [hsn];exact Q0p [101,114,114,111,114,32] (Q3y E))
 clear hsn
 go_enter Tryz.func33,Tryz.ntmps33
 go_wp2_with fail
 refine CI.out.mono ?_
 rintro e w' ⟨rfl,k,os,rfl⟩
 try dsimp only
 go_wp2_with fail
 go_ret
 exact ⟨by rw [<-HT.out];rfl,below_grow w k os⟩
theorem Z4E (E:Int) (w:World) (h0:0<=E) (h1:E<=1000) (htab:Lib.TabIs Tryz.prog w "internal/strconv.uint64pow10" .u64 Lib.pow10Tab):
  Calls Tryz.prog 92 #[.int .i64 E] w fun e w'=>e= .returned (.string (bs (Z9b E)))/\Below w.heap.size w w':=by
 have CF:=Qh (Q1L E w h0 h1 htab)
 by_cases hE:E=0
 ·subst hE
  go_enter Tryz.func92,Tryz.ntmps92
  go_wp2_with fail
  go_ret
  exact ⟨rfl,Below.refl _ _⟩
 ·have HD:=Qh (show Z9b E=Q2h E from if_neg hE)
  have hb:(E !=0)=true:=by rw [bne_iff_ne];exact hE
  clear hE
  go_enter Tryz.func92,Tryz.ntmps92
  go_wp2_with fail
  refine CF.out.mono ?_
  rintro e w' ⟨rfl,hb⟩
  try dsimp only
  go_wp2_with fail
  go_ret
  exact ⟨by rw [HD.out];rfl,hb⟩
theorem Q4B (va:Value) (zs:List Int) (w:World) (h1:Q0y w va zs) (h0: ∀z∈zs,0<=z):
  Calls Tryz.prog 38 #[va] w fun e w'=> ∃v,e= .returned v/\Q0c w' w.heap.size v zs/\Below w.heap.size w w':=by
 have KS:=Qh h1
 have H0:=Qh h0
 obtain ⟨A1,c1,rfl,hc1,hm1,hl1,hi1,hr1⟩:=h1
 suffices hgoal: ∀Post:Ending->World->Prop,(∀v w',Q0c w' w.heap.size v zs->Below w.heap.size w w'->Post (.returned v) w')->Calls Tryz.prog 38 #[.slice A1 zs.length c1] w Post from hgoal _ fun v w' h1 h2=>⟨v,rfl,h1,h2⟩
 intro Post hpo
 have HP:=Qh hpo
 clear hm1 hpo hr1 hi1 h0
 go_enter Tryz.func38,Tryz.ntmps38
 go_wp2_with fail
 go_loopw [3,4] (fun v i wr=> ∃k:Nat,k<=zs.length/\i= .int .i64 k/\Q0c wr w.heap.size v (zs.take k)/\Below w.heap.size w wr) (fun _ i _=>zs.length - (intOf i).toNat)
 case atStart=>exact ⟨0,Nat.zero_le _,rfl,Q0c.nil _ _,Below.refl _ _⟩
 case round=>
  obtain ⟨k,hk,rfl,hown,hbel⟩:=hrel
  have KW:=Qh hown
  have BEL:=Qh hbel
  have hs1:=hbel.size
  clear hown hbel
  by_cases hlt:k<zs.length
  ·obtain ⟨A,c,hA,_,_,_,hi,hr⟩:=KS.out.below BEL.out
   injection hA with hA1 hA2 hA3
   subst hA1 hA3
   obtain ⟨b1,o1,z,rfl,hb1,hz,hz64,hcz⟩:=ints_at hr hi hlt
   have hz0:=H0.out z (List.mem_of_getElem? hz)
   have hzu:U64 z:=⟨hz0,by have:=hz64.2;omega⟩
   have HZU:=Qh hzu
   have hwz:IntKind.u64.wrap z=z:=u64_nonneg hz0 (by have:=hz64.2;omega)
   have HNX:=Qh (show zs.take (k+1)=zs.take k++ [z] by rw [List.take_add_one,hz];rfl)
   have HKL:=Qh (show (zs.take k).length=k by rw [List.length_take];omega)
   clear hr hi hb1 hz hA2 hzu
   go_wp2_with (at_builtin;go_loud (refine Q0B rfl _ _ rfl w.heap.size _ _ z wr.heap.size 1 rfl (KW.out.alloc _) rfl (Q0o _ _ _) HZU.out (by rw [HKL.out];omega) (by rw [size_alloc];omega) ?_))
   intro v' w5 hown' hbel'
   have K5:=Qh hown'
   have B5:=Qh ((BEL.out.alloc hs1 (.cells #[.int .u64 z] 67)).trans hbel')
   clear hown' hbel'
   go_wp2_with fail
   exact ⟨⟨k+1,by omega,by go_num,by rw [HNX.out];exact K5.out,B5.out⟩,by simp [intOf]<;>omega⟩
  ·obtain rfl:k=zs.length:=by omega
   rw [show zs.take zs.length=zs from List.take_length] at KW
   go_wp2_with fail
   exact HP.out _ _ KW.out BEL.out
end Go.Proofs.YtploomncapiloaaGreatDoor
