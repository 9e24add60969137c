/- Parts of the proof, put together by a program: ThroughW. No condition. -/
import Derived.Test.YtploomncapiloaaGreatDoorSAH
set_option maxRecDepth 100000
set_option maxHeartbeats 8000000
namespace Go.Proofs.YtploomncapiloaaGreatDoor
open Go.RowKit Croft
theorem Y4b {P:Program} {f:FuncId} {args:Array Value} {w:World} {n:Nat} {v:Value} (h:Calls P f args (w.drewN n) fun e w'=>e= .returned v/\ ∃m,w'=(w.drewN n).drewN m):
  Calls P f args (w.drewN n) fun e w''=>e= .returned v/\ ∃m,w''=w.drewN m:=h.mono fun _ _ ⟨he,m,hm⟩=>⟨he,n+m,by rw [hm,World.drewN_drewN]⟩
theorem size_alloc (w:World) (o:Obj):(w.alloc o).heap.size=w.heap.size+1:=by show (w.heap.push o).size=_;simp
theorem Q7n {l:List (Int×Int)} {most:Int} {k:Nat} (h: ¬Q1P (l.take k) most):Y5z l most=false:=decide_eq_false fun hh=>h (Q3F k hh)
theorem Y2l (va:Value) (l:List (Int×Int)) (most:Int) (w:World) (h1:Q0V w va l):
  Calls Tryz.prog 128 #[va,.int .i64 most] w fun e w'=>e= .returned (.bool (Y5z l most))/\ ∃n,w'=w.drewN n:=by
 obtain ⟨A1,c1,rfl,hc1,hm1,hl1,hu1,hr1⟩:=h1
 go_enter Tryz.func128,Tryz.ntmps128
 go_wp2_with fail
 go_loopw [5] (fun i wr=> ∃k n:Nat,k<=l.length/\i= .int .i64 k/\Q1P (l.take k) most/\wr=w.drewN n) (fun i _=>l.length - (intOf i).toNat)
 case atStart=>exact ⟨0,0,Nat.zero_le _,rfl,⟨by simp,by simp⟩,rfl⟩
 case round=>
  obtain ⟨k,n,hk,rfl,hok,hw⟩:=hrel
  have hr:=hr1.drewn hw
  have HW:=Qh hw
  have HK:=Qh hok
  clear hw hr1 hok
  by_cases hlt:k<l.length
  ·obtain ⟨b1,o1,at_,y,rfl,hb1,hg,hat,huy,hc1,hc2⟩:=Q2S hr hu1 hlt
   have HG:=Qh hg
   clear hg
   by_cases hin:1<=at_/\at_<=most
   ·have HD:=Qh (decide_eq_true hin)
    have HI:=Qh hin
    clear hin
    go_wp2_with fail
    refine (Q1N _ _ _ _).mono ?_
    rintro e w' ⟨rfl,rfl⟩
    rw [HD.out]
    try dsimp only
    go_wp2_with fail
    obtain ⟨wo,hwo⟩: ∃wo,wo=wr:=⟨_,rfl⟩
    subst hwo
    go_loopw [6] (fun i wr=> ∃j n:Nat,j<=k/\i= .int .i64 j/\(∀i s,i<j->l[i]? =some s->s.1≠at_)/\wr=wo.drewN n) (fun i _=>k - (intOf i).toNat)
    case atStart=>exact ⟨0,0,Nat.zero_le _,rfl,fun i s h=>by omega,rfl⟩
    case round=>
     obtain ⟨j,m,hj,rfl,hne,hw2⟩:=hrel
     have hr2:=hr.drewn hw2
     have HW2:=Qh hw2
     have HN:=Qh hne
     clear hne hc1 hc2
     by_cases hlt2:j<k
     ·obtain ⟨b2,o2,at2,y2,hA,hb2,hg2,hat2,huy2,hd1,hd2⟩:=Q2S hr2 hu1 (show j<l.length by omega)
      obtain ⟨b3,o3,at3,y3,hA3,hb3,hg3,hat3,huy3,hd3,hd4⟩:=Q2S hr2 hu1 hlt
      injection hA with hA
      injection hA with hA1 hA2
      subst hA1 hA2
      injection hA3 with hA3
      injection hA3 with hA4 hA5
      subst hA4 hA5
      have he3:(at3,y3)=(at_,y):=by have:=HG.out;rw [hg3] at this;injection this
      injection he3 with he4 he5
      subst he4 he5
      have HG2:=Qh hg2
      clear hg2 hg3 hw2 hr hr2 hb2 hb3
      by_cases heq:at2=at3
      ·subst heq
       go_wp2_with fail
       go_quiet (fail)
       go_wp2_with fail
       go_ret
       refine ⟨?_,n+(m+nq), ?_⟩
       ·rw [Q7n (k:=k+1) (fun hh=>((Q4o HG.out).1 hh).2.2 (List.mem_map.2 ⟨_,List.mem_of_getElem? (i:=j) (by rw [List.getElem?_take,if_pos hlt2];exact HG2.out),rfl⟩))];rfl
       ·rw [Q4n HW2.out,HW.out,World.drewN_drewN]
      ·have hbne:(at2==at3)=false:=by rw [beq_eq_false_iff_ne];exact heq
       have HNE:=Qh heq
       clear heq
       go_wp2_with fail
       go_quiet (fail)
       go_wp2_with fail
       refine ⟨⟨j+1,_,by omega,by go_num,fun i s hi hs=> ?_,Q4n HW2.out _⟩,by simp [intOf]<;>omega⟩
       by_cases hij:i=j
       ·subst hij;rw [HG2.out] at hs;injection hs with hs;subst hs;exact HNE.out
       ·exact HN.out i s (by omega) hs
     ·clear hw2
      go_wp2_with fail
      obtain rfl:j=k:=by omega
      refine ⟨⟨j+1,_,by omega,by go_num,(Q4o HG.out).2 ⟨HK.out,HI.out,fun hm=> ?_⟩,(HW2.out).trans (by rw [HW.out,World.drewN_drewN])⟩,by simp [intOf]<;>omega⟩
      obtain ⟨s,hs,hse⟩:=List.mem_map.1 hm
      obtain ⟨i,hi,his⟩:=List.getElem_of_mem hs
      simp only [List.length_take] at hi
      refine HN.out i s (by omega) ?_ hse
      rw [<-his,List.getElem_take]
      exact List.getElem?_eq_getElem (by omega)
   ·have HD:=Qh (decide_eq_false hin)
    have HI:=Qh hin
    clear hin
    go_wp2_with fail
    refine (Q1N _ _ _ _).mono ?_
    rintro e w' ⟨rfl,rfl⟩
    rw [HD.out]
    try dsimp only
    go_wp2_with fail
    go_ret
    refine ⟨?_,n,HW.out⟩
    rw [Q7n (k:=k+1) (fun hh=>HI.out ((Q4o HG.out).1 hh).2.1)];rfl
  ·go_wp2_with fail
   go_ret
   refine ⟨?_,n,HW.out⟩
   have h:=HK.out
   rw [List.take_of_length_le (by omega)] at h
   rw [show Y5z l most=true from decide_eq_true h];rfl
theorem Q5a (w:World) (base:Nat) (zs:List Int) (h: ∀z∈zs,U64 z) (hl:zs.length<=1000) (hb:base<=w.heap.size):Q0c (w.alloc (.cells (Q2o zs).toArray 67)) base (.slice (some ⟨w.heap.size,0,none⟩) zs.length zs.length) zs:=by
 refine ⟨⟨by rw [Q0Y];omega,.inr ⟨w.heap.size,zs.length,(Q2o zs).toArray,rfl,hb,heap_alloc_new w _,Nat.le_refl _,by unfold maxLen;omega,by simp [Q0Y], ?_⟩⟩,by omega,h⟩
 unfold Q2o
 exact List.take_of_length_le (by simp)
def Q2X (l:List (Int×Int)):List (F×F):=l.map fun s=>(toF s.1,toF s.2)
theorem Z2G (l:List (Int×Int)):(Q2X l).map (·.1)=(l.map (·.1)).map toF:=by simp [Q2X]
theorem Z0s {a b:Int} (ha:1<=a/\a<=2147483646) (hb:1<=b/\b<=2147483646) (h:toF a=toF b):a=b:=by
 rw [Q8I,<-Y5x,Int.emod_eq_of_lt (by omega) (by omega),Int.emod_eq_of_lt (by omega) (by omega)] at h
 exact h
theorem Q2v {l:List (Int×Int)} (h:Q1P l 2147483646):((Q2X l).map (·.1)).Nodup:=by
 rw [Z2G]
 obtain ⟨h1,h2⟩:=h
 have h3: ∀a∈l.map (·.1),1<=a/\a<=2147483646:=fun a ha=>by
  obtain ⟨s,hs,rfl⟩:=List.mem_map.1 ha
  exact h1 s hs
 generalize l.map (·.1)=ats at *
 induction ats with
 |nil=>simp
 |cons a ats ih=>
  rw [List.nodup_cons] at h2
  rw [List.map_cons,List.nodup_cons]
  refine ⟨fun hm=> ?_,ih h2.2 (fun b hb=>h3 b (by simp [hb]))⟩
  obtain ⟨b,hb,hbe⟩:=List.mem_map.1 hm
  have:=Z0s (h3 a (by simp)) (h3 b (by simp [hb])) hbe.symm
  subst this
  exact h2.1 hb
theorem Z6o {l:List (Int×Int)} {k:Nat} {a y:Int} (h:l[k]? =some (a,y)):Q2X (l.take (k+1))=Q2X (l.take k)++ [(toF a,toF y)]:=by
 rw [List.take_add_one,h]
 simp [Q2X]
theorem Z6p {l:List (Int×Int)} {k:Nat} {a:Int} (hok:Q1P (l.take k) 2147483646) (ha:1<=a/\a<=2147483646):(toF a∈(Q2X (l.take k)).map (·.1))↔a∈(l.take k).map (·.1):=by
 rw [Z2G]
 constructor
 ·intro h
  obtain ⟨b,hb,hbe⟩:=List.mem_map.1 h
  obtain ⟨s,hs,rfl⟩:=List.mem_map.1 hb
  rw [Z0s ha (hok.1 s hs) hbe.symm];exact hb
 ·intro h;exact List.mem_map.2 ⟨a,h,rfl⟩
theorem Z9j (x:Int):Q0f [ofF (toF 0 - toF x),1]= [-toF x,1]:=by
 simp only [Q0f,List.map,Q0m,Q8K,Q1G]
 congr 1
theorem Z1E (va:Value) (l:List (Int×Int)) (w:World) (h1:Q0V w va l) (h:l.length<=40):
  Calls Tryz.prog 162 #[va] w fun e w'=>(Q1P l 2147483646-> ∃Q,Interp (Q2X l) Q/\Q1o w e w' (Q0g Q) 0)/\(¬Q1P l 2147483646->Q1o w e w' [] 5):=by
 obtain ⟨A1,c1,rfl,hc1,hm1,hl1,hu1,hr1⟩:=h1
 have h': ¬(40:Int)<(l.length:Int):=by omega
 suffices hgoal: ∀Post:Ending->World->Prop,(∀e w' Q,Q1P l 2147483646->Interp (Q2X l) Q->Q1o w e w' (Q0g Q) 0->Post e w')->(∀e w',¬Q1P l 2147483646->Q1o w e w' [] 5->Post e w')->Calls Tryz.prog 162 #[.slice A1 l.length c1] w Post from
  hgoal _ (fun e w' Q ha hi hr=>⟨fun _=>⟨Q,hi,hr⟩,fun hn=>absurd ha hn⟩) (fun e w' ha hr=>⟨fun hn=>absurd hn ha,fun _=>hr⟩)
 intro Post hp1 hp2
 have HP1:=Qh hp1
 have HP2:=Qh hp2
 clear hp1 hp2
 go_enter Tryz.func162,Tryz.ntmps162
 go_wp2_with (refine Q1a rfl _ _ rfl w.heap.size _ l.length rfl rfl rfl (by omega) (Nat.le_refl _) ?_)
 intro W1 ho hb
 have HO:=Qh ho
 have HB:=Qh hb
 have hsz:=hb.size
 have hlt:=(ho.1.lt w.heap.size rfl).2
 clear ho hb
 have K0:=Qh (show Q0c (W1.alloc (.cells #[.int .u64 1] 67)) w.heap.size (.slice (some ⟨w.heap.size,0,none⟩) l.length l.length) (Q0g (List.replicate l.length 0)) by
  have:Q0g (List.replicate l.length 0)=List.replicate l.length 0:=by simp [Q0g,Q9J]
  rw [this];exact HO.out.alloc _)
 have K1:=Qh (show Q0c (W1.alloc (.cells #[.int .u64 1] 67)) (w.heap.size+1) (.slice (some ⟨W1.heap.size,0,none⟩) 1 1) (Q0g [1]) from Q5a W1 (w.heap.size+1) [1] (by simp [U64]) (by simp) (by omega))
 have BEL:=Qh (HB.out.alloc (by omega) (.cells #[.int .u64 1] 67))
 have R0:=Qh ((hr1.below HB.out).below ((Below.refl _ _).alloc (Nat.le_refl _) (.cells #[.int .u64 1] 67)))
 clear HO HB
 go_wp2_with fail
 obtain ⟨w0,hw0⟩: ∃w0,w0=W1.alloc (.cells #[.int .u64 1] 67):=⟨_,rfl⟩
 rw [<-hw0] at K0 K1 BEL R0⊢
 clear hw0
 go_loopw [5,23] (fun bv i wr=> ∃(k:Nat) (O:List F),k<=l.length/\i= .int .i64 k/\O.length=l.length/\Q1P (l.take k) 2147483646/\Goes O (Q2X (l.take k))/\Q0c wr w.heap.size (.slice (some ⟨w.heap.size,0,none⟩) l.length l.length) (Q0g O)/\Q0c wr (w.heap.size+1) bv (Q0g (Q5F ((Q2X (l.take k)).map (·.1))))/\Below w.heap.size w wr) (fun _ i _=>l.length - (intOf i).toNat)
 case atStart=>exact ⟨0,List.replicate l.length 0,Nat.zero_le _,rfl,by simp,⟨by simp,by simp⟩,fun p hp=>by simp [Q2X] at hp,K0.out,K1.out,BEL.out⟩
 case round=>
  obtain ⟨k,O,hk,rfl,hO,hok,hg,hoo,hob,hbel⟩:=hrel
  clear K0 K1 BEL R0
  have HOK:=Qh hok
  have HG:=Qh hg
  have KO:=Qh hoo
  have KB:=Qh hob
  have BEL:=Qh hbel
  have hsz:=hbel.size
  have hr:=hr1.below hbel
  clear hok hg hoo hob
  by_cases hlt:k<l.length
  ·obtain ⟨b1,o1,at_,y,rfl,hb1,hgk,hat,huy,hc1,hc2⟩:=Q2S hr hu1 hlt
   have HGK:=Qh hgk
   obtain ⟨B,hB⟩: ∃B,B=Q5F ((Q2X (l.take k)).map (·.1)):=⟨_,rfl⟩
   have hBl:B.length=k+1:=by rw [hB,Q4P];simp [Q2X];omega
   rw [<-hB] at KB
   have HBB:=Qh hB
   obtain ⟨gb,cb,hv,hgb1,hgb2,hcb1,hcb2⟩:=KB.out.form (by rw [Q0d];omega)
   rw [Q0d,hBl] at hv
   subst hv
   rw [Q0d] at hcb1
   clear hgk hr hbel hB
   by_cases hin:1<=at_/\at_<=2147483646
   ·have HIN:=Qh hin
    have hd1:decide (at_<1)=false:=by simp;omega
    obtain ⟨hi1,hi2⟩:=hin
    go_wp2_with fail
    obtain ⟨u,hu⟩: ∃u,u=Q0n B (toF at_):=⟨_,rfl⟩
    have HU:=Qh hu
    refine (Q8L _ _ _ _ (KB.out.is.below ((Below.refl _ _).alloc (Nat.le_refl _) _)) (show 0<=at_ by omega)).mono ?_
    rintro e w' ⟨rfl,n1,hw1⟩
    rw [Q0A,<-HU.out]
    have W1:=Qh hw1
    clear hu hw1
    dsimp only
    go_wp2_with fail
    refine (Q9M _ _ (Q0i _)).mono ?_
    rintro e w' ⟨rfl,rfl⟩
    rw [Q0m]
    by_cases hz:u=0
    ·have hze:Y3S u=1:=if_pos hz
     rw [hze]
     have HN:=Qh (show¬Q1P l 2147483646 from fun h=>by
      have h1:=(Z6p HOK.out HIN.out).1 ((Q5g _ _).1 (by rw [<-HBB.out];exact HU.out.symm.trans hz))
      exact ((Q4o HGK.out).1 (Q3F (k+1) h)).2.2 h1)
     clear hz hze
     dsimp only
     go_wp2_with fail
     refine HP2.out _ _ HN.out ⟨_,rfl,Q0c.nil _ _, ?_⟩
     rw [W1.out]
     exact below_drewN (BEL.out.alloc hsz _) _
    ·have hze:Y3S u=0:=if_neg hz
     rw [hze]
     have HNM:=Qh (show toF at_∉(Q2X (l.take k)).map (·.1) from fun h=>hz (HU.out.trans (by rw [HBB.out];exact (Q5g _ _).2 h)))
     clear hze hz
     have KOw:=Qh (show Q0h w' (.slice (some ⟨w.heap.size,0,none⟩) l.length l.length) (Q0g O) from by rw [W1.out];exact (KO.out.is.below ((Below.refl _ _).alloc (Nat.le_refl _) _)).drewN _)
     have hcy:w'.cell? ⟨wr.heap.size,1,none⟩=some (.int .u64 y):=by
      rw [W1.out]
      show (wr.alloc _).cell? _=_
      rw [cell_of_row _ _ 1 _ _ (0,0) (heap_alloc_new _ _)];rfl
     obtain ⟨x,hx⟩: ∃x,x=toF at_:=⟨_,rfl⟩
     obtain ⟨c,hc⟩: ∃c,c=(toF y - Q0n O x) * inv u:=⟨_,rfl⟩
     have HX:=Qh hx
     have HC:=Qh hc
     clear hx hc
     dsimp only
     go_wp2_with fail
     refine Q0D 8 (by kernel_rfl) (by kernel_rfl) ?_
     simp only [List.take_succ_cons,List.take_zero,List.drop_succ_cons,List.drop_zero]
     repeat (go_big_quiet_step ((first|exact Y4b (Q8L _ _ _ _ (KOw.out.drewN _) (by omega))|exact Q1b (Q1t _ _ _ (Q0i _) (Q0i _))|exact Q1b (Q4N _ _ _ huy.1 (Q0i _)))))
     refine wpQuiet_nil ?_
     intro nq
     simp only [Q0m,Q0A]
     rw [<-HX.out,<-HC.out]
     have KO2:=Qh (show Q0c (w'.drewN nq) w.heap.size (.slice (some ⟨w.heap.size,0,none⟩) l.length l.length) (Q0g O) from by rw [W1.out];exact ((KO.out.alloc _).drewN _).drewN _)
     have KB2:=Qh (show Q0c (w'.drewN nq) (w.heap.size+1) (.slice (some ⟨gb,0,none⟩) (k+1) cb) (Q0g B) from by rw [W1.out];exact ((KB.out.alloc _).drewN _).drewN _)
     have BEL2:=Qh (show Below w.heap.size w (w'.drewN nq) from by rw [W1.out];exact below_drewN (below_drewN (BEL.out.alloc hsz _) _) _)
     clear hcy
     obtain ⟨wo,hwo⟩: ∃wo,wo=w'.drewN nq:=⟨_,rfl⟩
     rw [<-hwo] at KO2 KB2 BEL2⊢
     clear hwo
     go_wp2_with fail
     go_loopw [57] (fun i wr=> ∃j:Nat,j<=k+1/\i= .int .i64 j/\Q0c wr w.heap.size (.slice (some ⟨w.heap.size,0,none⟩) l.length l.length) (Q0g (Z6l O c B j))/\Q0c wr (w.heap.size+1) (.slice (some ⟨gb,0,none⟩) (k+1) cb) (Q0g B)/\Below w.heap.size w wr) (fun i _=>k+1 - (intOf i).toNat)
     case atStart=>exact ⟨0,Nat.zero_le _,rfl,by rw [Z8W];exact KO2.out,KB2.out,BEL2.out⟩
     case round=>
      obtain ⟨j,hj,rfl,ho,hb,hbel⟩:=hrel
      clear KO2 KB2 BEL2 KOw
      by_cases hlt2:j<k+1
      ·have hcb:=hb.cell (Q1H (Q2r (l:=B) (j:=j) (by omega)))
       have hco:=ho.cell (Q1H (Q2r (l:=Z6l O c B j) (j:=j) (by rw [Q1U];omega)))
       have hfo:=ho.frozen j
       obtain ⟨s,hs⟩: ∃s,s=co (Z6l O c B j) j:=⟨_,rfl⟩
       obtain ⟨q,hq⟩: ∃q,q=co B j:=⟨_,rfl⟩
       have ho2:=ho.set_ j (U64.of_ofF (s+c * q))
       rw [Q9P,hs,hq,Y1T] at ho2
       rw [<-hs] at hco
       rw [<-hq] at hcb
       have HS:=Qh hs
       have HQ:=Qh hq
       have HO:=Qh ho2
       have HB:=Qh (hb.far (g':=w.heap.size) (by omega) j (.int .u64 (ofF (s+c * q))))
       have HBE:=Qh (hbel.setCell (p:=⟨w.heap.size,j,none⟩) (Nat.le_refl _) (.int .u64 (ofF (s+c * q))))
       rw [<-HS.out,<-HQ.out] at HO
       clear ho hb ho2 hbel hs hq
       go_wp2_with fail
       refine Q0D 11 (by kernel_rfl) (by kernel_rfl) ?_
       simp only [List.take_succ_cons,List.take_zero,List.drop_succ_cons,List.drop_zero]
       repeat (go_big_quiet_step ((first|exact Q1b (Q1t _ _ _ (Q0i _) (Q0i _))|exact Q1b (Q5A _ _ _ (Q0i _) (Q0i _)))))
       refine wpQuiet_nil ?_
       intro nq
       go_wp2_with fail
       simp only [Q0m]
       refine ⟨⟨j+1,by omega,by go_num,HO.out.drewN nq,HB.out.drewN nq,below_drewN HBE.out nq⟩,by simp [intOf]<;>omega⟩
      ·have hjk:j=k+1:=by omega
       subst hjk
       have HO:=Qh ho
       have HB:=Qh hb
       have HBE:=Qh hbel
       have hsz2:=hbel.size
       clear ho hb hbel
       go_wp2_with fail
       refine (Q4N _ _ _ (by omega) (show 0<=at_ by omega)).mono ?_
       rintro e w' ⟨rfl,rfl⟩
       dsimp only
       go_wp2_with fail
       refine (Y1P _ _ (Q0g B) [ofF (toF 0 - toF at_),1] _ (by have h:=HB.out.is.alloc (.cells #[.int .u64 (ofF (toF 0 - toF at_)),.int .u64 1] 67);exact h) (Q5a _ 0 [ofF (toF 0 - toF at_),1] (fun z hz=>by simp at hz;rcases hz with rfl|rfl;exact U64.of_ofF _;exact ⟨by omega,by omega⟩) (by simp) (Nat.zero_le _)).is (by rw [Q0d];omega) (by simp)).mono ?_
       rintro e W5 ⟨v5,rfl,ho,hb⟩
       rw [Q0A,Z9j] at ho
       have K5:=Qh ho
       replace HO:=Qh ((HO.out.alloc (.cells #[.int .u64 (ofF (toF 0 - toF at_)),.int .u64 1] 67)).below hb)
       replace HBE:=Qh (Q0b (HBE.out.alloc hsz2 (.cells #[.int .u64 (ofF (toF 0 - toF at_)),.int .u64 1] 67)) hb (by rw [size_alloc];omega))
       clear ho hb
       dsimp only
       go_wp2_with fail
       refine ⟨⟨k+1,Z6l O c B (k+1),by omega,by go_num,by rw [Q1U];exact hO,(Q4o HGK.out).2 ⟨HOK.out,HIN.out,fun hm=>HNM.out ((Z6p HOK.out HIN.out).2 hm)⟩, ?_,HO.out, ?_,HBE.out⟩,by simp [intOf]<;>omega⟩
       ·rw [Z6o HGK.out,<-hBl,HBB.out]
        exact Z8Y HG.out (by simp [Q2X];omega) HNM.out (by rw [HC.out,HU.out,HBB.out,HX.out])
       ·rw [Z6o HGK.out,List.map_append]
        simp only [List.map_cons,List.map_nil]
        rw [Z1Z,<-HBB.out]
        exact K5.out.less (by rw [size_alloc];omega)
   ·have HIN:=Qh hin
    have HN:=Qh (show¬Q1P l 2147483646 from fun h=>HIN.out ((Q4o HGK.out).1 (Q3F (k+1) h)).2.1)
    by_cases h1:at_<1
    ·clear hin
     go_wp2_with fail
     exact HP2.out _ _ HN.out ⟨_,rfl,Q0c.nil _ _,BEL.out.alloc hsz _⟩
    ·have hd1:decide (at_<1)=false:=by simp;omega
     have h2:at_>=2147483647:=by omega
     clear hin
     go_wp2_with fail
     exact HP2.out _ _ HN.out ⟨_,rfl,Q0c.nil _ _,BEL.out.alloc hsz _⟩
  ·have hkl:k=l.length:=by omega
   clear hr hbel
   go_wp2_with fail
   refine (Q4t _ _ _ KO.out.is).mono ?_
   rintro e W3 ⟨v3,rfl,ho,hb⟩
   rw [Q0A] at ho
   have K3:=Qh (ho.less hsz)
   replace BEL:=Qh (Q0b BEL.out hb hsz)
   clear ho hb
   dsimp only
   go_wp2_with fail
   have h1:=HOK.out
   have h2:=HG.out
   rw [hkl,List.take_of_length_le (Nat.le_refl _)] at h1 h2
   exact HP1.out _ _ _ h1 (Z1v h2 (by simp [Q2X,hO])) ⟨_,rfl,K3.out,BEL.out⟩
end Go.Proofs.YtploomncapiloaaGreatDoor
