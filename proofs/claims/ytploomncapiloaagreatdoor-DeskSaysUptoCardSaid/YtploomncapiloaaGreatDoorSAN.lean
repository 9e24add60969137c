/- Parts of the proof, put together by a program: MulW PushW. No condition. -/
import Derived.Test.YtploomncapiloaaGreatDoorSAK
import Derived.Test.YtploomncapiloaaGreatDoorSAM
import Derived.Deep.RegionHeld3
set_option maxRecDepth 100000
set_option maxHeartbeats 8000000
namespace Go.Proofs.YtploomncapiloaaGreatDoor
open Go.RowKit Croft
theorem Q3p {ops:Array Oper} {rest:List Oper} {o:Oper} {a:Act} {Q:Exit->Act->World->Prop} {w:World} (hgd:o.guard=none) (s x:Operand)
  (ho:o.op= .call {callee:= .builtin .append,args:= #[s,x],argTypes:= #[53,53]})
  (base:Nat) (v:Value) (zs:List Int) (z:Int) (g c:Nat) (hs:a.eval s=v) (hown:Q0j w base v zs) (hx:a.eval x= .slice (some ⟨g,0,none⟩) 1 c)
  (hc:w.cell? ⟨g,0,none⟩=some (.int .i64 z)) (hz:I64 z) (hl:zs.length+1<=17592186043904) (hb:base<=w.heap.size)
  (h: ∀v' w',Q0j w' base v' (zs++ [z])->Below base w w'->w.grownBy w' v.ownBlock->wpList Tryz.prog ops Q rest (a.put o.dst v') w'):wpList Tryz.prog ops Q (o::rest) a w:=by
 obtain ⟨i0,hi,hz0,hz1,hz2⟩:=info_parts Y1R
 refine wpList_append_own w hgd s x 53 ho base 3 i0 (.int .i64 0) 1 8 Tryz.underlying53 hi hz0 hz1 hz2 rfl (by decide) v zs.length (Q8M zs) hs hown.1 ⟨g,0,none⟩ 1 c [.int .i64 z] hx rfl ?_ ?_ ?_ ?_ hb ?_
 ·intro j u hu
  match j,hu with
  |0,hu=>
   simp at hu
   subst hu
   rw [Q0N];exact hc
 ·intro u hu
  simp at hu
  subst hu;rfl
 ·unfold maxLen;omega
 ·omega
 ·intro v' w' h1 h2 _
  refine h v' w' ⟨?_, ?_, ?_⟩ ((Below.refl _ _).grown h2 hb (fun k hk=>(hown.1.lt k hk).1)) h2
  ·have e:(zs++ [z]).length=zs.length+1:=by simp
   have e2:Q8M (zs++ [z])=Q8M zs++ [.int .i64 z]:=by simp [Q8M]
   rw [e,e2];exact h1
  ·simpa using hl
  ·intro y hy
   rcases List.mem_append.1 hy with h3|h3
   ·exact hown.2.2 y h3
   ·simp at h3;subst h3;exact hz
def Z9v (w:World) (e:Ending) (w':World) (l:List Int) (g:List (List Int)) (err:Int):Prop:=
 ∃v vg vs,e= .returned (.tuple #[v,vg,.int .i64 err])/\Q0c w' w.heap.size v l/\Q1W w' w.heap.size vg vs g/\(∀(i:Nat) (x:Value) (b:Nat),vs[i]? =some x->x.ownBlock=some b->v.ownBlock≠some b)/\Below w.heap.size w w'
def Z8A (f:Nat->Nat->Int) (m q:Nat):List Int:=(List.range m).map fun i=>f i q
theorem Q3J (f:Nat->Nat->Int) (m q:Nat):(Z8A f m q).length=m:=by simp [Z8A]
theorem Z9w (f:Nat->Nat->Int) (m q:Nat):Z8A f (m+1) q=Z8A f m q++ [f m q]:=by simp [Z8A,List.range_succ]
def Q4w (n:Nat) (f:Nat->Nat->Int) (k j:Nat):List (List Int):=(List.range n).map fun q=>Z8A f (if q<j then k+1 else k) q
theorem Q3d (n:Nat) (f:Nat->Nat->Int) (k j:Nat):(Q4w n f k j).length=n:=by simp [Q4w]
theorem Q8o {n:Nat} (f:Nat->Nat->Int) {k j q:Nat} (h:q<n):(Q4w n f k j)[q]? =some (Z8A f (if q<j then k+1 else k) q):=by simp [Q4w,h]
theorem Z6u {n:Nat} (f:Nat->Nat->Int) {k j:Nat} (h:j<n):(Q4w n f k j)[j]? =some (Z8A f k j):=by rw [Q8o f h,if_neg (by omega)]
theorem Z3Z {n:Nat} (f:Nat->Nat->Int) {k j:Nat} (h:j<n):(Q4w n f k j).set j (Z8A f k j++ [f k j])=Q4w n f k (j+1):=by
 apply List.ext_getElem?
 intro q
 by_cases hq:q<n
 ·rw [Q8o f hq]
  by_cases hqj:q=j
  ·subst hqj
   rw [List.getElem?_set_self (by rw [Q3d];exact h),if_pos (by omega),Z9w]
  ·rw [List.getElem?_set_ne (Ne.symm hqj),Q8o f hq]
   by_cases h1:q<j
   ·rw [if_pos h1,if_pos (by omega)]
   ·rw [if_neg h1,if_neg (by omega)]
 ·rw [List.getElem?_eq_none (by rw [List.length_set,Q3d];omega),List.getElem?_eq_none (by rw [Q3d];omega)]
theorem Z4a (n:Nat) (f:Nat->Nat->Int) (k:Nat):Q4w n f k n=Q4w n f (k+1) 0:=by
 unfold Q4w
 apply List.map_congr_left
 intro q hq
 rw [List.mem_range] at hq
 rw [if_pos hq,if_neg (by omega)]
theorem Z0F (n:Nat) (f:Nat->Nat->Int):Q4w n f 0 0=List.replicate n []:=by
 apply List.ext_getElem?
 intro q
 by_cases hq:q<n
 ·rw [Q8o f hq,if_neg (by omega),List.getElem?_replicate,if_pos hq];rfl
 ·rw [List.getElem?_eq_none (by rw [Q3d];omega),List.getElem?_replicate,if_neg hq]
def Q9l (t:Nat) (A B D:List F) (i q:Nat):Int:=ofF (Q0n ((co A i * co B i)::chunk t D i) (pt q))
theorem Z4b (n t:Nat) (A B D:List F):Q4w n (Q9l t A B D) n 0=(Q9k n t A B D).map Q0g:=by
 unfold Q4w Q9k Z8A Q0g
 rw [List.map_map]
 apply List.map_congr_left
 intro q _
 rw [if_neg (by omega)]
 simp [Q9l,Function.comp_def]
theorem Z9x (n:Nat):wtL (Z1s n) n=Q0g (wts n):=by
 unfold wtL
 rw [List.take_of_length_le (by rw [Q2w];exact Nat.le_refl _),Z9t]
 simp [Z1s,wts,Q0g,pt,Function.comp_def]
theorem Q5l (A:Option Addr) (m c lo hi:Nat) (x y:Int) (hx:x=lo) (hy:y=hi) (h1:lo<=hi) (h2:hi<=c) (W:World):
  (Instr.sliceAt 64 (.slice A m c) (some (.int .i64 x)) (some (.int .i64 y)) none).run Tryz.prog W= .ok (.slice (if c=lo then A else A.map (·.add (lo * 1))) (hi - lo) (c - lo)) W:=by
 subst hx hy
 have hU:Program.underlying Tryz.prog 64=some (.slice (Program.elem Tryz.prog 64)):=by kernel_rfl
 have hs: ∀W,(sizeOf (Program.elem Tryz.prog 64)).run Tryz.prog W= .ok 1 W:=fun W=>by kernel_rfl
 rw [run_sliceAt_slice _ _ _ _ _ _ hU,run_slice_lh W _ A m c hU .i64 .i64 _ _ (by omega) (by omega) (by omega),hs]
 simp [Result.andThen,sliced]
theorem Q0h.cut {w:World} {A:Option Addr} {len c:Nat} {zs:List Int} (h:Q0h w (.slice A len c) zs) (lo hi:Nat) (h1:lo<=hi) (h2:hi<=zs.length):Q0h w (.slice (if c=lo then A else A.map (·.add (lo * 1))) (hi - lo) (c - lo)) ((zs.drop lo).take (hi - lo)):=by
 obtain ⟨A1,c1,e1,e2,e3,e4,e5,e6⟩:=h
 injection e1 with e1a e1b e1c
 subst e1a e1b e1c
 have hl:((zs.drop lo).take (hi - lo)).length=hi - lo:=by simp;omega
 refine ⟨_,_,by rw [hl],by rw [hl];omega,by omega,by rw [hl];omega,fun z hz=>e5 z (List.mem_of_mem_drop (List.mem_of_mem_take hz)), ?_⟩
 rcases Nat.lt_or_ge lo hi with hlt|hge
 ·obtain ⟨b,o,rfl,hb,hc⟩:=e6.at_ (j:=lo) (by rw [Q0Y];omega)
  rw [if_neg (by omega)]
  refine .inr ⟨b,o+lo,by simp [Q0N],hb,fun j hj=> ?_⟩
  rw [Q0Y,hl] at hj
  rw [Nat.add_assoc,hc _ (by rw [Q0Y];omega),Q5B,Q5B,List.getElem?_take,if_pos hj,List.getElem?_drop]
 ·have h0:hi - lo=0:=by omega
  rw [h0];exact .inl (by simp [Q2o])
theorem Z2m (t:Nat) (ds:List Int) (i:Nat):Q0f ((ds.drop (i * t)).take t)=chunk t (Q0f ds) i:=by simp [chunk,Q0f,List.map_take,List.map_drop]
theorem Z9y (n T:Nat) (va vb vd:Value) (xs ys ds:List Int) (w:World) (h1:Q0h w va xs) (h2:Q0h w vb ys) (h3:Q0h w vd ds) (hx:xs.length=n) (hy:ys.length=n) (hd:ds.length=n * T) (hT:T<=4) (hn1:2 * T+1<=n) (hn2:n<=9):
  Calls Tryz.prog 124 #[.int .i64 T,va,vb,vd] w fun e w'=>Z9v w e w' (Q0g (Q2d n T (Q0f xs) (Q0f ys) (Q0f ds))) ((Q9k n T (Q0f xs) (Q0f ys) (Q0f ds)).map Q0g) 0:=by
 have KX:=Qh h1
 have KY:=Qh h2
 have KD:=Qh h3
 have HXL:=Qh hx
 have HYL:=Qh hy
 have HDL:=Qh hd
 obtain ⟨A1,c1,rfl,hc1,hm1,hl1,hu1,hr1⟩:=h1
 obtain ⟨A2,c2,rfl,hc2,hm2,hl2,hu2,hr2⟩:=h2
 obtain ⟨A3,c3,rfl,hc3,hm3,hl3,hu3,hr3⟩:=h3
 clear hu1 hr1 hm1 hu2 hr2 hm2 hu3 hr3
 unfold maxLen at hm3
 rw [hx] at KX hc1 hl1⊢
 rw [hy] at KY hc2 hl2⊢
 rw [hd] at KD hc3 hl3⊢
 clear hx hy hd
 have hnT:n * T<=36:=Nat.mul_le_mul hn2 hT
 obtain ⟨f,hf⟩: ∃f,f=Q9l T (Q0f xs) (Q0f ys) (Q0f ds):=⟨_,rfl⟩
 have HF:=Qh hf
 have HFU:=Qh (show∀i q,U64 (f i q) from fun i q=>by rw [hf];exact U64.of_ofF _)
 clear hf
 have HE:=Qh (show Q4E [n,n]=0 by unfold Q4E Q8f;simp;omega)
 suffices hgoal: ∀Post:Ending->World->Prop,(∀e w',Z9v w e w' (Q0g (Q2d n T (Q0f xs) (Q0f ys) (Q0f ds))) ((Q9k n T (Q0f xs) (Q0f ys) (Q0f ds)).map Q0g) 0->Post e w')->Calls Tryz.prog 124 #[.int .i64 T,.slice A1 n c1,.slice A2 n c2,.slice A3 (n * T) c3] w Post from hgoal _ fun e w' h=>h
 intro Post hp
 have HP:=Qh hp
 clear hp
 have hmul:((n:Nat):Int) * (T:Int)=((n * T:Nat):Int):=by simp
 have hbn:(((n * T:Nat):Int) !=(n:Int) * (T:Int))=false:=by rw [hmul];simp
 have hnT0:0<=(n:Int) * (T:Int)/\(n:Int) * (T:Int)<=36:=by rw [hmul];omega
 have HMUL:=Qh hmul
 clear hmul
 have hd1:decide ((T:Int)<0)=false:=by simp
 have hd2:decide ((T:Int)>4)=false:=by simp;omega
 go_enter Tryz.func124,Tryz.ntmps124
 go_wp2_with fail
 refine (Q8g _ 0 _ n [n] _ ?_ (by simp)).mono ?_
 ·refine ⟨by simp,fun j m hj=> ?_⟩
  match j,hj with
  |0,hj=>simp at hj;subst hj;exact ⟨A1,c1,by simp,hl1⟩
  |1,hj=>simp at hj;subst hj;exact ⟨A2,c2,by simp,hl2⟩
 rintro e w' ⟨rfl,rfl⟩
 rw [HE.out]
 try dsimp only
 go_wp2_with (refine Q4a rfl _ _ rfl (w.heap.size+1) _ n rfl rfl rfl (by omega) (by rw [size_alloc];exact Nat.le_refl _) ?_)
 intro W1 hgr hb
 try rw [size_alloc] at hgr
 try rw [size_alloc]
 have BA:=Qh ((Below.refl w.heap.size w).alloc (Nat.le_refl _) (.cells #[.slice A1 n c1,.slice A2 n c2] 64))
 have KG:=Qh (show Q1W W1 (w.heap.size+1) (.slice (some ⟨w.heap.size+1,0,none⟩) n n) (List.replicate n (.slice none 0 0)) (Q4w n f 0 0) from by
  rw [Z0F];exact hgr)
 have BEL:=Qh (BA.out.trans (hb.mono (by omega)))
 clear hgr hb
 go_wp2_with fail
 go_loopw [13,59] (fun v i wr=> ∃(k:Nat) (vs:List Value),k<=n/\i= .int .i64 k/\Q0j wr (w.heap.size+1) v (Z1s k)/\Q1W wr (w.heap.size+1) (.slice (some ⟨w.heap.size+1,0,none⟩) n n) vs (Q4w n f k 0)/\Below w.heap.size w wr) (fun _ i _=>n - (intOf i).toNat)
 case atStart=>exact ⟨0,_,Nat.zero_le _,rfl,Q0j.nil _ _,KG.out,BEL.out⟩
 case round=>
  obtain ⟨k,vs,hk,rfl,hown,hgr,hbel⟩:=hrel
  have KA:=Qh hown
  have hsz:=hbel.size
  have hgsz:=(hgr.outer.lt (w.heap.size+1) rfl).2
  clear KG BEL
  have KG:=Qh hgr
  have BEL:=Qh hbel
  clear hown hgr hbel
  by_cases hlt:k<n
  ·have hdk:decide ((k:Int)<(n:Int))=true:=by simp;omega
   go_wp2_with (at_builtin;go_loud (refine Q3p rfl _ _ rfl (w.heap.size+1) _ (Z1s k) ((k:Int)+1) wr.heap.size 1 rfl (KA.out.alloc _) rfl (Q0o _ _ _) (by unfold I64;omega) (by rw [Q2w];omega) (by rw [size_alloc];omega) ?_))
   intro v13 w5 ho5 hb5 hg5
   rw [<-Z3Y] at ho5
   have KG5:=Qh ((KG.out.alloc (.cells #[.int .i64 ((k:Int)+1)] 3)).apart_kept (KA.out.alloc (.cells #[.int .i64 ((k:Int)+1)] 3)).1 (by decide) (by decide) hg5)
   have KA5:=Qh ho5
   have B5:=Qh ((BEL.out.alloc hsz (.cells #[.int .i64 ((k:Int)+1)] 3)).trans (hb5.mono (by omega)))
   have hsz5:=B5.out.size
   have hgsz5:=(KG5.out.outer.lt (w.heap.size+1) rfl).2
   clear ho5 hb5 hg5 KA KG BEL
   have KX5:=Qh (KX.out.below B5.out)
   have KY5:=Qh (KY.out.below B5.out)
   have KD5:=Qh (KD.out.below B5.out)
   obtain ⟨A,c,hA,_,_,_,hux,hrx⟩:=KX5.out
   injection hA with hA1 hA2 hA3
   subst hA1 hA3
   clear hA2
   obtain ⟨bx,ox,x,rfl,hbx,hgx,hx64,hcx⟩:=Q0O hrx hux (k:=k) (by rw [HXL.out];exact hlt)
   obtain ⟨A,c,hA,_,_,_,huy,hry⟩:=KY5.out
   injection hA with hA1 hA2 hA3
   subst hA1 hA3
   clear hA2
   obtain ⟨by_,oy,y,rfl,hby,hgy,hy64,hcy⟩:=Q0O hry huy (k:=k) (by rw [HYL.out];exact hlt)
   have hx0:=hx64.1
   have hy0:=hy64.1
   have hbx':=hbx
   have hby':=hby
   have HGX:=Qh (Q1n hgx)
   have HGY:=Qh (Q1n hgy)
   clear hux hrx huy hry hgx hgy hbx hby
   have hk1:(k+1) * T<=n * T:=Nat.mul_le_mul hlt (Nat.le_refl _)
   have hk2:(k+1) * T=k * T+T:=Nat.succ_mul k T
   have e1:(k:Int) * (T:Int)=((k * T:Nat):Int):=by simp
   have e2:((k:Int)+1) * (T:Int)=(((k+1) * T:Nat):Int):=by rw [Int.natCast_mul];rfl
   have hw1:IntKind.i64.wrap ((k:Int)+1)=(k:Int)+1:=IntWalk.i64_in _ (by omega)
   have hw2:IntKind.i64.wrap ((k:Int) * (T:Int))=(k:Int) * (T:Int):=IntWalk.i64_in _ (by rw [e1];omega)
   have hw3:IntKind.i64.wrap (((k:Int)+1) * (T:Int))=((k:Int)+1) * (T:Int):=IntWalk.i64_in _ (by rw [e2];omega)
   have hsl:=Q5l A3 (n * T) c3 (k * T) ((k+1) * T) _ _ e1 e2 (by omega) (by omega)
   have hcut:=KD5.out.cut (k * T) ((k+1) * T) (by omega) (by rw [HDL.out];exact hk1)
   rw [show (k+1) * T - k * T=T by omega] at hsl hcut
   obtain ⟨vc,hvc⟩: ∃vc,vc=Value.slice (if c3=k * T then A3 else A3.map (·.add (k * T * 1))) T (c3 - k * T):=⟨_,rfl⟩
   rw [<-hvc] at hsl hcut
   have HCL:=Qh (show ((ds.drop (k * T)).take T).length=T by simp;rw [HDL.out];omega)
   have HCUT:=Qh hcut
   have BD1:=Qh (below_drewN (Below.refl w5.heap.size w5) 1)
   have HCUT1:=Qh (HCUT.out.below BD1.out)
   clear hcut hvc e1 e2 hk1 hk2
   go_wp2_with fail
   go_region_held3 (fun w'=>w'.cell? ⟨bx,ox+k,none⟩=some (.int .u64 x)/\w'.cell? ⟨by_,oy+k,none⟩=some (.int .u64 y)) (go_keep) (first|(go_at_call 153;refine (Q1t _ _ _ hx0 hy0).mono ?_;rintro e w' ⟨rfl,rfl⟩)|(go_at_call 56;refine (Q8n _ _ _ n _ (U64.of_ofF _) HCUT1.out (by rw [HCL.out];exact hT) (by rw [HCL.out];omega) hn2).mono ?_;rintro e w6 ⟨vl,rfl,ho6,hb6⟩;have q0:=(hb6.cell (p:=⟨bx,ox+k,none⟩) hbx').trans hcx;have q1:=(hb6.cell (p:=⟨by_,oy+k,none⟩) hby').trans hcy))
   have hb6':=Q0b BD1.out hb6 BD1.out.size
   obtain ⟨dl,hdl⟩: ∃dl,dl=Q0g (Q4D n (Q0f (ofF (toF x * toF y)::(ds.drop (k * T)).take T))):=⟨_,rfl⟩
   rw [<-hdl] at ho6
   have HDLn:=Qh (show dl.length=n by rw [hdl,Q0d,Q0K])
   have HDG:=Qh (show∀q,q<n->dl[q]? =some (f k q) from fun q hq=>by
    rw [hdl]
    unfold Q0g
    rw [List.getElem?_map,Q2r (by rw [Q0K];exact hq),Q5d _ hq,HF.out]
    show some (ofF _)=some (Q9l T (Q0f xs) (Q0f ys) (Q0f ds) k q)
    unfold Q9l
    rw [HGX.out,HGY.out,<-Z2m]
    simp [Q0f,Q0m])
   have KG6:=Qh (KG5.out.below hb6')
   have KA6:=Qh (KA5.out.below hb6')
   have B6:=Qh (Q0b B5.out hb6' hsz5)
   have KDL:=Qh ho6
   obtain ⟨gd,cd,hv,hgd1,hgd2⟩:=Q1s ho6.1 (by rw [HDLn.out];omega)
   rw [HDLn.out] at hv
   subst hv
   have H0:=Qh (show∀(q:Nat) (u:Value) (b:Nat),vs[q]? =some u->u.ownBlock=some b->b<gd from fun q u b hu hub=>by
    have hq:=(List.getElem?_eq_some_iff.1 hu).1
    rw [KG5.out.vlen] at hq
    have:=((KG5.out.row q u _ hu (List.getElem?_eq_getElem hq)).1.lt b hub).2
    exact Nat.lt_of_lt_of_le this hgd1)
   have hgg:w.heap.size+1<gd:=Nat.lt_of_lt_of_le hgsz5 hgd1
   clear ho6 hb6 hb6' hdl q0 q1 hsl hw1 hw2 hw3 hcx hcy KG5 KA5 B5 KX5 KY5 KD5 HCUT HCUT1 BD1 hgd1 hgd2 hbx' hby'
   go_wp2_with fail
   obtain ⟨BD,hBD⟩: ∃BD,BD=(w5.drewN 1).heap.size:=⟨_,rfl⟩
   obtain ⟨w6',hw6'⟩: ∃w6',w6'=w6:=⟨_,rfl⟩
   subst hw6'
   clear hBD
   go_loopw [92] (fun i wr=> ∃(j:Nat) (us:List Value),j<=n/\i= .int .i64 j/\Q1W wr (w.heap.size+1) (.slice (some ⟨w.heap.size+1,0,none⟩) n n) us (Q4w n f k j)/\(∀q,j<=q->us[q]? =vs[q]?)/\Q0c wr 0 (.slice (some ⟨gd,0,none⟩) n cd) dl/\Q0j wr (w.heap.size+1) v13 (Z1s (k+1))/\Below w.heap.size w wr) (fun i _=>n - (intOf i).toNat)
   case atStart=>exact ⟨0,vs,Nat.zero_le _,rfl,KG6.out,fun _ _=>rfl,KDL.out.less (Nat.zero_le _),KA6.out,B6.out⟩
   case round=>
    obtain ⟨j,us,hj,rfl,hgr,hus,hdl,hats,hbel⟩:=hrel
    clear KG6 KDL KA6 B6
    have KG:=Qh hgr
    have HUS:=Qh hus
    have KDL:=Qh hdl
    have KA:=Qh hats
    have BEL:=Qh hbel
    have hsz:=hbel.size
    have hgsz:=(hgr.outer.lt (w.heap.size+1) rfl).2
    clear hgr hus hdl hats hbel
    by_cases hlt2:j<n
    ·have hdj:decide ((j:Int)<(n:Int))=true:=by simp;omega
     have hcd:=KDL.out.cell (HDG.out j hlt2)
     obtain ⟨vj,hvj⟩: ∃vj,us[j]? =some vj:=⟨_,List.getElem?_eq_getElem (by rw [KG.out.vlen,Q3d];exact hlt2)⟩
     have hcg:=KG.out.cell hvj
     have HVJ:=Qh hvj
     have HFR:=Qh (Z6u (k:=k) f hlt2)
     clear hvj
     go_wp2_with (at_builtin;go_loud (refine Q9y rfl _ _ rfl (w.heap.size+1) (w.heap.size+1) n n j vj us (Q4w n f k j) (Z8A f k j) (f k j) wr.heap.size 1 rfl (KG.out.alloc _) HVJ.out HFR.out rfl (Q0o _ _ _) (HFU.out k j) (by rw [Q3J];omega) (by rw [size_alloc];omega) ?_))
     intro A cap w7 hc7 hf7 hg7 hb7 hgr7 hloc7
     rw [Z3Z f hlt2,Q3J] at hg7
     rw [Q3J]
     clear hloc7
     have hne1:(Value.slice (some ⟨gd,0,none⟩) n cd).ownBlock≠vj.ownBlock:=fun e=>by
      have:=H0.out j vj gd ((HUS.out j (Nat.le_refl _)).symm.trans HVJ.out) e.symm
      omega
     have K7:=Qh (((KDL.out.alloc (.cells #[.int .u64 (f k j)] 67)).kept hgr7 (.inr hne1)).kept (Q0F w7 (w.heap.size+1) j (.slice A (k+1) cap)) (.inr (by intro e;simp [Value.ownBlock] at e;omega)))
     have KAa:=KA.out.alloc (.cells #[.int .u64 (f k j)] 67)
     have KGa:=KG.out.alloc (.cells #[.int .u64 (f k j)] 67)
     have hrow:=(KGa.row j vj _ HVJ.out HFR.out).1
     have hA7:Q0j w7 (w.heap.size+1) v13 (Z1s (k+1)):=⟨Q2l KAa.1 hrow (by decide) hgr7,KAa.2⟩
     have hout7:=KGa.outer.kept hgr7 (.inr (fun e=>Q0W hrow KGa.outer (by decide) e.symm rfl))
     have A7:=Qh (show Q0j (w7.setCell ⟨w.heap.size+1,j,none⟩ (.slice A (k+1) cap)) (w.heap.size+1) v13 (Z1s (k+1)) from ⟨Q2l hA7.1 hout7 (by decide) (Q0F w7 (w.heap.size+1) j (.slice A (k+1) cap)),hA7.2⟩)
     have B7:=Qh (((BEL.out.alloc hsz (.cells #[.int .u64 (f k j)] 67)).trans (hb7.mono (by omega))).setCell (p:=⟨w.heap.size+1,j,none⟩) (by show w.heap.size<=w.heap.size+1;omega) (.slice A (k+1) cap))
     have G7:=Qh hg7
     clear hg7 hb7 hgr7 hne1 KAa KGa hrow hA7 hout7 hcd hcg
     go_wp2_with fail
     refine ⟨⟨j+1,us.set j (.slice A (k+1) cap),by omega,by go_num,G7.out,fun q hq=> ?_,K7.out,A7.out,B7.out⟩,by simp [intOf]<;>omega⟩
     rw [List.getElem?_set_ne (by omega)]
     exact HUS.out q (by omega)
    ·obtain rfl:n=j:=by omega
     have KG2:=Qh (show Q1W wr (w.heap.size+1) (.slice (some ⟨w.heap.size+1,0,none⟩) n n) us (Q4w n f (k+1) 0) by rw [<-Z4a];exact KG.out)
     clear KG
     go_wp2_with fail
     exact ⟨⟨k+1,us,by omega,by go_num,KA.out,KG2.out,BEL.out⟩,by simp [intOf]<;>omega⟩
  ·obtain rfl:n=k:=by omega
   go_wp2_with fail
   refine (Z5l _ _ _ KA.out.is (by intro e;have:=congrArg List.length e;rw [Q2w] at this;simp at this;omega) (Q8W hn2) (by rw [Q2w];omega)).mono ?_
   rintro e W8 ⟨vw,rfl,hw,hb8⟩
   rw [Q2w,Z9x] at hw
   have BEL8:=Q0b BEL.out hb8 hsz
   have KG8:=KG.out.below hb8
   rw [HF.out,Z4b] at KG8
   obtain ⟨G,hG⟩: ∃G,G=Q9k n T (Q0f xs) (Q0f ys) (Q0f ds):=⟨_,rfl⟩
   have HMO:=Qh (show Q2d n T (Q0f xs) (Q0f ys) (Q0f ds)=G.map (Q4F n) by rw [hG];rfl)
   have HGL:=Qh (show G.length=n by rw [hG];simp [Q9k])
   have HGR:=Qh (show∀r∈G,r.length=n from fun r hr=>by
    rw [hG] at hr
    unfold Q9k at hr
    obtain ⟨j,_,rfl⟩:=List.mem_map.1 hr
    simp)
   rw [<-hG] at KG8
   replace HP:=Qh (show∀e w',Z9v w e w' (Q0g (G.map (Q4F n))) (G.map Q0g) 0->Post e w' from fun e w' h=>HP.out e w' (by rw [HMO.out,<-hG];exact h))
   replace KG:=Qh KG8
   replace BEL:=Qh BEL8
   have KW:=Qh hw
   obtain ⟨gw,cw,hv,hgw1,hgw2⟩:=Q1s hw.1 (by rw [Q0d];simp [wts];omega)
   rw [Q0d,show (wts n).length=n by simp [wts]] at hv
   subst hv
   clear hw hb8 BEL8 KG8 hG KA HMO HF hgw1 hgw2 hsz hgsz
   try dsimp only
   go_wp2_with fail
   obtain ⟨w8',hw8'⟩: ∃w8',w8'=W8:=⟨_,rfl⟩
   subst hw8'
   go_loopw [22,116] (fun v i wr=> ∃q:Nat,q<=n/\i= .int .i64 q/\Q0c wr w8'.heap.size v (Q0g ((G.map (Q4F n)).take q))/\Below w8'.heap.size w8' wr) (fun _ i _=>n - (intOf i).toNat)
   case atStart=>exact ⟨0,Nat.zero_le _,rfl,Q0c.nil _ _,Below.refl _ _⟩
   case round=>
    obtain ⟨q,hq,rfl,hown,hbel⟩:=hrel
    have KO:=Qh hown
    have B9:=Qh hbel
    have hsz9:=hbel.size
    clear hown hbel
    by_cases hlt3:q<n
    ·have KGr:=KG.out.below B9.out
     have KWr:=Qh (KW.out.below B9.out)
     obtain ⟨row,hrow⟩: ∃row,G[q]? =some row:=⟨_,List.getElem?_eq_getElem (by rw [HGL.out];exact hlt3)⟩
     have hrl:=HGR.out row (List.mem_of_getElem? hrow)
     obtain ⟨br,cr,hvr,hor,_,_,_,_⟩:=KGr.at_ (i:=q) (r:=Q0g row) (by rw [List.getElem?_map,hrow];rfl) (by rw [Q0d,hrl];omega)
     rw [Q0d,hrl] at hvr hor
     have hcg:=KGr.cell hvr
     have KR:=Qh hor
     have HT:=Qh (show Q0g ((G.map (Q4F n)).take (q+1))=Q0g ((G.map (Q4F n)).take q)++ [ofF (Q4F n row)] by rw [List.take_add_one,List.getElem?_map,hrow];simp [Q0g])
     have HTL:=Qh (show (Q0g ((G.map (Q4F n)).take q)).length<=9 by rw [Q0d,List.length_take];omega)
     have HRL:=Qh hrl
     have hdq:decide ((q:Int)<(n:Int))=true:=by simp;omega
     clear KGr hvr hor hrow hrl
     go_wp2_with fail
     clear hcg
     obtain ⟨wo,hwo⟩: ∃wo,wo=wr:=⟨_,rfl⟩
     subst hwo
     go_loop [25,122] (fun s i=> ∃p:Nat,p<=n/\i= .int .i64 p/\s= .int .u64 (ofF (Q1r p fun i=>co (wts n) i * co row i))) (fun _ i=>n - (intOf i).toNat)
     case atStart=>exact ⟨0,Nat.zero_le _,rfl,rfl⟩
     case round=>
      obtain ⟨p,hp,rfl,rfl⟩:=hrel
      by_cases hlt4:p<n
      ·have hc1:=KWr.out.cell (j:=p) (z:=ofF (co (wts n) p)) (Q1H (Q2r (by simp [wts];exact hlt4)))
       have hc2:=KR.out.cell (j:=p) (z:=ofF (co row p)) (Q1H (Q2r (by rw [HRL.out];exact hlt4)))
       have hdp:decide ((p:Int)<(n:Int))=true:=by simp;omega
       go_wp2_with fail
       refine (Q1t _ _ _ (Q0i _) (Q0i _)).mono ?_
       rintro e w' ⟨rfl,rfl⟩
       rw [Q0m,Q0m]
       try dsimp only
       go_wp2_with fail
       refine (Q5A _ _ _ (Q0i _) (Q0i _)).mono ?_
       rintro e w' ⟨rfl,rfl⟩
       rw [Q0m,Q0m]
       try dsimp only
       go_wp2_with fail
       exact ⟨⟨p+1,by omega,by go_num,rfl⟩,by simp [intOf]<;>omega⟩
      ·obtain rfl:n=p:=by omega
       go_wp2_with (at_builtin;go_loud (refine Q0B rfl _ _ rfl w8'.heap.size _ _ (ofF (Q1r n fun i=>co (wts n) i * co row i)) wo.heap.size 1 rfl (KO.out.alloc _) rfl (Q0o _ _ _) (U64.of_ofF _) (by have:=HTL.out;omega) (by rw [size_alloc];omega) ?_))
       intro v' w10 hown' hbel'
       have K10:=Qh (show Q0c w10 w8'.heap.size v' (Q0g ((G.map (Q4F n)).take (q+1))) by rw [HT.out];exact hown')
       have B10:=Qh ((B9.out.alloc hsz9 (.cells #[.int .u64 (ofF (Q1r n fun i=>co (wts n) i * co row i))] 67)).trans hbel')
       clear hown' hbel'
       go_wp2_with fail
       exact ⟨⟨q+1,by omega,by go_num,K10.out,B10.out⟩,by simp [intOf]<;>omega⟩
    ·obtain rfl:n=q:=by omega
     have HTE:=Qh (show (G.map (Q4F n)).take n=G.map (Q4F n) from List.take_of_length_le (by rw [List.length_map,HGL.out];exact Nat.le_refl _))
     rw [HTE.out] at KO
     go_wp2_with fail
     go_ret3
     refine HP.out _ _ ⟨_,_,vs,rfl,KO.out.less BEL.out.size,KG.out.less_below BEL.out B9.out,fun i x b hx hb hb2=> ?_,Q0b BEL.out B9.out BEL.out.size⟩
     have h1:=(KO.out.1.lt b hb2).1
     have hi:=(List.getElem?_eq_some_iff.1 hx).1
     rw [KG.out.vlen] at hi
     have h2:=((KG.out.row i x _ hx (List.getElem?_eq_getElem hi)).1.lt b hb).2
     omega
def Far (u v:Value):Prop:= ∀b,u.ownBlock=some b->v.ownBlock≠some b
theorem Far.symm {u v:Value} (h:Far u v):Far v u:=fun b h1 h2=>h b h2 h1
theorem Far.nil (u:Value):Far u (.slice none 0 0):=fun b _ h=>by simp [Value.ownBlock] at h
theorem Far.nil_ (u:Value):Far (.slice none 0 0) u:=(Far.nil u).symm
theorem Far.grow {u v v':Value} {N:Nat} (h:Far u v) (hu: ∀b,u.ownBlock=some b->b<N) (h4:v'.ownBlock=v.ownBlock∨v'.ownBlock=some N):Far u v':=fun b h1 h2=>by
 rcases h4 with h4|h4
 ·rw [h4] at h2;exact h b h1 h2
 ·rw [h4] at h2
  have:=hu b h1
  injection h2 with h2
  omega
theorem Far.kept {u v:Value} (h:Far u v):u.ownBlock=none∨u.ownBlock≠v.ownBlock:=by
 cases hu:u.ownBlock with
 |none=>exact .inl rfl
 |some b=>exact .inr fun e=>h b hu e.symm
theorem Q0j.kept {w w':World} {base:Nat} {v:Value} {zs:List Int} {row:Option Nat} (h:Q0j w base v zs) (hg:w.grownBy w' row) (hne:v.ownBlock=none∨v.ownBlock≠row):Q0j w' base v zs:=⟨h.1.kept hg hne,h.2⟩
theorem Q0c.under {w:World} {base:Nat} {v:Value} {zs:List Int} (h:Q0c w base v zs) (b:Nat) (hb:v.ownBlock=some b):b<w.heap.size:=(h.1.lt b hb).2
theorem Q9B {ops:Array Oper} {rest:List Oper} {o:Oper} {a:Act} {Q:Exit->Act->World->Prop} {w:World} (hgd:o.guard=none) (s x:Operand)
  (ho:o.op= .call {callee:= .builtin .append,args:= #[s,x],argTypes:= #[53,53]})
  (base:Nat) (v:Value) (zs:List Int) (z:Int) (g c:Nat) (hs:a.eval s=v) (hown:Q0j w base v zs) (hx:a.eval x= .slice (some ⟨g,0,none⟩) 1 c)
  (hc:w.cell? ⟨g,0,none⟩=some (.int .i64 z)) (hz:I64 z) (hl:zs.length+1<=17592186043904) (hb:base<=w.heap.size)
  (h: ∀v' w',Q0j w' base v' (zs++ [z])->Below base w w'->w.grownBy w' v.ownBlock->(v'.ownBlock=v.ownBlock∨v'.ownBlock=some w.heap.size)->wpList Tryz.prog ops Q rest (a.put o.dst v') w'):wpList Tryz.prog ops Q (o::rest) a w:=by
 obtain ⟨i0,hi,hz0,hz1,hz2⟩:=info_parts Y1R
 refine wpList_append_own_at w hgd s x 53 ho base 3 i0 (.int .i64 0) 1 8 Tryz.underlying53 hi hz0 hz1 hz2 rfl (by decide) v zs.length (Q8M zs) hs hown.1 ⟨g,0,none⟩ 1 c [.int .i64 z] hx rfl ?_ ?_ ?_ ?_ hb ?_
 ·intro j u hu
  match j,hu with
  |0,hu=>
   simp at hu
   subst hu
   rw [Q0N];exact hc
 ·intro u hu
  simp at hu
  subst hu;rfl
 ·unfold maxLen;omega
 ·omega
 ·intro v' w' h1 h2 _ h4
  refine h v' w' ⟨?_, ?_, ?_⟩ ((Below.refl _ _).grown h2 hb (fun k hk=>(hown.1.lt k hk).1)) h2 h4
  ·have e:(zs++ [z]).length=zs.length+1:=by simp
   have e2:Q8M (zs++ [z])=Q8M zs++ [.int .i64 z]:=by simp [Q8M]
   rw [e,e2];exact h1
  ·simpa using hl
  ·intro y hy
   rcases List.mem_append.1 hy with h3|h3
   ·exact hown.2.2 y h3
   ·simp at h3;subst h3;exact hz
theorem Q9C {ops:Array Oper} {rest:List Oper} {o:Oper} {a:Act} {Q:Exit->Act->World->Prop} {w:World} (hgd:o.guard=none) (s x:Operand)
  (ho:o.op= .call {callee:= .builtin .append,args:= #[s,x],argTypes:= #[86,86]})
  (base:Nat) (v:Value) (vs:List Value) (rows:List (List Int)) (y:Value) (r:List Int) (g c:Nat) (hs:a.eval s=v) (hown:Q1W w base v vs rows) (hx:a.eval x= .slice (some ⟨g,0,none⟩) 1 c)
  (hc:w.cell? ⟨g,0,none⟩=some y) (hy:Q0c w base y r) (hfar: ∀(k:Nat) (z:Value) (b:Nat),vs[k]? =some z->z.ownBlock=some b->y.ownBlock≠some b) (hl:rows.length+1<=5864062014805) (hb:base<=w.heap.size)
  (h: ∀v' w',Q1W w' base v' (vs++ [y]) (rows++ [r])->Below base w w'->w.grownBy w' v.ownBlock->(v'.ownBlock=v.ownBlock∨v'.ownBlock=some w.heap.size)->wpList Tryz.prog ops Q rest (a.put o.dst v') w'):wpList Tryz.prog ops Q (o::rest) a w:=by
 obtain ⟨i0,hi,hz0,hz1,hz2⟩:=info_parts Y2n
 refine wpList_append_own_at w hgd s x 86 ho base 64 i0 (.slice none 0 0) 1 24 Tryz.underlying86 hi hz0 hz1 hz2 rfl (by decide) v rows.length vs hs hown.outer ⟨g,0,none⟩ 1 c [y] hx rfl ?_ ?_ ?_ ?_ hb ?_
 ·intro j u hu
  match j,hu with
  |0,hu=>
   simp at hu
   subst hu
   rw [Q0N];exact hc
 ·intro u hu
  simp at hu
  subst hu
  obtain ⟨A,cap,rfl,_,_⟩:=Q0k hy.1
  rfl
 ·unfold maxLen;omega
 ·omega
 ·intro v' w' h1 h2 _ h4
  have kept: ∀(z:Value) (q:List Int),Q0c w base z q->Q0c w' base z q:=fun z q hz=>hz.kept h2 (by
   cases hzb:z.ownBlock with
   |none=>exact .inl rfl
   |some b=>exact .inr fun hvb=>Q0W hz.1 hown.outer (by decide) hzb hvb.symm)
  refine h v' w' ⟨?_,by simpa using hl,fun k z q hz hq=> ?_,fun k l z z' b hz hz' hzb hzb'=> ?_⟩ ((Below.refl _ _).grown h2 hb (fun k hk=>(hown.outer.lt k hk).1)) h2 h4
  ·have e:(rows++ [r]).length=rows.length+1:=by simp
   rw [e];exact h1
  ·have hvl:=hown.vlen
   rcases Nat.lt_or_ge k vs.length with hk|hk
   ·rw [List.getElem?_append_left hk] at hz
    rw [List.getElem?_append_left (by omega)] at hq
    exact kept z q (hown.row k z q hz hq)
   ·rw [List.getElem?_append_right hk] at hz
    rw [List.getElem?_append_right (by omega),<-hvl] at hq
    have h0:k - vs.length=0:=by
     have:=(List.getElem?_eq_some_iff.1 hz).1
     simpa using this
    rw [h0] at hz hq
    simp at hz hq
    subst hz hq
    exact kept _ _ hy
  ·have at_: ∀ {k:Nat} {z:Value},(vs++ [y])[k]? =some z->vs[k]? =some z∨k=vs.length/\z=y:=fun {k z} hz=>by
    rcases Nat.lt_or_ge k vs.length with hk|hk
    ·rw [List.getElem?_append_left hk] at hz;exact .inl hz
    ·rw [List.getElem?_append_right hk] at hz
     have h0:k - vs.length=0:=by
      have:=(List.getElem?_eq_some_iff.1 hz).1
      simpa using this
     rw [h0] at hz
     simp at hz
     exact .inr ⟨by omega,hz.symm⟩
   rcases at_ hz with h3|⟨h3,rfl⟩
   ·rcases at_ hz' with h4|⟨h4,rfl⟩
    ·exact hown.apart k l z z' b h3 h4 hzb hzb'
    ·exact absurd hzb' (hfar k z b h3 hzb)
   ·rcases at_ hz' with h4|⟨h4,rfl⟩
    ·exact absurd hzb (hfar l z' b h4 hzb')
    ·omega
end Go.Proofs.YtploomncapiloaaGreatDoor
