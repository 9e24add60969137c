/- Parts of the proof, put together by a program: PolyM Shares ShareW Ints PlainB. No condition. -/
import Derived.Test.YtploomncapiloaaGreatDoorSAC
set_option maxRecDepth 100000
set_option maxHeartbeats 8000000
namespace Go.Proofs.YtploomncapiloaaGreatDoor
open Go.RowKit Croft
def Y1s (A B:List F) (k:Nat):List F:=(List.range k).map fun i=>co A i+co B i
theorem Z8T (A B:List F) (k:Nat):Q0g (Y1s A B (k+1))=Q0g (Y1s A B k)++ [ofF (co A k+co B k)]:=by
 simp [Y1s,List.range_succ,Q0g]
theorem Z8U (A B:List F) (k:Nat) (hA:A.length<=k) (hB:B.length<=k):Q0w (Y1s A B k)=Q0w (Q7h A B):=by
 apply Q3N
 intro i
 rw [Q6h]
 rcases Nat.lt_or_ge i k with h|h
 ·exact Q2q (by simp [Y1s,h])
 ·rw [Q0t (by simp [Y1s];exact h),Q0t (l:=A) (by omega),Q0t (l:=B) (by omega),Q6b]
theorem Y1O (va vb:Value) (xs ys:List Int) (w:World) (h1:Q0h w va xs) (h2:Q0h w vb ys):
  Calls Tryz.prog 191 #[va,vb] w fun e w'=> ∃v,e= .returned v/\Q0c w' w.heap.size v (Q0g (Q0w (Q7h (Q0f xs) (Q0f ys))))/\Below w.heap.size w w':=by
 obtain ⟨A1,c1,rfl,hc1,hm1,hl1,hu1,hr1⟩:=h1
 obtain ⟨A2,c2,rfl,hc2,hm2,hl2,hu2,hr2⟩:=h2
 go_enter Tryz.func191,Tryz.ntmps191
 go_wp2_with fail
 go_loopw [5,6] (fun v i wr=> ∃k:Nat,(k<=xs.length∨k<=ys.length)/\i= .int .i64 k/\Q0c wr w.heap.size v (Q0g (Y1s (Q0f xs) (Q0f ys) k))/\Below w.heap.size w wr) (fun _ i _=>max xs.length ys.length - (intOf i).toNat)
 case atStart=>exact ⟨0,.inl (Nat.zero_le _),rfl,Q0c.nil _ _,Below.refl _ _⟩
 case round=>
  obtain ⟨k,hk,rfl,hown,hbel⟩:=hrel
  have hsz:=hbel.size
  have HO:=Qh hown
  have HBE:=Qh hbel
  have k1:=hr1.below hbel
  have k2:=hr2.below hbel
  have HN:=Qh (Z8T (Q0f xs) (Q0f ys) k)
  clear hown hbel hr1 hr2
  by_cases hx:k<xs.length
  ·obtain ⟨b1,o1,x,rfl,hb1,hx1,hux,hcx⟩:=Q0O k1 hu1 hx
   have HX:=Qh (Q1n hx1)
   by_cases hy:k<ys.length
   ·obtain ⟨b2,o2,y,rfl,hb2,hy1,huy,hcy⟩:=Q0O k2 hu2 hy
    have HY:=Qh (Q1n hy1)
    clear hx1 hy1 k1 k2 hb1 hb2
    go_wp2_with fail
    refine (Q2C _ _ _ Q5D hux).mono ?_
    rintro e w' ⟨rfl,rfl⟩
    rw [Q1G,Y1r]
    try dsimp only
    go_wp2_with fail
    refine (Q2C _ _ _ (U64.of_ofF _) huy).mono ?_
    rintro e w' ⟨rfl,rfl⟩
    rw [Q0m]
    go_wp2_with (at_builtin;refine Q0B rfl _ _ rfl w.heap.size _ _ (ofF (toF x+toF y)) wr.heap.size 1 rfl (HO.out.alloc _) rfl (Q0o _ _ _) (U64.of_ofF _) (by rw [Q0d];simp only [Y1s,List.length_map,List.length_range];omega) (by simp;omega) ?_)
    intro v' w' hown' hbel'
    go_wp2_with fail
    refine ⟨⟨k+1,by omega,by go_num,by rw [HN.out,HX.out,HY.out];exact hown',(HBE.out.alloc hsz _).trans hbel'⟩,by simp [intOf];omega⟩
   ·have HY:=Qh (show co (Q0f ys) k=0 from Q0t (by rw [Q0l];omega))
    clear hx1 k1 k2 hb1
    go_wp2_with fail
    refine (Q2C _ _ _ Q5D hux).mono ?_
    rintro e w' ⟨rfl,rfl⟩
    rw [Q1G,Y1r]
    go_wp2_with (at_builtin;refine Q0B rfl _ _ rfl w.heap.size _ _ (ofF (toF x)) wr.heap.size 1 rfl (HO.out.alloc _) rfl (Q0o _ _ _) (U64.of_ofF _) (by rw [Q0d];simp only [Y1s,List.length_map,List.length_range];omega) (by simp;omega) ?_)
    intro v' w' hown' hbel'
    go_wp2_with fail
    refine ⟨⟨k+1,by omega,by go_num,by rw [HN.out,HX.out,HY.out,Q6b];exact hown',(HBE.out.alloc hsz _).trans hbel'⟩,by simp [intOf];omega⟩
  ·have HX:=Qh (show co (Q0f xs) k=0 from Q0t (by rw [Q0l];omega))
   by_cases hy:k<ys.length
   ·obtain ⟨b2,o2,y,rfl,hb2,hy1,huy,hcy⟩:=Q0O k2 hu2 hy
    have HY:=Qh (Q1n hy1)
    clear hy1 k1 k2 hb2
    go_wp2_with fail
    refine (Q2C _ _ _ Q5D huy).mono ?_
    rintro e w' ⟨rfl,rfl⟩
    rw [Q1G,Y1r]
    go_wp2_with (at_builtin;refine Q0B rfl _ _ rfl w.heap.size _ _ (ofF (toF y)) wr.heap.size 1 rfl (HO.out.alloc _) rfl (Q0o _ _ _) (U64.of_ofF _) (by rw [Q0d];simp only [Y1s,List.length_map,List.length_range];omega) (by simp;omega) ?_)
    intro v' w' hown' hbel'
    go_wp2_with fail
    refine ⟨⟨k+1,by omega,by go_num,by rw [HN.out,HX.out,HY.out,Y1r];exact hown',(HBE.out.alloc hsz _).trans hbel'⟩,by simp [intOf];omega⟩
   ·have HE:=Qh (Z8U (Q0f xs) (Q0f ys) k (by rw [Q0l];omega) (by rw [Q0l];omega))
    clear k1 k2
    go_wp2_with fail
    refine (Q7B _ _ _ HO.out.is).mono ?_
    rintro e w' ⟨v,rfl,ho,hb⟩
    rw [Q0A,HE.out] at ho
    have ho2:=ho.less hsz
    have hb2:=Q0b HBE.out hb hsz
    clear ho hb
    go_wp2_with fail
    go_ret
    exact ⟨_,rfl,ho2,hb2⟩
theorem Q9P (l:List F) (k:Nat) (a:F):(Q0g l).set k (ofF a)=Q0g (l.set k a):=by simp [Q0g,List.map_set]
theorem Z1Y {A B:List F} (h:A.length=0∨B.length=0):Q1j A B= []:=by
 unfold Q1j
 rw [if_pos]
 exact h.imp List.eq_nil_of_length_eq_zero List.eq_nil_of_length_eq_zero
theorem Y1P (va vb:Value) (xs ys:List Int) (w:World) (h1:Q0h w va xs) (h2:Q0h w vb ys) (hx:xs.length<=1000000) (hy:ys.length<=1000000):
  Calls Tryz.prog 182 #[va,vb] w fun e w'=> ∃v,e= .returned v/\Q0c w' w.heap.size v (Q0g (Q1j (Q0f xs) (Q0f ys)))/\Below w.heap.size w w':=by
 obtain ⟨A1,c1,rfl,hc1,hm1,hl1,hu1,hr1⟩:=h1
 obtain ⟨A2,c2,rfl,hc2,hm2,hl2,hu2,hr2⟩:=h2
 by_cases ha:xs.length=0
 ·have HE:=Qh (Z1Y (A:=Q0f xs) (B:=Q0f ys) (.inl (by rw [Q0l];exact ha)))
  have he1:((xs.length:Int)==0)=true:=by rw [beq_iff_eq];omega
  clear ha
  go_enter Tryz.func182,Tryz.ntmps182
  go_wp2_with fail
  go_ret
  exact ⟨_,rfl,by rw [HE.out];exact Q0c.nil _ _,Below.refl _ _⟩
 by_cases hb:ys.length=0
 ·have HE:=Qh (Z1Y (A:=Q0f xs) (B:=Q0f ys) (.inr (by rw [Q0l];exact hb)))
  have he1:((xs.length:Int)==0)=false:=by rw [beq_eq_false_iff_ne];omega
  have he2:((ys.length:Int)==0)=true:=by rw [beq_iff_eq];omega
  clear ha hb
  go_enter Tryz.func182,Tryz.ntmps182
  go_wp2_with fail
  go_ret
  exact ⟨_,rfl,by rw [HE.out];exact Q0c.nil _ _,Below.refl _ _⟩
 have HF:=Qh (Z8Q (Q0f xs) (Q0f ys) (by rintro h;have:=congrArg List.length h;rw [Q0l] at this;exact ha this) (by rintro h;have:=congrArg List.length h;rw [Q0l] at this;exact hb this))
 have he1:((xs.length:Int)==0)=false:=by rw [beq_eq_false_iff_ne];omega
 have he2:((ys.length:Int)==0)=false:=by rw [beq_eq_false_iff_ne];omega
 obtain ⟨N,hN⟩: ∃N,N=(Q0f xs).length+(Q0f ys).length - 1:=⟨_,rfl⟩
 have hN1:N+1<=xs.length+ys.length:=by rw [hN,Q0l,Q0l];omega
 have hN2:xs.length+ys.length<=N+1:=by rw [hN,Q0l,Q0l];omega
 have HZ:=Qh (Z8O (Q0f xs) (Q0f ys))
 have HN:=Qh hN
 clear ha hb hN
 go_enter Tryz.func182,Tryz.ntmps182
 go_wp2_with (refine Q1a rfl _ _ rfl w.heap.size _ N rfl rfl (by omega) (by omega) (Nat.le_refl _) ?_)
 intro w1 ho1 hb1
 have HO1:=Qh (show Q0c w1 w.heap.size (.slice (some ⟨w.heap.size,0,none⟩) N N) (Q0g (Z3s (Q0f xs) (Q0f ys) 0 0)) by
  rw [HZ.out,<-HN.out]
  have:Q0g (List.replicate N 0)=List.replicate N 0:=by simp [Q0g,Q9J]
  rw [this];exact ho1)
 have HB1:=Qh hb1
 clear ho1 hb1
 go_wp2_with fail
 go_loopw [27] (fun i wr=> ∃k:Nat,k<=xs.length/\i= .int .i64 k/\Q0c wr w.heap.size (.slice (some ⟨w.heap.size,0,none⟩) N N) (Q0g (Z3s (Q0f xs) (Q0f ys) k 0))/\Below w.heap.size w wr) (fun i _=>xs.length - (intOf i).toNat)
 case atStart=>exact ⟨0,Nat.zero_le _,rfl,HO1.out,HB1.out⟩
 case round=>
  obtain ⟨k,hk,rfl,hown,hbel⟩:=hrel
  have HO:=Qh hown
  have HBE:=Qh hbel
  clear HO1 HB1
  by_cases hlt:k<xs.length
  ·obtain ⟨b1,o1,x,rfl,hb1,hx1,hux,hcx⟩:=Q0O (hr1.below hbel) hu1 hlt
   have HX:=Qh (Q1n hx1)
   have hx0:=hux.1
   obtain ⟨wo,hwo⟩: ∃wo,wo=wr:=⟨_,rfl⟩
   subst hwo
   clear hx1 hb1 hown hbel hr1
   go_wp2_with fail
   clear hcx
   go_loopw [34] (fun i wr=> ∃j:Nat,j<=ys.length/\i= .int .i64 j/\Q0c wr w.heap.size (.slice (some ⟨w.heap.size,0,none⟩) N N) (Q0g (Z3s (Q0f xs) (Q0f ys) k j))/\Below w.heap.size w wr) (fun i _=>ys.length - (intOf i).toNat)
   case atStart=>exact ⟨0,Nat.zero_le _,rfl,HO.out,HBE.out⟩
   case round=>
    obtain ⟨j,hj,rfl,hown,hbel⟩:=hrel
    by_cases hlt2:j<ys.length
    ·obtain ⟨b2,o2,y,rfl,hb2,hy1,huy,hcy⟩:=Q0O (hr2.below hbel) hu2 hlt2
     have hy0:=huy.1
     have hkj:k+j<N:=by omega
     have hcell:=hown.cell (Q1H (Z6i (Q0f xs) (Q0f ys) k j (i:=k+j) (by rw [<-HN.out];exact hkj)))
     have hfr:=hown.frozen (k+j)
     have HS:=Qh (hown.set_ (k+j) (U64.of_ofF (Z8N (Q0f xs) (Q0f ys) k j (k+j)+toF x * toF y)))
     rw [Q9P,<-HX.out,<-Q1n hy1,Y1C] at HS
     rw [HX.out,Q1n hy1] at HS
     have HB2:=Qh (hbel.setCell (p:=⟨w.heap.size,k+j,none⟩) (Nat.le_refl _) (.int .u64 (ofF (Z8N (Q0f xs) (Q0f ys) k j (k+j)+toF x * toF y))))
     clear hy1 hb2 hown hbel hr2 HO HBE
     generalize Z8N (Q0f xs) (Q0f ys) k j (k+j)=G at *
     go_wp2_with fail
     refine Q0D 15 (by kernel_rfl) (by kernel_rfl) ?_
     simp only [List.take_succ_cons,List.take_zero,List.drop_succ_cons,List.drop_zero]
     repeat (go_big_quiet_step ((first|exact Q1b (Q1t _ _ _ hx0 hy0)|exact Q1b (Q5A _ _ _ (Q0i _) (Q0i _)))))
     refine wpQuiet_nil ?_
     intro nq
     go_wp2_with fail
     simp only [Q0m]
     refine ⟨⟨j+1,by omega,by go_num,HS.out.drewN nq,below_drewN HB2.out nq⟩,by simp [intOf];omega⟩
    ·have HO2:=Qh hown
     have HB2:=Qh hbel
     clear hown hbel
     go_wp2_with fail
     refine ⟨⟨k+1,by omega,by go_num, ?_,HB2.out⟩,by simp [intOf];omega⟩
     obtain rfl:j=ys.length:=by omega
     rw [<-Z8P,Q0l];exact HO2.out
  ·clear hown hbel
   go_wp2_with fail
   go_ret
   obtain rfl:k=xs.length:=by omega
   have h:=HO.out
   rw [<-Q0l xs,HF.out] at h
   exact ⟨_,rfl,h,HBE.out⟩
def I64 (n:Int):Prop:= -9223372036854775808<=n/\n<=9223372036854775807
def shs (l:List (Int×Int)):List Value:=l.flatMap fun s=> [Value.int .i64 s.1,Value.int .u64 s.2]
theorem Q6M (l:List (Int×Int)):(shs l).length=l.length * 2:=by
 induction l with
 |nil=>rfl
 |cons s l ih=>simp only [shs,List.flatMap_cons,List.length_append,List.length_cons,List.length_nil] at *;omega
theorem Z2A (s:Int×Int) (l:List (Int×Int)):shs (s::l)= .int .i64 s.1:: .int .u64 s.2::shs l:=rfl
theorem Y4A (l:List (Int×Int)): ∀(k:Nat) (s:Int×Int),l[k]? =some s->(shs l)[k * 2]? =some (.int .i64 s.1)/\(shs l)[k * 2+1]? =some (.int .u64 s.2):=by
 induction l with
 |nil=>intro k s h;simp at h
 |cons a l ih=>
  intro k s h
  rw [Z2A]
  cases k with
  |zero=>simp at h;subst h;exact ⟨rfl,rfl⟩
  |succ k=>
   have:=ih k s (by simpa using h)
   rw [show (k+1) * 2=k * 2+1+1 by omega]
   simpa using this
def Q0V (w:World) (v:Value) (l:List (Int×Int)):Prop:=
 ∃A cap,v= .slice A l.length cap/\l.length<=cap/\cap<=maxLen/\l.length<=8796093022208/\(∀s∈l,I64 s.1/\U64 s.2)/\Cells w A (shs l)
theorem Q0V.below {w w':World} {v:Value} {l:List (Int×Int)} (h:Q0V w v l) (hb:Below w.heap.size w w'):Q0V w' v l:=by
 obtain ⟨A,cap,h1,h2,h3,h4,h5,h6⟩:=h
 exact ⟨A,cap,h1,h2,h3,h4,h5,h6.below hb⟩
theorem Q0V.drewn {w wr:World} {v:Value} {l:List (Int×Int)} {n:Nat} (h:Q0V w v l) (hw:wr=w.drewN n):Q0V wr v l:=by subst hw;exact h
theorem Q2S {w:World} {A:Option Addr} {l:List (Int×Int)} (h:Cells w A (shs l)) (h5: ∀s∈l,I64 s.1/\U64 s.2) {k:Nat} (hk:k<l.length):
  ∃b o at_ y,A=some ⟨b,o,none⟩/\b<w.heap.size/\l[k]? =some (at_,y)/\I64 at_/\U64 y/\w.cell? ⟨b,o+k * 2,none⟩=some (.int .i64 at_)/\w.cell? ⟨b,o+k * 2+1,none⟩=some (.int .u64 y):=by
 obtain ⟨b,o,rfl,hb,hc⟩:=h.at_ (j:=k * 2) (by rw [Q6M];omega)
 have hg:l[k]? =some l[k]:=List.getElem?_eq_getElem hk
 obtain ⟨g1,g2⟩:=Y4A l k _ hg
 obtain ⟨u1,u2⟩:=h5 _ (List.getElem_mem hk)
 refine ⟨b,o,l[k].1,l[k].2,rfl,hb,hg,u1,u2, ?_, ?_⟩
 ·rw [hc _ (by rw [Q6M];omega),g1]
 ·rw [Nat.add_assoc,hc _ (by rw [Q6M];omega),g2]
def Q1P (l:List (Int×Int)) (most:Int):Prop:=(∀s∈l,1<=s.1/\s.1<=most)/\(l.map (·.1)).Nodup
instance (l :List (Int×Int)) (most:Int):Decidable (Q1P l most):=by unfold Q1P;infer_instance
def Y5z (l:List (Int×Int)) (most:Int):Bool:=decide (Q1P l most)
theorem Q4o {l:List (Int×Int)} {most:Int} {k:Nat} {at_ y:Int} (hg:l[k]? =some (at_,y)):Q1P (l.take (k+1)) most↔Q1P (l.take k) most/\(1<=at_/\at_<=most)/\at_∉(l.take k).map (·.1):=by
 unfold Q1P
 rw [List.take_add_one,hg]
 simp only [Option.toList,List.map_append,List.map_cons,List.map_nil,List.mem_append,List.mem_singleton]
 rw [List.nodup_append]
 constructor
 ·rintro ⟨h1,h2,_,h3⟩
  refine ⟨⟨fun s hs=>h1 s (.inl hs),h2⟩,h1 _ (.inr rfl),fun hm=>h3 _ hm _ (by simp) rfl⟩
 ·rintro ⟨⟨h1,h2⟩,h3,h4⟩
  refine ⟨fun s hs=> ?_,h2,by simp,fun a ha b hb=> ?_⟩
  ·rcases hs with hs|rfl
   ·exact h1 s hs
   ·exact h3
  ·simp at hb;subst hb;rintro rfl;exact h4 ha
theorem Q3F {l:List (Int×Int)} {most:Int} (k:Nat) (h:Q1P l most):Q1P (l.take k) most:=
 ⟨fun s hs=>h.1 s (List.mem_of_mem_take hs),by rw [List.map_take];exact h.2.sublist (List.take_sublist _ _)⟩
def Q0r (w:World) (base:Nat) (v:Value) (l:List (Int×Int)):Prop:=
 w.ownsRow base 71 2 v l.length (shs l)/\l.length<=8796093022208/\(∀s∈l,I64 s.1/\U64 s.2)
theorem Q0r.is {w:World} {base:Nat} {v:Value} {l:List (Int×Int)} (h:Q0r w base v l):Q0V w v l:=by
 obtain ⟨h1,h2,h3⟩:=h
 obtain ⟨A,cap,rfl,h4,h5⟩:=Q0k h1
 exact ⟨A,cap,rfl,h4,h5,h2,h3,Cells.of_own h1⟩
theorem Q0r.nil (w:World) (base:Nat):Q0r w base (.slice none 0 0) []:=⟨World.ownsRow_nil _ _ _ _,by simp,by simp⟩
theorem Q0r.alloc {w:World} {base:Nat} {v:Value} {l:List (Int×Int)} (h:Q0r w base v l) (o:Obj):Q0r (w.alloc o) base v l:=⟨h.1.alloc o,h.2⟩
theorem Q0r.drewN {w:World} {base:Nat} {v:Value} {l:List (Int×Int)} (h:Q0r w base v l) (n:Nat):Q0r (w.drewN n) base v l:=h
theorem Z6k (l:List (Int×Int)) (s:Int×Int):shs (l++ [s])=shs l++ [.int .i64 s.1,.int .u64 s.2]:=by simp [shs]
theorem Y1Q :(Tryz.prog.info? 71).map (fun i=>(i.zero,i.size,i.bytes))=some (some (.agg #[.int .i64 0,.int .u64 0]),2,16):=by kernel_rfl
theorem Q2D (w:World) (x y:Value) (t:TypeId):(w.alloc (.cells #[x,y] t)).cell? ⟨w.heap.size,0,none⟩=some x:=by
 rw [cell_of_row _ _ 0 #[x,y] t (0,0) (heap_alloc_new w _)];rfl
theorem Q2E (w:World) (x y:Value) (t:TypeId):(w.alloc (.cells #[x,y] t)).cell? ⟨w.heap.size,1,none⟩=some y:=by
 rw [cell_of_row _ _ 1 #[x,y] t (0,0) (heap_alloc_new w _)];rfl
theorem Q1Z {ops:Array Oper} {rest:List Oper} {o:Oper} {a:Act} {Q:Exit->Act->World->Prop} {w:World} (hgd:o.guard=none) (s x:Operand)
  (ho:o.op= .call {callee:= .builtin .append,args:= #[s,x],argTypes:= #[69,69]})
  (base:Nat) (v:Value) (l:List (Int×Int)) (n z:Int) (g c:Nat) (hs:a.eval s=v) (hown:Q0r w base v l) (hx:a.eval x= .slice (some ⟨g,0,none⟩) 1 c)
  (hc:w.cell? ⟨g,0,none⟩=some (.int .i64 n)) (hc2:w.cell? ⟨g,1,none⟩=some (.int .u64 z)) (hn:I64 n) (hz:U64 z) (hl:l.length+1<=8796093022208) (hb:base<=w.heap.size)
  (h: ∀v' w',Q0r w' base v' (l++ [(n,z)])->Below base w w'->wpList Tryz.prog ops Q rest (a.put o.dst v') w'):wpList Tryz.prog ops Q (o::rest) a w:=by
 obtain ⟨i0,hi,hz0,hz1,hz2⟩:=info_parts Y1Q
 refine wpList_append_own w hgd s x 69 ho base 71 i0 (.agg #[.int .i64 0,.int .u64 0]) 2 16 Tryz.underlying69 hi hz0 hz1 hz2 rfl (by decide) v l.length (shs l) hs hown.1 ⟨g,0,none⟩ 1 c [.int .i64 n,.int .u64 z] hx rfl ?_ ?_ ?_ ?_ hb ?_
 ·intro j u hu
  match j,hu with
  |0,hu=>
   simp at hu
   subst hu
   rw [Q0N];exact hc
  |1,hu=>
   simp at hu
   subst hu
   rw [Q0N];exact hc2
 ·intro u hu
  simp at hu
  rcases hu with rfl|rfl<;>rfl
 ·unfold maxLen;omega
 ·omega
 ·intro v' w' h1 h2 _
  refine h v' w' ⟨?_, ?_, ?_⟩ ((Below.refl _ _).grown h2 hb (fun k hk=>(hown.1.lt k hk).1))
  ·have e:(l++ [(n,z)]).length=l.length+1:=by simp
   rw [e,Z6k];exact h1
  ·simpa using hl
  ·intro y hy
   rcases List.mem_append.1 hy with h3|h3
   ·exact hown.2.2 y h3
   ·simp at h3;subst h3;exact ⟨hn,hz⟩
def Q8M (zs:List Int):List Value:=zs.map (Value.int .i64)
theorem Q4u (zs:List Int):(Q8M zs).length=zs.length:=by simp [Q8M]
theorem Z2B (zs:List Int) (j:Nat):(Q8M zs)[j]? =(zs[j]?).map (Value.int .i64):=by simp [Q8M]
def Q0y (w:World) (v:Value) (zs:List Int):Prop:=
 ∃A cap,v= .slice A zs.length cap/\zs.length<=cap/\cap<=maxLen/\zs.length<=17592186043904/\(∀z∈zs,I64 z)/\Cells w A (Q8M zs)
theorem Q0y.below {w w':World} {v:Value} {zs:List Int} (h:Q0y w v zs) (hb:Below w.heap.size w w'):Q0y w' v zs:=by
 obtain ⟨A,cap,h1,h2,h3,h4,h5,h6⟩:=h
 exact ⟨A,cap,h1,h2,h3,h4,h5,h6.below hb⟩
theorem Q0y.drewN {w:World} {v:Value} {zs:List Int} (h:Q0y w v zs) (n:Nat):Q0y (w.drewN n) v zs:=h
theorem Q0y.nil (w:World):Q0y w (.slice none 0 0) []:=⟨none,0,rfl,Nat.le_refl _,by simp [maxLen],by simp,by simp,.inl rfl⟩
theorem ints_at {w:World} {A:Option Addr} {zs:List Int} (h:Cells w A (Q8M zs)) (h5: ∀z∈zs,I64 z) {k:Nat} (hk:k<zs.length):
  ∃b o z,A=some ⟨b,o,none⟩/\b<w.heap.size/\zs[k]? =some z/\I64 z/\w.cell? ⟨b,o+k,none⟩=some (.int .i64 z):=by
 obtain ⟨b,o,rfl,hb,hc⟩:=h.at_ (j:=k) (by rw [Q4u];exact hk)
 have hg:zs[k]? =some zs[k]:=List.getElem?_eq_getElem hk
 exact ⟨b,o,zs[k],rfl,hb,hg,h5 _ (List.getElem_mem hk),by rw [hc k (by rw [Q4u];exact hk),Z2B,hg];rfl⟩
def Q0j (w:World) (base:Nat) (v:Value) (zs:List Int):Prop:=
 w.ownsRow base 3 1 v zs.length (Q8M zs)/\zs.length<=17592186043904/\(∀z∈zs,I64 z)
theorem Q0j.is {w:World} {base:Nat} {v:Value} {zs:List Int} (h:Q0j w base v zs):Q0y w v zs:=by
 obtain ⟨h1,h2,h3⟩:=h
 obtain ⟨A,cap,rfl,h4,h5⟩:=Q0k h1
 exact ⟨A,cap,rfl,h4,h5,h2,h3,Cells.of_own h1⟩
theorem Q0j.nil (w:World) (base:Nat):Q0j w base (.slice none 0 0) []:=⟨World.ownsRow_nil _ _ _ _,by simp,by simp⟩
theorem Q0j.alloc {w:World} {base:Nat} {v:Value} {zs:List Int} (h:Q0j w base v zs) (o:Obj):Q0j (w.alloc o) base v zs:=⟨h.1.alloc o,h.2⟩
theorem Q0j.drewN {w:World} {base:Nat} {v:Value} {zs:List Int} (h:Q0j w base v zs) (n:Nat):Q0j (w.drewN n) base v zs:=h
theorem Q0j.below {w w':World} {base:Nat} {v:Value} {zs:List Int} (h:Q0j w base v zs) (hb:Below w.heap.size w w'):Q0j w' base v zs:=⟨Q4O h.1 hb,h.2⟩
theorem Q0j.less {w:World} {base base':Nat} {v:Value} {zs:List Int} (h:Q0j w base v zs) (hb:base'<=base):Q0j w base' v zs:=by
 refine ⟨⟨h.1.1, ?_⟩,h.2⟩
 rcases h.1.2 with h1|⟨g,cap,cur,hv,hg,r⟩
 ·exact .inl h1
 ·exact .inr ⟨g,cap,cur,hv,by omega,r⟩
theorem Y1R :(Tryz.prog.info? 3).map (fun i=>(i.zero,i.size,i.bytes))=some (some (.int .i64 0),1,8):=by kernel_rfl
theorem Q1M {ops:Array Oper} {rest:List Oper} {o:Oper} {a:Act} {Q:Exit->Act->World->Prop} {w:World} (hgd:o.guard=none) (s x:Operand)
  (ho:o.op= .call {callee:= .builtin .append,args:= #[s,x],argTypes:= #[53,53]})
  (base:Nat) (v:Value) (zs:List Int) (z:Int) (g c:Nat) (hs:a.eval s=v) (hown:Q0j w base v zs) (hx:a.eval x= .slice (some ⟨g,0,none⟩) 1 c)
  (hc:w.cell? ⟨g,0,none⟩=some (.int .i64 z)) (hz:I64 z) (hl:zs.length+1<=17592186043904) (hb:base<=w.heap.size)
  (h: ∀v' w',Q0j w' base v' (zs++ [z])->Below base w w'->wpList Tryz.prog ops Q rest (a.put o.dst v') w'):wpList Tryz.prog ops Q (o::rest) a w:=by
 obtain ⟨i0,hi,hz0,hz1,hz2⟩:=info_parts Y1R
 refine wpList_append_own w hgd s x 53 ho base 3 i0 (.int .i64 0) 1 8 Tryz.underlying53 hi hz0 hz1 hz2 rfl (by decide) v zs.length (Q8M zs) hs hown.1 ⟨g,0,none⟩ 1 c [.int .i64 z] hx rfl ?_ ?_ ?_ ?_ hb ?_
 ·intro j u hu
  match j,hu with
  |0,hu=>
   simp at hu
   subst hu
   rw [Q0N];exact hc
 ·intro u hu
  simp at hu
  subst hu;rfl
 ·unfold maxLen;omega
 ·omega
 ·intro v' w' h1 h2 _
  refine h v' w' ⟨?_, ?_, ?_⟩ ((Below.refl _ _).grown h2 hb (fun k hk=>(hown.1.lt k hk).1))
  ·have e:(zs++ [z]).length=zs.length+1:=by simp
   have e2:Q8M (zs++ [z])=Q8M zs++ [.int .i64 z]:=by simp [Q8M]
   rw [e,e2];exact h1
  ·simpa using hl
  ·intro y hy
   rcases List.mem_append.1 hy with h3|h3
   ·exact hown.2.2 y h3
   ·simp at h3;subst h3;exact hz
end Go.Proofs.YtploomncapiloaaGreatDoor
namespace Croft
def Q4X (a:List F) (i:Nat) (c:F) (b:List F) (j:Nat):List F:=(List.range a.length).map fun k=>co a k - (if i<=k/\k<i+j then c * co b (k - i) else 0)
theorem Q1q (a:List F) (i:Nat) (c:F) (b:List F) (j:Nat):(Q4X a i c b j).length=a.length:=by simp [Q4X]
theorem Q5E (a:List F) (i:Nat) (c:F) (b:List F) (j k:Nat) (hk:k<a.length):co (Q4X a i c b j) k=co a k - (if i<=k/\k<i+j then c * co b (k - i) else 0):=Q2q (by simp [Q4X,hk])
theorem Z7a (a:List F) (i:Nat) (c:F) (b:List F):Q4X a i c b 0=a:=by
 apply Q3E (Q1q _ _ _ _ _)
 intro k
 rcases Nat.lt_or_ge k a.length with h|h
 ·rw [Q5E _ _ _ _ _ _ h,if_neg (by omega),Z8y]
 ·rw [Q0t (by rw [Q1q];exact h),Q0t h]
theorem Q6k (q:List F) (i p:Nat) (c:F) (h:p≠i):co (q.set i c) p=co q p:=by
 unfold co
 rw [List.getD_eq_getElem?_getD,List.getElem?_set_ne (by omega),<-List.getD_eq_getElem?_getD]
theorem Z8V (a:List F) (i:Nat) (c:F) (b:List F) (j:Nat):(Q4X a i c b j).set (i+j) (co (Q4X a i c b j) (i+j) - c * co b j)=Q4X a i c b (j+1):=by
 apply Q3E
 ·rw [List.length_set,Q1q,Q1q]
 ·intro k
  rcases Nat.lt_or_ge k a.length with hk|hk
  ·rw [Q5E _ _ _ _ _ _ hk]
   by_cases hki:k=i+j
   ·subst hki
    rw [if_pos (by omega),show i+j - i=j by omega]
    have:co ((Q4X a i c b j).set (i+j) (co (Q4X a i c b j) (i+j) - c * co b j)) (i+j)=co (Q4X a i c b j) (i+j) - c * co b j:=Q2q (by rw [List.getElem?_set_self (by rw [Q1q];exact hk)])
    rw [this,Q5E _ _ _ _ _ _ hk,if_neg (by omega),Z8y]
   ·have:co ((Q4X a i c b j).set (i+j) (co (Q4X a i c b j) (i+j) - c * co b j)) k=co (Q4X a i c b j) k:=by
     exact Q6k _ _ _ _ hki
    rw [this,Q5E _ _ _ _ _ _ hk]
    congr 1
    by_cases h1:i<=k/\k<i+j
    ·rw [if_pos h1,if_pos (by omega)]
    ·rw [if_neg h1,if_neg (by omega)]
  ·rw [Q0t (by rw [List.length_set,Q1q];exact hk),Q0t (by rw [Q1q];exact hk)]
structure Q8b (a0 b q a:List F) (i:Nat):Prop where
 la:a.length=a0.length
 lq:q.length=a0.length - b.length+1
 zero: ∀k,i+b.length - 1<=k->co a k=0
 sum: ∀k,Q1r (k+1) (fun p=>co q p * co b (k - p))+co a k=co a0 k
 low: ∀p,p<i->co q p=0
theorem Q8b.start (a0 b:List F) (_hb:1<=b.length) (hl:b.length<=a0.length):Q8b a0 b (List.replicate (a0.length - b.length+1) 0) a0 (a0.length - b.length+1):=by
 refine ⟨rfl,by simp,fun k hk=>Q0t (by omega),fun k=> ?_,fun p _=> ?_⟩
 ·rw [Q2i,Y1r]
  intro p _
  have:co (List.replicate (a0.length - b.length+1) (0:F)) p=0:=by
   simp [co,List.getElem?_replicate];split<;>rfl
  rw [this,Q7y]
 ·simp [co,List.getElem?_replicate];split<;>rfl
theorem Z3F (q:List F) (i:Nat) (c:F) (h:i<q.length):co (q.set i c) i=c:=Q2q (by rw [List.getElem?_set_self h])
theorem Q8b.step {a0 b q a:List F} {i:Nat} (h:Q8b a0 b q a (i+1)) (hb:1<=b.length) (hl:b.length<=a0.length) (hi:i<q.length) (c v:F) (hc:c=co a (i+b.length - 1) * v) (hv:co b (b.length - 1) * v=1):
  Q8b a0 b (q.set i c) (Q4X a i c b b.length) i:=by
 have hlq:=h.lq
 have hla:=h.la
 refine ⟨by rw [Q1q];exact h.la,by rw [List.length_set];exact h.lq,fun k hk=> ?_,fun k=> ?_,fun p hp=> ?_⟩
 ·rcases Nat.lt_or_ge k a.length with hka|hka
  ·rw [Q5E _ _ _ _ _ _ hka]
   rcases Nat.lt_or_ge k (i+b.length) with h1|h1
   ·obtain rfl:k=i+b.length - 1:=by omega
    rw [if_pos (by omega),show i+b.length - 1 - i=b.length - 1 by omega,hc]
    grind
   ·rw [if_neg (by omega),Z8y]
    exact h.zero k (by omega)
  ·exact Q0t (by rw [Q1q];exact hka)
 ·have hs:=h.sum k
  rcases Nat.lt_or_ge k i with h1|h1
  ·rw [Q0z (g:=fun p=>co q p * co b (k - p)) (fun p hp=>by rw [Q6k _ _ _ _ (by omega)])]
   rcases Nat.lt_or_ge k a.length with hka|hka
   ·rw [Q5E _ _ _ _ _ _ hka,if_neg (by omega),Z8y];exact hs
   ·rw [Q0t (l:=Q4X _ _ _ _ _) (by rw [Q1q];exact hka),<-Q0t hka];exact hs
  ·have e:Q1r (k+1) (fun p=>co (q.set i c) p * co b (k - p))=Q1r (k+1) (fun p=>co q p * co b (k - p))+c * co b (k - i):=by
    have e1: ∀p,p<k+1->co (q.set i c) p * co b (k - p)=co q p * co b (k - p)+(if p=i then c * co b (k - i) else 0):=by
     intro p _
     by_cases hpi:p=i
     ·subst hpi
      rw [Z3F _ _ _ hi,if_pos rfl,h.low p (by omega),Q7y,Y1r]
     ·rw [Q6k _ _ _ _ hpi,if_neg hpi,Q6b]
    rw [Q0z e1,Q7Y]
    congr 1
    rw [Q4M i (by omega) (fun p _ hp=>if_neg hp),if_pos rfl]
   rw [e]
   rcases Nat.lt_or_ge k a.length with hka|hka
   ·rw [Q5E _ _ _ _ _ _ hka]
    rcases Nat.lt_or_ge k (i+b.length) with h2|h2
    ·rw [if_pos ⟨h1,h2⟩];grind
    ·rw [if_neg (by omega),Q0t (l:=b) (i:=k - i) (by omega),Q4I];grind
   ·rw [Q0t (l:=b) (i:=k - i) (by omega),Q4I,Q6b,Q0t (l:=Q4X _ _ _ _ _) (by rw [Q1q];exact hka),<-Q0t hka];exact hs
 ·rw [Q6k _ _ _ _ (by omega)]
  exact h.low p (by omega)
theorem Z0f (l:List F) (m:Nat) (h: ∀k,m<=k->co l k=0):(Q0w l).length<=m:=by
 rcases Nat.lt_or_ge m (Q0w l).length with h1|h1
 ·have hne:Q0w l≠ []:=by intro e;rw [e] at h1;simp at h1
  have:=Q4l (Q1K l) hne
  rw [Q4K] at this
  exact absurd (h _ (by omega)) this
 ·exact h1
theorem Q8b.done {a0 b q a:List F} (h:Q8b a0 b q a 0) (hb:1<=b.length):(Q0w a).length<b.length/\Q0w (Q7h (Q1j (Q0w q) b) (Q0w a))=Q0w a0:=by
 refine ⟨by have:=Z0f a (b.length - 1) (fun k hk=>h.zero k (by omega));omega,Q3N _ _ fun k=> ?_⟩
 rw [Q6h,Q3W,Q4K,<-h.sum k]
 congr 1
 exact Q0z fun p _=>by rw [Q4K]
def Q5F (xs:List F):List F:=xs.foldl (fun b x=>Q1j b [-x,1]) [1]
theorem Z1Z (xs:List F) (x:F):Q5F (xs++ [x])=Q1j (Q5F xs) [-x,1]:=by simp [Q5F]
theorem Z7b (xs:List F): ∀b:List F,b≠ []->(xs.foldl (fun b x=>Q1j b [-x,1]) b).length=b.length+xs.length:=by
 induction xs with
 |nil=>intro b _;simp
 |cons x xs ih=>
  intro b hb
  have hl:(Q1j b [-x,1]).length=b.length+1:=by rw [Q2c,if_neg (by simp [hb])];simp
  have hp:=List.length_pos_iff.2 hb
  rw [List.foldl_cons,ih _ (by intro e;rw [e] at hl;simp at hl),hl]
  simp;omega
theorem Q4P (xs:List F):(Q5F xs).length=xs.length+1:=by
 unfold Q5F
 rw [Z7b xs [1] (by simp)]
 simp;omega
theorem Y1S (x z:F):Q0n [-x,1] z=z - x:=by simp only [Q0n,Q4I,Q6b];grind
theorem Z7c (xs:List F) (z:F): ∀b:List F,(Q0n (xs.foldl (fun b x=>Q1j b [-x,1]) b) z=0)↔(Q0n b z=0∨z∈xs):=by
 induction xs with
 |nil=>intro b;simp
 |cons x xs ih=>
  intro b
  rw [List.foldl_cons,ih,Q4m,Y1S,List.mem_cons]
  constructor
  ·rintro (h|h)
   ·rcases Q4k h with h|h
    ·exact .inl h
    ·exact .inr (.inl (by grind))
   ·exact .inr (.inr h)
  ·rintro (h|h|h)
   ·left;rw [h,Q7y]
   ·left;rw [h];have:x - x=0:=by grind
    rw [this,Q4I]
   ·exact .inr h
theorem Q5g (xs:List F) (z:F):Q0n (Q5F xs) z=0↔z∈xs:=by
 unfold Q5F
 rw [Z7c]
 have:Q0n [1] z=1:=by simp only [Q0n,Q4I,Q6b]
 rw [this]
 exact ⟨fun h=>h.resolve_left Z6h,.inr⟩
def Z6l (o:List F) (c:F) (b:List F) (j:Nat):List F:=(List.range o.length).map fun i=>co o i+(if i<j then c * co b i else 0)
theorem Q1U (o:List F) (c:F) (b:List F) (j:Nat):(Z6l o c b j).length=o.length:=by simp [Z6l]
theorem Z0g (o:List F) (c:F) (b:List F) (j i:Nat) (h:i<o.length):co (Z6l o c b j) i=co o i+(if i<j then c * co b i else 0):=Q2q (by simp [Z6l,h])
theorem Z8W (o:List F) (c:F) (b:List F):Z6l o c b 0=o:=by
 apply Q3E (Q1U _ _ _ _)
 intro i
 rcases Nat.lt_or_ge i o.length with h|h
 ·rw [Z0g _ _ _ _ _ h,if_neg (by omega),Q6b]
 ·rw [Q0t (by rw [Q1U];exact h),Q0t h]
theorem Y1T (o:List F) (c:F) (b:List F) (j:Nat):(Z6l o c b j).set j (co (Z6l o c b j) j+c * co b j)=Z6l o c b (j+1):=by
 apply Q3E
 ·rw [List.length_set,Q1U,Q1U]
 ·intro k
  rcases Nat.lt_or_ge k o.length with hk|hk
  ·rw [Z0g _ _ _ _ _ hk]
   by_cases hkj:k=j
   ·subst hkj
    rw [Z3F _ _ _ (by rw [Q1U];exact hk),Z0g _ _ _ _ _ hk,if_neg (by omega),if_pos (by omega),Q6b]
   ·rw [Q6k _ _ _ _ hkj,Z0g _ _ _ _ _ hk]
    congr 1
    by_cases h:k<j
    ·rw [if_pos h,if_pos (by omega)]
    ·rw [if_neg h,if_neg (by omega)]
  ·rw [Q0t (by rw [List.length_set,Q1U];exact hk),Q0t (by rw [Q1U];exact hk)]
theorem Z8X (o:List F) (c:F) (b:List F) (h:b.length<=o.length) (x:F):Q0n (Z6l o c b b.length) x=Q0n o x+c * Q0n b x:=by
 rw [<-Q1T,<-Q3j]
 apply Q6i
 intro i
 rw [Q6h,Q6J]
 rcases Nat.lt_or_ge i o.length with h1|h1
 ·rw [Z0g _ _ _ _ _ h1]
  congr 1
  by_cases h2:i<b.length
  ·rw [if_pos h2]
  ·rw [if_neg h2,Q0t (l:=b) (by omega),Q4I]
 ·rw [Q0t (by rw [Q1U];exact h1),Q0t h1,Q0t (l:=b) (by omega),Q4I,Q6b]
def Goes (o:List F) (ps:List (F×F)):Prop:= ∀p∈ps,Q0n o p.1=p.2
theorem Z8Y {o:List F} {ps:List (F×F)} {x y c:F} (h:Goes o ps) (hl:ps.length+1<=o.length) (hx:x∉ps.map (·.1)) (hc:c=(y - Q0n o x) * inv (Q0n (Q5F (ps.map (·.1))) x)):
  Goes (Z6l o c (Q5F (ps.map (·.1))) (Q5F (ps.map (·.1))).length) (ps++ [(x,y)]):=by
 have hb:(Q5F (ps.map (·.1))).length<=o.length:=by rw [Q4P,List.length_map];exact hl
 intro p hp
 rw [Z8X _ _ _ hb]
 rcases List.mem_append.1 hp with hp|hp
 ·rw [(Q5g _ _).2 (List.mem_map.2 ⟨p,hp,rfl⟩),Q4I,Q6b]
  exact h p hp
 ·simp at hp;subst hp
  have hne:Q0n (Q5F (ps.map (·.1))) x≠0:=fun e=>hx ((Q5g _ _).1 e)
  have hi:=Q4V hne
  simp only
  rw [hc]
  generalize Q0n (Q5F (ps.map (·.1))) x=u at *
  generalize Q0n o x=v at *
  grind
theorem Z1v {o:List F} {ps:List (F×F)} (h:Goes o ps) (hl:o.length<=ps.length):Interp ps (Q0w o):=
 ⟨Q1K o,by have:=Q1y o;omega,fun p hp=>by rw [Q3b];exact h p hp⟩
def Z7d (xi:F) (o:List F) (xk:F):List F:=Q1j (Q0w o) (Q0w [-xk * inv (xi - xk),inv (xi - xk)])
theorem Q8N (xi xk:F) (o:List F) (z:F):Q0n (Z7d xi o xk) z=Q0n o z * ((z - xk) * inv (xi - xk)):=by
 unfold Z7d
 have h:Q0n [-xk * inv (xi - xk),inv (xi - xk)] z=(z - xk) * inv (xi - xk):=by
  simp only [Q0n,Q4I,Q6b]
  generalize inv (xi - xk)=u
  grind
 rw [Q4m,Q3b,Q3b,h]
theorem Q6l (xi xk:F) (o:List F) (m:Nat) (h:o.length<=m) (_hm:1<=m):(Z7d xi o xk).length<=m+1:=by
 unfold Z7d
 have h1:=Q1y o
 have h2:=Q1y [-xk * inv (xi - xk),inv (xi - xk)]
 rw [Q2c]
 split
 ·omega
 ·simp at h2;omega
end Croft
