/- Parts of the proof, put together by a program: DecW. No condition. -/
import Derived.Test.YtploomncapiloaaGreatDoorSAT
import Derived.Test.YtploomncapiloaaGreatDoorSAX
set_option maxRecDepth 100000
set_option maxHeartbeats 8000000
namespace Go.Proofs.YtploomncapiloaaGreatDoor
open Go.RowKit Croft
theorem Z4t (n:Nat) (f:Nat->F): ∀m,Q1r (n+m) f=Q1r n f+Q1r m fun i=>f (n+i)
 |0=>by simp [Q1r]
 |m+1=>by
  show Q1r (n+m) f+f (n+m)=Q1r n f+(Q1r m (fun i=>f (n+i))+f (n+m))
  rw [Z4t n f m]
  grind
def bwQ (t w:Nat) (y:Nat->F):List F:=(List.range (t+w+1)).map y
def bwE (t w:Nat) (y:Nat->F):List F:=((List.range w).map fun i=>y (t+w+1+i))++ [1]
def Q6C (t w:Nat) (a Y:F):List F:=(List.range (t+w+1)).map (fun i=>a^i)++(((List.range w).map fun i=>0 - Y * a^i)++ [Y * a^w])
def Q3T (t w:Nat) (l:List (Int×Int)):List (List Int):=l.map fun s=>Q0g (Q6C t w (toF s.1) (toF s.2))
theorem Q9r (t w:Nat) (a Y:F):(Q6C t w a Y).length=t+2 * w+2:=by simp [Q6C];omega
theorem Y3h {t w:Nat} (a Y:F) {k:Nat} (h:k<t+w+1):co (Q6C t w a Y) k=a^k:=by
 refine Q2q ?_
 unfold Q6C
 rw [List.getElem?_append_left (by simpa using h),List.getElem?_map,List.getElem?_range h]
 rfl
theorem Y0a {t w:Nat} (a Y:F) {i:Nat} (h:i<w):co (Q6C t w a Y) (t+w+1+i)=0 - Y * a^i:=by
 refine Q2q ?_
 unfold Q6C
 rw [List.getElem?_append_right (by simp),List.length_map,List.length_range,show t+w+1+i - (t+w+1)=i by omega,List.getElem?_append_left (by simpa using h),List.getElem?_map,List.getElem?_range h]
 rfl
theorem Y3i (t w:Nat) (a Y:F):co (Q6C t w a Y) (t+2 * w+1)=Y * a^w:=by
 refine Q2q ?_
 unfold Q6C
 rw [List.getElem?_append_right (by simp;omega),List.length_map,List.length_range,List.getElem?_append_right (by simp;omega),List.length_map,List.length_range,show t+2 * w+1 - (t+w+1) - w=0 by omega]
 rfl
theorem Q7c (t w:Nat) (y:Nat->F):(bwQ t w y).length=t+w+1:=by simp [bwQ]
theorem Q5r (t w:Nat) (y:Nat->F):(bwE t w y).length=w+1:=by simp [bwE]
theorem Y3j (t w:Nat) (y:Nat->F) (a:F):Q0n (bwQ t w y) a=Q1r (t+w+1) fun i=>a^i * y i:=by
 rw [Q7Z _ a (t+w+1) (by rw [Q7c];omega)]
 refine Q0z fun i hi=> ?_
 rw [show co (bwQ t w y) i=y i from Q2q (by unfold bwQ;rw [List.getElem?_map,List.getElem?_range hi];rfl)]
 grind
theorem Y3k (t w:Nat) (y:Nat->F) (a:F):Q0n (bwE t w y) a=Q1r w (fun i=>a^i * y (t+w+1+i))+a^w:=by
 unfold bwE
 rw [Q9i,List.length_map,List.length_range,Q7Z _ a w (by simp),Y3P]
 refine congrArg (· +a^w) (Q0z fun i hi=> ?_)
 rw [show co ((List.range w).map fun i=>y (t+w+1+i)) i=y (t+w+1+i) from Q2q (by rw [List.getElem?_map,List.getElem?_range hi];rfl)]
 grind
theorem Q7d (t w:Nat) (y:Nat->F):Q0w (bwE t w y)=bwE t w y:=by
 refine Q7k _ fun a ha=> ?_
 unfold bwE at ha
 rw [List.getLast?_append] at ha
 simp at ha
 rw [<-ha]
 exact Z6h
theorem Y0b (t w:Nat) (y:Nat->F) (a Y:F):Q1r (t+2 * w+1) (fun k=>co (Q6C t w a Y) k * y k)=co (Q6C t w a Y) (t+2 * w+1)↔Q0n (bwQ t w y) a=Y * Q0n (bwE t w y) a:=by
 rw [show t+2 * w+1=t+w+1+w by omega,Z4t,show t+w+1+w=t+2 * w+1 by omega,Y3i,Y3j,Y3k]
 rw [Q0z (g:=fun i=>a^i * y i) fun i hi=>by rw [Y3h a Y hi]]
 rw [Q0z (f:=fun i=>co (Q6C t w a Y) (t+w+1+i) * y (t+w+1+i)) (g:=fun i=> -Y * (a^i * y (t+w+1+i))) fun i hi=>by rw [Y0a a Y hi];grind]
 rw [Q4L]
 generalize Q1r (t+w+1) (fun i=>a^i * y i)=u
 generalize Q1r w (fun i=>a^i * y (t+w+1+i))=v
 generalize a^w=z
 constructor
 ·intro h
  grind
 ·intro h
  grind
theorem Z7M (t w:Nat) (l:List (Int×Int)): ∀r∈Q3T t w l,r.length=t+2 * w+1+1:=fun r hr=>by
 obtain ⟨s,_,rfl⟩:=List.mem_map.1 hr
 rw [Q0d,Q9r]
theorem Z6D {t w:Nat} {l:List (Int×Int)} {y:Nat->F}:Z4q (Q3T t w l).length (t+2 * w+1) (mx (Q3T t w l)) y↔ ∀s∈l,Q0n (bwQ t w y) (toF s.1)=toF s.2 * Q0n (bwE t w y) (toF s.1):=by
 constructor
 ·intro h s hs
  have:=Y3g h _ (List.mem_map.2 ⟨s,hs,rfl⟩)
  rw [Q0A] at this
  exact (Y0b t w y _ _).1 this
 ·intro h
  refine Y3f fun r hr=> ?_
  obtain ⟨s,hs,rfl⟩:=List.mem_map.1 hr
  rw [Q0A]
  exact (Y0b t w y _ _).2 (h s hs)
def Fits (t w:Nat) (l:List (Int×Int)) (p:List F):Prop:=p.length<=t+1/\(Q4i p l).length<=w
def Z7N (p:List F) (l:List (Int×Int)):List F:=(l.filter fun s=>decide (Q0n p (toF s.1)=toF s.2)).map fun s=>toF s.1
theorem Q9s (p:List F) (l:List (Int×Int)):(Z7N p l).length+(Q4i p l).length=l.length:=by
 unfold Z7N Q4i
 rw [List.length_map,List.length_map]
 induction l with
 |nil=>rfl
 |cons s l ih=>
  by_cases h:Q0n p (toF s.1)=toF s.2
  ·rw [List.filter_cons_of_pos (by simpa using h),List.filter_cons_of_neg (by simpa using h),List.length_cons,List.length_cons]
   omega
  ·rw [List.filter_cons_of_neg (by simpa using h),List.filter_cons_of_pos (by simpa using h),List.length_cons,List.length_cons]
   omega
theorem Z5K {p:List F} {l:List (Int×Int)} (hok:Q1P l 2147483646):(Z7N p l).Nodup:=by
 have h:=Q2v hok
 have e:(Q2X l).map (·.1)=l.map fun s=>toF s.1:=by simp [Q2X,Function.comp_def]
 rw [e] at h
 exact h.sublist (List.Sublist.map _ List.filter_sublist)
theorem Y0c {p:List F} {l:List (Int×Int)} {a:F} (h:a∈Z7N p l): ∃s∈l,a=toF s.1/\Q0n p a=toF s.2:=by
 obtain ⟨s,hs,rfl⟩:=List.mem_map.1 h
 obtain ⟨h1,h2⟩:=List.mem_filter.1 hs
 exact ⟨s,h1,rfl,by simpa using h2⟩
theorem Z0Y {t w:Nat} {l:List (Int×Int)} {p:List F} {y:Nat->F} (hok:Q1P l 2147483646) (hl:t+1+2 * w<=l.length) (hp:Fits t w l p) (hy: ∀s∈l,Q0n (bwQ t w y) (toF s.1)=toF s.2 * Q0n (bwE t w y) (toF s.1)):
  ∀i,co (bwQ t w y) i=co (Q1j p (bwE t w y)) i:=by
 have hg:=Q9s p l
 have hb:=hp.2
 have hp1:=hp.1
 have hz:Zero (Q7h (bwQ t w y) (Q3a (-1) (Q1j p (bwE t w y)))):=by
  refine roots (Z7N p l) _ ?_ (Z5K hok) fun a ha=> ?_
  ·rw [Q3D,Q2f,Q2c,Q7c,Q5r]
   split<;>omega
  ·obtain ⟨s,hs,rfl,he⟩:=Y0c ha
   rw [Q3j,Q1T,Q4m,hy s hs,he]
   grind
 intro i
 have h:=Zero.iff_co.1 hz i
 rw [Q6h,Q6J] at h
 grind
theorem Y0d (xs:List F):co (Q5F xs) xs.length=1:=by
 have key: ∀n (xs:List F),xs.length=n->co (Q5F xs) xs.length=1:=by
  intro n
  induction n with
  |zero=>
   intro xs hx
   obtain rfl:=List.length_eq_zero_iff.1 hx
   rfl
  |succ n ih=>
   intro xs hx
   obtain ⟨ys,x,rfl⟩: ∃ys x,xs=ys++ [x]:=⟨xs.dropLast,xs.getLast (by intro h;subst h;simp at hx),(List.dropLast_concat_getLast _).symm⟩
   have hy:ys.length=n:=by simpa using hx
   rw [Z1Z,Q3W,List.length_append,List.length_singleton,Q4M ys.length (by omega) fun i hi hne=> ?_]
   ·rw [ih ys hy,show ys.length+1 - ys.length=1 by omega]
    simp [co,Z4O]
   ·rcases Nat.lt_or_ge i ys.length with h|h
    ·rw [Q0t (l:= [-x,1]) (by simp;omega),Q4I]
    ·rw [Q0t (l:=Q5F ys) (by rw [Q4P];omega),Q7y]
 exact key _ xs rfl
theorem Z4u {t w:Nat} {l:List (Int×Int)} {p:List F} (hp:Fits t w l p): ∃y:Nat->F,∀s∈l,Q0n (bwQ t w y) (toF s.1)=toF s.2 * Q0n (bwE t w y) (toF s.1):=by
 obtain ⟨hp1,hb⟩:=hp
 obtain ⟨B,hB⟩: ∃B,B=(Q4i p l).map toF++List.replicate (w - (Q4i p l).length) 0:=⟨_,rfl⟩
 have hBl:B.length=w:=by rw [hB];simp;omega
 obtain ⟨E,hE⟩: ∃E,E=Q5F B:=⟨_,rfl⟩
 have hEl:E.length=w+1:=by rw [hE,Q4P,hBl]
 have hEt:co E w=1:=by rw [hE,<-hBl];exact Y0d B
 refine ⟨fun k=>if k<t+w+1 then co (Q1j p E) k else co E (k - (t+w+1)),fun s hs=> ?_⟩
 have eQ: ∀i,co (bwQ t w fun k=>if k<t+w+1 then co (Q1j p E) k else co E (k - (t+w+1))) i=co (Q1j p E) i:=fun i=>by
  rcases Nat.lt_or_ge i (t+w+1) with h|h
  ·rw [show co (bwQ t w _) i=_ from Q2q (by unfold bwQ;rw [List.getElem?_map,List.getElem?_range h];rfl)]
   exact if_pos h
  ·rw [Q0t (by rw [Q7c];exact h),Q0t]
   rw [Q2c,hEl]
   split<;>omega
 have eE: ∀i,co (bwE t w fun k=>if k<t+w+1 then co (Q1j p E) k else co E (k - (t+w+1))) i=co E i:=fun i=>by
  unfold bwE
  rcases Nat.lt_trichotomy i w with h|h|h
  ·rw [Q3O (by simpa using h)]
   refine (Q2q (a:=co E i) ?_)
   rw [List.getElem?_map,List.getElem?_range h]
   simp [show¬(t+w+1+i<t+w+1) by omega]
  ·subst h
   rw [Q4Q (by simp),hEt]
  ·rw [Q0t (by simp;omega),Q0t (by omega)]
 rw [Q6i eQ,Q6i eE,Q4m]
 by_cases hg:Q0n p (toF s.1)=toF s.2
 ·rw [hg]
 ·have h0:Q0n E (toF s.1)=0:=by
   rw [hE,Q5g,hB]
   refine List.mem_append.2 (.inl (List.mem_map.2 ⟨s.1, ?_,rfl⟩))
   unfold Q4i
   exact List.mem_map.2 ⟨s,List.mem_filter.2 ⟨hs,by simpa using hg⟩,rfl⟩
  rw [h0,Q4I,Q4I]
theorem Y5M {t w:Nat} {l:List (Int×Int)} {p Q R:List F} {y:Nat->F} (hok:Q1P l 2147483646) (hl:t+1+2 * w<=l.length) (hp:Fits t w l p) (hy: ∀s∈l,Q0n (bwQ t w y) (toF s.1)=toF s.2 * Q0n (bwE t w y) (toF s.1))
  (hd:Y3Y (Q0w (bwQ t w y)) (Q0w (bwE t w y)) Q R):Q=Q0w p/\R= []:=by
 rw [Q7d] at hd
 have hEne:bwE t w y≠ []:=by unfold bwE;simp
 refine Z2h hEne (Q7d t w y) hd.nq hd.nr (Q1K p) rfl hd.short (by rw [Q5r];simp) ?_
 rw [hd.eq]
 refine Q3N _ _ fun i=> ?_
 rw [Q9K,Z0Y hok hl hp hy,Q3W,Q3W]
 exact Q0z fun i _=>by rw [Q4K]
theorem Z4v (p:List F) (l:List (Int×Int)):Q4i (Q0w p) l=Q4i p l:=by
 unfold Q4i
 simp only [Q3b]
theorem Fits.one {t w:Nat} {l:List (Int×Int)} {p q:List F} (hok:Q1P l 2147483646) (hl:t+1+2 * w<=l.length) (hp:Fits t w l p) (hq:Fits t w l q):Q0w p=Q0w q:=by
 obtain ⟨y,hy⟩:=Z4u hp
 have h1:=Z0Y hok hl hp hy
 have h2:=Z0Y hok hl hq hy
 have hEne:bwE t w y≠ []:=by unfold bwE;simp
 refine (Z2h (R:= []) (R':= []) hEne (Q7d t w y) (Q1K p) rfl (Q1K q) rfl (by rw [Q5r];simp) (by rw [Q5r];simp) ?_).1
 refine Q3N _ _ fun i=> ?_
 rw [Q9K,Q9K]
 have e: ∀r:List F,co (Q1j (Q0w r) (bwE t w y)) i=co (Q1j r (bwE t w y)) i:=fun r=>by
  rw [Q3W,Q3W]
  exact Q0z fun i _=>by rw [Q4K]
 rw [e,e,<-h1,<-h2]
def Z8C (m:Nat) (a:F):List F:=(List.range m).map fun i=>a^i
def Q7j (m:Nat) (a Y:F) (p:Nat):List F:=Z8C m a++(List.range p).map fun i=>0 - Y * a^i
theorem Y0e (m:Nat) (a:F):Q0g (Z8C (m+1) a)=Q0g (Z8C m a)++ [ofF (a^m)]:=by simp [Z8C,Q0g,List.range_succ]
theorem Z7O (m:Nat) (a Y:F) (p:Nat):Q0g (Q7j m a Y (p+1))=Q0g (Q7j m a Y p)++ [ofF (0 - Y * a^p)]:=by simp [Q7j,Q0g,List.range_succ]
theorem Z7P (m:Nat) (a Y:F):Q7j m a Y 0=Z8C m a:=by simp [Q7j]
theorem Y0f (t w:Nat) (a Y:F):Q0g (Q6C t w a Y)=Q0g (Q7j (t+w+1) a Y w)++ [ofF (Y * a^w)]:=by simp [Q6C,Q7j,Z8C,Q0g]
theorem Z3b (a:F) (n:Nat):Z4S a (n:Int)=a^n:=by unfold Z4S;rw [Int.toNat_natCast]
theorem Z5L {t w:Nat} {l:List (Int×Int)} {k:Nat} {a y:Int} (h:l[k]? =some (a,y)):Q3T t w (l.take k)++ [Q0g (Q6C t w (toF a) (toF y))]=Q3T t w (l.take (k+1)):=by
 unfold Q3T
 rw [List.take_add_one,h,List.map_append]
 rfl
theorem Q8s (t w:Nat) (l:List (Int×Int)):(Q3T t w l).length=l.length:=by simp [Q3T]
theorem Z1M (t wq:Nat) (va:Value) (l:List (Int×Int)) (w:World) (h1:Q0V w va l) (ht:t<=4) (hwq:wq<=4) (hat: ∀s∈l,0<=s.1) (h20:l.length<=20):
  Calls Tryz.prog 196 #[.int .i64 t,.int .i64 wq,va] w fun e w'=> ∃v vs,e= .returned v/\Q1W w' w.heap.size v vs (Q3T t wq l)/\Below w.heap.size w w':=by
 have KA:=Qh h1
 have HAT:=Qh hat
 suffices hgoal: ∀Post:Ending->World->Prop,(∀w' v vs,Q1W w' w.heap.size v vs (Q3T t wq l)->Below w.heap.size w w'->Post (.returned v) w')->Calls Tryz.prog 196 #[.int .i64 t,.int .i64 wq,va] w Post from hgoal _ fun w' v vs h h2=>⟨v,vs,rfl,h,h2⟩
 intro Post hpo
 have HP:=Qh hpo
 obtain ⟨A1,c1,rfl,hc1,hm1,hl1,hu1,hr1⟩:=h1
 clear hu1 hr1 hm1 hpo hat
 obtain ⟨m,hm⟩: ∃m,m=t+wq+1:=⟨_,rfl⟩
 have hm9:m<=9:=by omega
 have HM:=Qh hm
 have hmi:(t:Int)+(wq:Int)+1=(m:Int):=by omega
 clear hm
 go_enter Tryz.func196,Tryz.ntmps196
 go_wp2_with fail
 go_loopw [7,16] (fun v i wr=> ∃(k:Nat) (vs:List Value),k<=l.length/\i= .int .i64 k/\Q1W wr w.heap.size v vs (Q3T t wq (l.take k))/\Below w.heap.size w wr) (fun _ i _=>l.length - (intOf i).toNat)
 case atStart=>exact ⟨0, [],Nat.zero_le _,rfl,Q1W.nil _ _,Below.refl _ _⟩
 case round=>
  obtain ⟨k,vs,hk,rfl,hgr,hbel⟩:=hrel
  have KG:=Qh hgr
  have BEL:=Qh hbel
  have hsz:=hbel.size
  clear hgr hbel
  by_cases hlt:k<l.length
  ·obtain ⟨A,c,hA,_,_,_,hu,hr⟩:=KA.out.below BEL.out
   injection hA with hA1 hA2 hA3
   subst hA1 hA3
   clear hA2
   obtain ⟨b1,o1,a0,y0,rfl,hb1,hgk,hia,huy,hca,hcb⟩:=Q2S hr hu hlt
   have HGK:=Qh hgk
   have hat0:0<=a0:=HAT.out _ (List.mem_of_getElem? hgk)
   have hua:U64 a0:=⟨hat0,by have:=hia.2;omega⟩
   have hwa:IntKind.u64.wrap a0=a0:=by rw [IntKind.wrap_u64];exact Int.emod_eq_of_lt hua.1 (by have:=hua.2;omega)
   have BX:=Qh (Box.new wr 71 [.int .i64 a0,.int .u64 y0])
   have B2:=Qh (BEL.out.alloc hsz (.cells #[.int .i64 a0,.int .u64 y0] 71))
   have KG2:=Qh (KG.out.alloc (.cells #[.int .i64 a0,.int .u64 y0] 71))
   have hs2:(wr.alloc (.cells #[.int .i64 a0,.int .u64 y0] 71)).heap.size=wr.heap.size+1:=size_alloc _ _
   clear hr hu hgk hb1 KG hia
   go_upto_region 6 with fail
   obtain ⟨w2,hw2⟩: ∃w2,w2=wr.alloc (.cells #[.int .i64 a0,.int .u64 y0] 71):=⟨_,rfl⟩
   replace BX:=Qh (show Box w2 wr.heap.size 71 [.int .i64 a0,.int .u64 y0] by rw [hw2];exact BX.out)
   rw [<-hw2] at B2 KG2 hs2⊢
   obtain ⟨cb,hcb2⟩: ∃cb,cb=wr.heap.size:=⟨_,rfl⟩
   rw [<-hcb2] at BX⊢
   have hcb3:cb<w2.heap.size:=by omega
   clear hw2 hcb2 hca hcb hs2
   go_wp2_with fail
   go_loopw [11,27] (fun v i wx=> ∃p:Nat,p<=m/\i= .int .i64 p/\Q0c wx w2.heap.size v (Q0g (Z8C p (toF a0)))/\Below w2.heap.size w2 wx) (fun _ i _=>m - (intOf i).toNat)
   case atStart=>exact ⟨0,Nat.zero_le _,rfl,Q0c.nil _ _,Below.refl _ _⟩
   case round=>
    obtain ⟨p,hp,rfl,hown,hbx⟩:=hrel
    have KO:=Qh hown
    have BQ:=Qh hbx
    have hsq:=hbx.size
    clear hown hbx
    by_cases hlp:p<m
    ·have hup:U64 (p:Int):=⟨by omega,by omega⟩
     have hwp:IntKind.u64.wrap (p:Int)=(p:Int):=by rw [IntKind.wrap_u64];exact Int.emod_eq_of_lt hup.1 (by have:=hup.2;omega)
     have HOL:=Qh (show (Q0g (Z8C p (toF a0))).length+1<=17592186043904 by simp [Z8C,Q0g];omega)
     go_wp2_with fail
     refine (Q9L _ _ _ hua.1 hup).mono ?_
     rintro e w' ⟨rfl,rfl⟩
     rw [Z3b]
     try dsimp only
     go_wp2_with (at_builtin;go_loud (refine Q0B rfl _ _ rfl w2.heap.size _ _ (ofF (toF a0^p)) wr.heap.size 1 rfl (KO.out.alloc _) rfl (Q0o _ _ _) (U64.of_ofF _) HOL.out (by rw [size_alloc];omega) ?_))
     intro v5 w5 ho5 hb5
     have K5:=Qh (show Q0c w5 w2.heap.size v5 (Q0g (Z8C (p+1) (toF a0))) by rw [Y0e];exact ho5)
     have B5:=Qh ((BQ.out.alloc hsq (.cells #[.int .u64 (ofF (toF a0^p))] 67)).trans hb5)
     clear ho5 hb5
     go_wp2_with fail
     exact ⟨⟨p+1,by omega,by go_num,K5.out,B5.out⟩,by simp [intOf]<;>omega⟩
    ·obtain rfl:p=m:=by omega
     go_wp2_with fail
     have KO2:=Qh (show Q0c wr w2.heap.size _ (Q0g (Q7j p (toF a0) (toF y0) 0)) by rw [Z7P];exact KO.out)
     clear KO
     go_loopw [11,39] (fun v i wx=> ∃q:Nat,q<=wq/\i= .int .i64 q/\Q0c wx w2.heap.size v (Q0g (Q7j p (toF a0) (toF y0) q))/\Below w2.heap.size w2 wx) (fun _ i _=>wq - (intOf i).toNat)
     case atStart=>exact ⟨0,Nat.zero_le _,rfl,KO2.out,BQ.out⟩
     case round=>
      obtain ⟨q,hq,rfl,hown,hbx⟩:=hrel
      clear KO2 BQ hsq
      have KO:=Qh hown
      have BQ:=Qh hbx
      have hsq:=hbx.size
      have BXq:=Qh (BX.out.under hbx hcb3)
      clear hown hbx
      have hy:=BXq.out.cell (i:=1) rfl
      by_cases hlq:q<wq
      ·have huq:U64 (q:Int):=⟨by omega,by omega⟩
       have hwq2:IntKind.u64.wrap (q:Int)=(q:Int):=by rw [IntKind.wrap_u64];exact Int.emod_eq_of_lt huq.1 (by have:=huq.2;omega)
       have HOL:=Qh (show (Q0g (Q7j p (toF a0) (toF y0) q)).length+1<=17592186043904 by simp [Q7j,Z8C,Q0g];omega)
       go_wp2_with fail
       refine Q1u 1 9 (by kernel_rfl) (by kernel_rfl) (fun _ _ _ _ _ h=>h) ?_
       simp only [List.take_succ_cons,List.take_zero,List.drop_succ_cons,List.drop_zero,Q4s,moved]
       simp [Act.put,Act.eval]
       repeat (go_big_quiet_step ((first|exact Q1b (Q9L _ _ _ hua.1 huq)|exact Q1b (Q1t _ _ _ huy.1 (Q0i _))|exact Q1b (Q4N _ _ _ (by omega) (Q0i _)))))
       refine wpQuiet_nil ?_
       intro nq
       have hx:ofF (toF 0 - toF (ofF (toF y0 * toF (ofF (Z4S (toF a0) (q:Int))))))=ofF (0 - toF y0 * toF a0^q):=by rw [Q0m,Q0m,Z3b,Q1G]
       rw [hx]
       obtain ⟨wz,hwz⟩: ∃wz,wz=wr.drewN nq:=⟨_,rfl⟩
       have KO2:=Qh (show Q0c wz w2.heap.size _ (Q0g (Q7j p (toF a0) (toF y0) q)) by rw [hwz];exact KO.out.drewN nq)
       have BQ2:=Qh (show Below w2.heap.size w2 wz by rw [hwz];exact below_drewN BQ.out nq)
       have hsq2:w2.heap.size<=wz.heap.size:=by rw [hwz];exact hsq
       rw [<-hwz]
       clear hwz hy hx
       go_wp2_with (at_builtin;go_loud (refine Q0B rfl _ _ rfl w2.heap.size _ _ (ofF (0 - toF y0 * toF a0^q)) wz.heap.size 1 rfl (KO2.out.alloc _) rfl (Q0o _ _ _) (U64.of_ofF _) HOL.out (by rw [size_alloc];omega) ?_))
       intro v5 w5 ho5 hb5
       have K5:=Qh (show Q0c w5 w2.heap.size v5 (Q0g (Q7j p (toF a0) (toF y0) (q+1))) by rw [Z7O];exact ho5)
       have B5:=Qh ((BQ2.out.alloc hsq2 (.cells #[.int .u64 (ofF (0 - toF y0 * toF a0^q))] 67)).trans hb5)
       clear ho5 hb5
       go_wp2_with fail
       exact ⟨⟨q+1,by omega,by go_num,K5.out,B5.out⟩,by simp [intOf]<;>omega⟩
      ·obtain rfl:q=wq:=by omega
       have huq:U64 (q:Int):=⟨by omega,by omega⟩
       have hwq2:IntKind.u64.wrap (q:Int)=(q:Int):=by rw [IntKind.wrap_u64];exact Int.emod_eq_of_lt huq.1 (by have:=huq.2;omega)
       have HOL:=Qh (show (Q0g (Q7j p (toF a0) (toF y0) q)).length+1<=17592186043904 by simp [Q7j,Z8C,Q0g];omega)
       go_wp2_with fail
       refine Q1u 2 9 (by kernel_rfl) (by kernel_rfl) (fun _ _ _ _ _ h=>h) ?_
       simp only [List.take_succ_cons,List.take_zero,List.drop_succ_cons,List.drop_zero,Q4s,moved]
       simp [Act.put,Act.eval]
       repeat (go_big_quiet_step ((first|exact Q1b (Q9L _ _ _ hua.1 huq)|exact Q1b (Q1t _ _ _ huy.1 (Q0i _)))))
       refine wpQuiet_nil ?_
       intro nq
       have hx:ofF (toF y0 * toF (ofF (Z4S (toF a0) (q:Int))))=ofF (toF y0 * toF a0^q):=by rw [Q0m,Z3b]
       rw [hx]
       obtain ⟨wz,hwz⟩: ∃wz,wz=wr.drewN nq:=⟨_,rfl⟩
       have KO2:=Qh (show Q0c wz w2.heap.size _ (Q0g (Q7j p (toF a0) (toF y0) q)) by rw [hwz];exact KO.out.drewN nq)
       have BQ2:=Qh (show Below w2.heap.size w2 wz by rw [hwz];exact below_drewN BQ.out nq)
       have hsq2:w2.heap.size<=wz.heap.size:=by rw [hwz];exact hsq
       rw [<-hwz]
       clear hwz hy hx
       go_wp2_with (at_builtin;go_loud (refine Q0B rfl _ _ rfl w2.heap.size _ _ (ofF (toF y0 * toF a0^q)) wz.heap.size 1 rfl (KO2.out.alloc _) rfl (Q0o _ _ _) (U64.of_ofF _) HOL.out (by rw [size_alloc];omega) ?_))
       intro v6 w6 ho6 hb6
       have hrow6:Q0c w6 w2.heap.size v6 (Q0g (Q6C t q (toF a0) (toF y0))):=by rw [Y0f,<-HM.out];exact ho6
       obtain ⟨A6,c6,hv6,_,_⟩:=Q0k hrow6.1
       rw [Q0d,Q9r] at hv6
       subst hv6
       have B6:=Qh ((BQ2.out.alloc hsq2 (.cells #[.int .u64 (ofF (toF y0 * toF a0^q))] 67)).trans hb6)
       have KG6:=Qh (KG2.out.below B6.out)
       have KR6:=Qh hrow6
       have hs26:=B6.out.size
       have hws2:=B2.out.size
       have HFAR:=Qh (show∀(k:Nat) (z:Value) (b:Nat),vs[k]? =some z->z.ownBlock=some b->(Value.slice A6 (t+2 * q+2) c6).ownBlock≠some b from fun k z b hz hzb hb=>by
        have h1:=(hrow6.1.lt b hb).1
        have hk:=(List.getElem?_eq_some_iff.1 hz).1
        rw [KG2.out.vlen] at hk
        have h2:=((KG2.out.row k z _ hz (List.getElem?_eq_getElem hk)).1.lt b hzb).2
        omega)
       have BE6:=Qh (Q0b B2.out B6.out hws2)
       have hsz6:=BE6.out.size
       have HTK:=Qh (Z5L (t:=t) (w:=q) HGK.out)
       have HLN:=Qh (show (Q3T t q (l.take k)).length+1<=5864062014805 by rw [Q8s,List.length_take];omega)
       clear ho6 hb6 hrow6 KO KO2 BQ BQ2
       go_wp2_with (at_builtin;go_loud (refine Q9C rfl _ _ (by rfl) w.heap.size _ vs (Q3T t q (l.take k)) (.slice A6 (t+2 * q+2) c6) (Q0g (Q6C t q (toF a0) (toF y0))) w6.heap.size 1 (by rfl) (KG6.out.alloc _) (by rfl) (Q0o _ _ _) ((KR6.out.less hws2).alloc _) HFAR.out HLN.out (by rw [size_alloc];omega) ?_))
       intro v7 w7 hg7 hb7 _ _
       rw [HTK.out] at hg7
       have KG7:=Qh hg7
       have BE7:=Qh ((BE6.out.alloc hsz6 (.cells #[.slice A6 (t+2 * q+2) c6] 64)).trans hb7)
       clear hg7 hb7
       go_wp2_with fail
       exact ⟨⟨k+1,_,by omega,by go_num,KG7.out,BE7.out⟩,by simp [intOf]<;>omega⟩
  ·obtain rfl:k=l.length:=by omega
   have HTE:=Qh (show l.take l.length=l from List.take_of_length_le (Nat.le_refl _))
   rw [HTE.out] at KG
   go_wp2_with fail
   exact HP.out _ _ _ KG.out BEL.out
theorem Z5M (A:Option Addr) (m c lo:Nat) (h1:lo<=m) (W:World):
  (Instr.sliceAt 64 (.slice A m c) (some (.int .i64 (lo:Int))) none none).run Tryz.prog W= .ok (.slice (if c=lo then A else A.map (·.add (lo * 1))) (m - lo) (c - lo)) W:=by
 have hU:Program.underlying Tryz.prog 64=some (.slice (Program.elem Tryz.prog 64)):=by kernel_rfl
 have hs: ∀W,(sizeOf (Program.elem Tryz.prog 64)).run Tryz.prog W= .ok 1 W:=fun W=>by kernel_rfl
 rw [run_sliceAt_slice _ _ _ _ _ _ hU,run_slice_l W _ A m c hU .i64 _ (by omega) (by omega),hs]
 simp [Result.andThen,sliced]
theorem Z1N (A:Option Addr) (m c hi:Nat) (h2:hi<=c) (W:World):
  (Instr.sliceAt 64 (.slice A m c) none (some (.int .i64 (hi:Int))) none).run Tryz.prog W= .ok (.slice A hi c) W:=by
 have hU:Program.underlying Tryz.prog 64=some (.slice (Program.elem Tryz.prog 64)):=by kernel_rfl
 have hs: ∀W,(sizeOf (Program.elem Tryz.prog 64)).run Tryz.prog W= .ok 1 W:=fun W=>by kernel_rfl
 rw [run_sliceAt_slice _ _ _ _ _ _ hU,run_slice_h W _ A m c hU .i64 _ (by omega) (by omega),hs]
 simp only [Result.andThen,sliced,Nat.zero_mul,Nat.sub_zero,Int.toNat_natCast]
 congr 2
 split
 ·rfl
 ·cases A with
  |none=>rfl
  |some a=>
   obtain ⟨b,o,s⟩:=a
   simp [Addr.add]
theorem Y0g (b o c:Nat) (l:List Int) (w:World) (h1:Q0h w (.slice (some ⟨b,o,none⟩) l.length c) l):
  Calls Tryz.prog 197 #[.slice (some ⟨b,o,none⟩) l.length c] w fun e w'=> ∃v,e= .returned v/\Q0c w' w.heap.size v l/\Below w.heap.size w w':=by
 have KA:=Qh h1
 obtain ⟨A1,c1,hv,hc1,hm1,hl1,hu1,hr1⟩:=h1
 injection hv with e1 _ e3
 subst e1 e3
 have KO:=Qh (Q5a w w.heap.size [] (by simp) (by simp) (Nat.le_refl _))
 have hnil: ∀W,(binOp .eql 64 (.slice (some ⟨b,o,none⟩) l.length c) (.slice none 0 0)).run Tryz.prog W= .ok (.bool false) W:=fun W=>Lib.run_eql_slice_nil W _ _ _ _ _ _ _ Tryz.underlying64
 clear hu1 hr1 hm1
 go_enter Tryz.func197,Tryz.ntmps197
 go_wp2_with (at_builtin;go_loud (refine Q3H rfl _ _ rfl w.heap.size _ _ [] l rfl KO.out rfl (KA.out.below ((Below.refl _ _).alloc (Nat.le_refl _) _)) (by simp;omega) (by rw [size_alloc];omega) ?_))
 intro v' w' ho hb
 have K:=Qh (show Q0c w' w.heap.size v' l from ho)
 have B:=Qh (((Below.refl w.heap.size w).alloc (Nat.le_refl _) (.cells (Q2o []).toArray 67)).trans hb)
 clear ho hb
 go_wp2_with fail
 go_ret
 exact ⟨_,rfl,K.out,B.out⟩
theorem Y3l {n:Nat} {L:List (List Int)} (hv1:1<=n) (hv20:n<=20) (hm20:L.length<=20) (hlen: ∀r∈L,r.length=n+1):Z8B L n=0:=by
 unfold Z8B
 rw [if_pos (by omega),if_neg (by omega),if_neg]
 rw [List.any_eq_true]
 rintro ⟨r,hr,h⟩
 unfold Z9V at h
 rw [bne_iff_ne] at h
 have:=hlen r hr
 omega
theorem Y0h (t wq:Nat) (y:Nat->F):((Q0g ((List.range (t+2 * wq+1)).map y)).drop (t+wq+1))++ [1]=Q0g (bwE t wq y):=by
 unfold Q0g bwE
 rw [List.map_append,<-List.map_drop,<-List.map_drop]
 refine congr (congrArg _ (congrArg (List.map ofF) ?_)) rfl
 apply List.ext_getElem
 ·simp;omega
 ·intro i h1 h2
  simp
theorem Y0i (t wq:Nat) (y:Nat->F):(Q0g ((List.range (t+2 * wq+1)).map y)).take (t+wq+1)=Q0g (bwQ t wq y):=by
 unfold Q0g bwQ
 rw [<-List.map_take,<-List.map_take]
 refine congrArg (List.map ofF) ?_
 apply List.ext_getElem
 ·simp;omega
 ·intro i h1 h2
  simp
def Z6E (w:World) (e:Ending) (w':World) (t wq:Nat) (l:List (Int×Int)):Prop:=
 ∃v b q,e= .returned (.tuple #[v,.bool b])/\Q0c w' w.heap.size v (Q0g q)/\Q0w q=q/\(b=true->q.length<=t+1)/\(∀p,Fits t wq l p->b=true/\q=Q0w p)/\Below w.heap.size w w'
theorem Z7Q (t wq:Nat) (va:Value) (l:List (Int×Int)) (w:World) (h1:Q0V w va l) (ht:t<=4) (hwq:wq<=4) (hok:Q1P l 9) (hl:t+1+2 * wq<=l.length):
  Calls Tryz.prog 180 #[.int .i64 t,.int .i64 wq,va] w fun e w'=>Z6E w e w' t wq l:=by
 have KA:=Qh h1
 have HOK:=Qh hok
 have hl9:=hok.few
 suffices hgoal: ∀Post:Ending->World->Prop,(∀e w',Z6E w e w' t wq l->Post e w')->Calls Tryz.prog 180 #[.int .i64 t,.int .i64 wq,va] w Post from hgoal _ fun e w' h=>h
 intro Post hpo
 have HP:=Qh hpo
 clear hpo hok h1
 obtain ⟨m,hm⟩: ∃m,m=t+wq+1:=⟨_,rfl⟩
 obtain ⟨n,hn⟩: ∃n,n=t+2 * wq+1:=⟨_,rfl⟩
 have hmi:(t:Int)+(wq:Int)+1=(m:Int):=by omega
 have hni:(t:Int)+2 * (wq:Int)+1=(n:Int):=by omega
 have hmn:m+wq=n:=by omega
 have hn20:n<=20:=by omega
 have HM:=Qh hm
 have HN:=Qh hn
 have hn1:1<=n:=by omega
 have hmn':m<=n:=by omega
 have HMN:=Qh hmn
 clear hm hn hmn
 go_enter Tryz.func180,Tryz.ntmps180
 go_wp2_with fail
 refine (Z1M t wq va l w KA.out ht hwq (fun s hs=>by have:=(HOK.out.1 s hs).1;omega) (by omega)).mono ?_
 rintro e W1 ⟨v1,vs1,rfl,hg1,hb1⟩
 have KG:=Qh hg1.is
 have B1:=Qh hb1
 clear hg1 hb1
 have hrl: ∀r∈Q3T t wq l,r.length=n+1:=fun r hr=>by rw [Z7M t wq l r hr,HN.out]
 have hrn:(Q3T t wq l).length<=20:=by rw [Q8s];omega
 have C2:=Qh (Z9Z v1 (Q3T t wq l) n W1 KG.out (Y3l hn1 hn20 hrn hrl) hn1 hn20 hrn hrl)
 clear hrl hrn
 try dsimp only
 go_wp2_with fail
 refine C2.out.mono ?_
 rintro e W2 ⟨rows,ls,hred,hcase⟩
 rcases hcase with ⟨⟨r,hr1,hr2,hr3⟩,v2,rfl,ho2,hb2⟩|⟨hz,v2,rfl,ho2,hb2⟩
 ·have NOF:=Qh (show∀p,¬Fits t wq l p from fun p hp=>by
   obtain ⟨y,hy⟩:=Z4u hp
   have hy2:=Z6D.2 hy
   rw [<-HN.out] at hy2
   exact hr3 (hred.fits hy2 r hr1 hr2))
  have B2:=Qh (Q0b B1.out hb2 B1.out.size)
  clear ho2 hb2 hred hr3 hr2 hr1
  try dsimp only
  go_wp2_with fail
  exact HP.out _ _ ⟨_,_, [],rfl,Q0c.nil _ _,rfl,by simp,fun p hp=>absurd hp (NOF.out p),B2.out⟩
 ·obtain ⟨y,hy⟩: ∃y,y=Z5F (mx rows) ls n:=⟨_,rfl⟩
  have HY:=Qh (show∀s∈l,Q0n (bwQ t wq y) (toF s.1)=toF s.2 * Q0n (bwE t wq y) (toF s.1) from by
   have h:=hred.sol (show∀r,ls.length<=r->r<(Q3T t wq l).length->mx rows r n=0 from hz)
   rw [<-hy] at h
   rw [HN.out] at h
   exact Z6D.1 h)
  have hs:Q0g (Y6j (mx rows) ls n)=Q0g ((List.range n).map y):=by rw [hy];rfl
  rw [hs] at ho2
  have B2:=Qh (Q0b B1.out hb2 B1.out.size)
  clear hs hy hred hz hb2
  have hl2:(Q0g ((List.range n).map y)).length=n:=by simp [Q0g]
  have K2:=Qh ho2.is
  obtain ⟨g2,c2,hv2,hc2⟩: ∃g c,v2= .slice (some ⟨g,0,none⟩) n c/\n<=c:=by
   have h:=ho2.1
   rcases h.2 with ⟨_,h0⟩|⟨g,cap,cur,rfl,_,_,hn',_⟩
   ·rw [hl2] at h0;omega
   ·exact ⟨g,cap,by rw [hl2],by rw [hl2] at hn';exact hn'⟩
  subst hv2
  have HL2:=Qh hl2
  clear ho2 hl2
  have hsl1:=Z5M (some ⟨g2,0,none⟩) n c2 m hmn'
  have hsl2:=Z1N (some ⟨g2,0,none⟩) n c2 m (by omega)
  obtain ⟨o3,ho3⟩: ∃o,(if c2=m then some (⟨g2,0,none⟩:Addr) else (some (⟨g2,0,none⟩:Addr)).map (·.add (m * 1)))=some ⟨g2,o,none⟩:=by
   split
   ·exact ⟨0,rfl⟩
   ·exact ⟨0+m * 1,by rw [Option.map_some,Q0N]⟩
  rw [ho3,show n - m=wq by have:=HMN.out;omega] at hsl1
  have KC:=Qh (show Q0h W2 (.slice (some ⟨g2,o3,none⟩) wq (c2 - m)) ((Q0g ((List.range n).map y)).drop m) from by
   have h:=K2.out.cut m n (by omega) (by rw [HL2.out];omega)
   rw [ho3,show n - m=wq by have:=HMN.out;omega,List.take_of_length_le (by rw [List.length_drop,HL2.out];have:=HMN.out;omega)] at h
   exact h)
  have HLC:=Qh (show ((Q0g ((List.range n).map y)).drop m).length=wq by rw [List.length_drop,HL2.out];have:=HMN.out;omega)
  have KT:=Qh (show Q0h W2 (.slice (some ⟨g2,0,none⟩) m c2) (Q0g (bwQ t wq y)) from by
   have h:=K2.out.cut 0 m (by omega) (by rw [HL2.out];omega)
   rw [List.drop_zero,Nat.sub_zero,Nat.sub_zero,HN.out,HM.out,Y0i,<-HM.out] at h
   have e:(if c2=0 then some (⟨g2,0,none⟩:Addr) else (some (⟨g2,0,none⟩:Addr)).map (·.add (0 * 1)))=some ⟨g2,0,none⟩:=by
    split
    ·rfl
    ·rw [Option.map_some,Q0N]
   rw [e] at h
   exact h)
  have HDE:=Qh (show ((Q0g ((List.range n).map y)).drop m)++ [1]=Q0g (bwE t wq y) by rw [HN.out,HM.out];exact Y0h t wq y)
  clear ho3
  try dsimp only
  go_wp2_with fail
  have C3:=Y0g g2 o3 (c2 - m) _ W2 (by rw [HLC.out];exact KC.out)
  rw [HLC.out] at C3
  refine C3.mono ?_
  clear C3
  rintro e W3 ⟨v3,rfl,ho3,hb3⟩
  have K3:=Qh ho3
  have B3:=Qh (Q0b B2.out hb3 B2.out.size)
  have HB23:=Qh hb3
  have hs3:W2.heap.size<=W3.heap.size:=hb3.size
  have HLC1:=Qh (show ((Q0g ((List.range n).map y)).drop m).length+1<=17592186043904 by rw [HLC.out];omega)
  clear ho3 hb3
  try dsimp only
  go_wp2_with (at_builtin;go_loud (refine Q0B rfl _ _ rfl W2.heap.size _ _ 1 W3.heap.size 1 rfl (K3.out.alloc _) rfl (Q0o _ _ _) ⟨by omega,by omega⟩ HLC1.out (by rw [size_alloc];omega) ?_))
  intro v4 W4 ho4 hb4
  rw [HDE.out] at ho4
  have K4:=Qh ho4.is
  have B4:=Qh ((B3.out.alloc B3.out.size (.cells #[.int .u64 1] 67)).trans (hb4.mono B2.out.size))
  have KT4:=Qh (KT.out.below (HB23.out.trans (((Below.refl W2.heap.size W3).alloc hs3 (.cells #[.int .u64 1] 67)).trans hb4)))
  clear ho4 hb4 hsl1
  go_wp2_with fail
  refine (Z7n _ _ _ _ _ KT4.out K4.out (by rw [Q0d,Q7c];omega) (by rw [Q0d,Q5r];omega)).mono ?_
  intro e W5 h5
  obtain ⟨vq,vr,Q,R,rfl,hoq,hor,hd,hb5⟩:=h5.2 (by rw [Q0A,Q7d];unfold bwE;simp)
  rw [Q0A,Q0A] at hd
  have FIT:=Qh (fun p (hp:Fits t wq l p)=>Y5M HOK.out.more hl hp HY.out hd)
  have NQ:=Qh hd.nq
  have KQ:=Qh (hoq.less B4.out.size)
  have B5:=Qh (Q0b B4.out hb5 B4.out.size)
  obtain ⟨Aq,cq,hvq,_,_⟩:=Q0k hoq.1
  obtain ⟨Ar,cr,hvr,_,_⟩:=Q0k hor.1
  rw [Q0d] at hvq hvr
  subst hvq hvr
  clear h5 hoq hor hd hb5 hsl2
  try dsimp only
  by_cases hR:R.length=0
  ·have hR':((R.length:Int)==0)=true:=by rw [beq_iff_eq];omega
   by_cases hQ:Q.length<=t+1
   ·have hQ':decide ((Q.length:Int)<=(t:Int)+1)=true:=decide_eq_true (by omega)
    have HQ:=Qh hQ
    go_wp2_with fail
    exact HP.out _ _ ⟨_,true,Q,rfl,KQ.out,NQ.out,fun _=>HQ.out,fun p hp=>⟨rfl,(FIT.out p hp).1⟩,B5.out⟩
   ·have hQ':decide ((Q.length:Int)<=(t:Int)+1)=false:=decide_eq_false (by omega)
    have HNO:=Qh (show∀p,¬Fits t wq l p from fun p hp=>hQ (by rw [(FIT.out p hp).1];exact Nat.le_trans (Q1y p) hp.1))
    go_wp2_with fail
    exact HP.out _ _ ⟨_,false,Q,rfl,KQ.out,NQ.out,(fun h=>by cases h),fun p hp=>absurd hp (HNO.out p),B5.out⟩
  ·have hR':((R.length:Int)==0)=false:=by rw [beq_eq_false_iff_ne];omega
   have HNO:=Qh (show∀p,¬Fits t wq l p from fun p hp=>hR (by rw [(FIT.out p hp).2];rfl))
   go_wp2_with fail
   exact HP.out _ _ ⟨_,false,Q,rfl,KQ.out,NQ.out,(fun h=>by cases h),fun p hp=>absurd hp (HNO.out p),B5.out⟩
def Z8D (t wrong:Int) (l:List (Int×Int)):Int:=
 if Q0T t l≠0/\Q0T t l≠4 then Q0T t l else if wrong<0∨4<wrong then 1 else if (l.length:Int)<t+1+2 * wrong then 4 else 0
def Y4l (w:World) (e:Ending) (w':World) (err:Int):Prop:=e= .returned (.tuple #[.slice none 0 0,.slice none 0 0,.int .i64 err])/\Below w.heap.size w w'
def Z6F (w:World) (e:Ending) (w':World) (t wq:Nat) (l:List (Int×Int)):Prop:=
 (∃p,Q0w p=p/\Fits t wq l p/\ ∃vp vb,e= .returned (.tuple #[vp,vb,.int .i64 0])/\Q0c w' w.heap.size vp (Z1H (Q0g p) (t+1))/\Q0j w' w.heap.size vb (srt (Q4i p l))/\Below w.heap.size w w')∨
 ((∀p,¬Fits t wq l p)/\Y4l w e w' 6)
theorem Z4w {t wrong:Int} {l:List (Int×Int)} (h:Z8D t wrong l=0): ∃T W:Nat,t=T/\wrong=W/\T<=4/\W<=4/\Q1P l 9/\T+1+2 * W<=l.length/\Q0T t l=0:=by
 unfold Z8D at h
 by_cases h1:Q0T t l≠0/\Q0T t l≠4
 ·rw [if_pos h1] at h
  exact absurd h h1.1
 ·rw [if_neg h1] at h
  by_cases h2:wrong<0∨4<wrong
  ·rw [if_pos h2] at h;omega
  ·rw [if_neg h2] at h
   by_cases h3:(l.length:Int)<t+1+2 * wrong
   ·rw [if_pos h3] at h;omega
   ·have hc:Q0T t l=0:=by
     refine Classical.byContradiction fun h0=> ?_
     have h4:Q0T t l=4:=Classical.byContradiction fun h4=>h1 ⟨h0,h4⟩
     unfold Q0T at h4
     split at h4
     ·split at h4
      ·split at h4<;>omega
      ·omega
     ·omega
    obtain ⟨⟨t1,t2⟩,hok,_⟩:=Q1V.1 hc
    exact ⟨t.toNat,wrong.toNat,by omega,by omega,by omega,by omega,hok,by omega,hc⟩
theorem Y5f (t wrong:Int) (va:Value) (l:List (Int×Int)) (w:World) (h1:Q0V w va l) (h:Z8D t wrong l≠0):
  Calls Tryz.prog 155 #[.int .i64 t,.int .i64 wrong,va] w fun e w'=>Y4l w e w' (Z8D t wrong l):=by
 have C:=Qh (Q5k t va l w h1)
 obtain ⟨A1,c1,rfl,hc1,hm1,hl1,hu1,hr1⟩:=h1
 clear hu1 hr1 hm1
 by_cases k1:Q0T t l≠0/\Q0T t l≠4
 ·have HE:=Qh (show Z8D t wrong l=Q0T t l from if_pos k1)
  have hb1:(Q0T t l !=0)=true:=by rw [bne_iff_ne];exact k1.1
  have hb2:(Q0T t l !=4)=true:=by rw [bne_iff_ne];exact k1.2
  clear k1 h
  obtain ⟨ce,hce⟩: ∃ce,ce=Q0T t l:=⟨_,rfl⟩
  rw [<-hce] at HE hb1 hb2 C
  clear hce
  go_enter Tryz.func155,Tryz.ntmps155
  go_wp2_with fail
  refine C.out.mono ?_
  rintro e w' ⟨rfl,hb⟩
  try dsimp only
  go_wp2_with fail
  go_ret3
  exact ⟨by rw [HE.out];rfl,hb⟩
 ·have hbb:(Q0T t l !=0)=false∨(Q0T t l !=0)=true/\(Q0T t l !=4)=false:=by
   by_cases h0:Q0T t l=0
   ·left;rw [h0];rfl
   ·right
    have h4:Q0T t l=4:=Classical.byContradiction fun h4=>k1 ⟨h0,h4⟩
    rw [h4];exact ⟨rfl,rfl⟩
  have e1:Z8D t wrong l=if wrong<0∨4<wrong then 1 else if (l.length:Int)<t+1+2 * wrong then 4 else 0:=if_neg k1
  by_cases k2:wrong<0∨4<wrong
  ·have HE:=Qh (show Z8D t wrong l=1 by rw [e1,if_pos k2])
   clear e1 h k1
   obtain ⟨ce,hce⟩: ∃ce,ce=Q0T t l:=⟨_,rfl⟩
   rw [<-hce] at hbb C
   clear hce
   rcases hbb with hb1|⟨hb1,hb2⟩
   all_goals
    rcases k2 with k2|k2
    all_goals
     go_enter Tryz.func155,Tryz.ntmps155
     go_wp2_with fail
     refine C.out.mono ?_
     rintro e w' ⟨rfl,hb⟩
     have HB:=Qh hb
     clear hb
     try dsimp only
     go_wp2_with fail
     go_ret3
     exact ⟨by rw [HE.out];rfl,HB.out⟩
  ·rw [if_neg k2] at e1
   have k3:(l.length:Int)<t+1+2 * wrong:=Classical.byContradiction fun k3=>h (by rw [e1,if_neg k3])
   have HE:=Qh (show Z8D t wrong l=4 by rw [e1,if_pos k3])
   have ht4:t<=4/\0<=t:=by
    by_cases h0:0<=t/\t<=4
    ·omega
    ·exfalso
     have:Q0T t l=1:=if_neg h0
     exact k1 (by rw [this];decide)
   obtain ⟨w1,w2⟩:0<=wrong/\wrong<=4:=by omega
   clear e1 h k1 k2
   obtain ⟨ce,hce⟩: ∃ce,ce=Q0T t l:=⟨_,rfl⟩
   rw [<-hce] at hbb C
   clear hce
   rcases hbb with hb1|⟨hb1,hb2⟩
   all_goals
    go_enter Tryz.func155,Tryz.ntmps155
    go_wp2_with fail
    refine C.out.mono ?_
    rintro e w' ⟨rfl,hb⟩
    have HB:=Qh hb
    clear hb
    try dsimp only
    go_wp2_with fail
    go_ret3
    exact ⟨by rw [HE.out];rfl,HB.out⟩
theorem Z7R (t wq:Nat) (va:Value) (l:List (Int×Int)) (w:World) (h1:Q0V w va l) (h:Z8D t wq l=0):
  Calls Tryz.prog 155 #[.int .i64 t,.int .i64 wq,va] w fun e w'=>Z6F w e w' t wq l:=by
 obtain ⟨T,W,hT,hW,ht,hwq,hok,hl,hck⟩:=Z4w h
 obtain rfl:t=T:=by omega
 obtain rfl:wq=W:=by omega
 clear h hT hW
 have KA:=Qh h1
 have HOK:=Qh hok
 have HCK:=Qh hck
 have hl9:=hok.few
 suffices hgoal: ∀Post:Ending->World->Prop,(∀e w',Z6F w e w' t wq l->Post e w')->Calls Tryz.prog 155 #[.int .i64 t,.int .i64 wq,va] w Post from hgoal _ fun e w' h=>h
 intro Post hpo
 have HP:=Qh hpo
 obtain ⟨A1,c1,rfl,hc1,hm1,hl1,hu1,hr1⟩:=h1
 clear hpo hok hck hu1 hr1 hm1
 go_enter Tryz.func155,Tryz.ntmps155
 go_wp2_with fail
 refine (Q5k t _ l _ KA.out).mono ?_
 rintro e W0 ⟨rfl,hb0⟩
 rw [HCK.out]
 have B0:=Qh hb0
 clear hb0
 try dsimp only
 go_wp2_with fail
 refine (Z7Q t wq _ l _ (KA.out.below B0.out) ht hwq HOK.out hl).mono ?_
 rintro e W1 ⟨v,b,q,rfl,ho,hn,hlen,hfit,hb1⟩
 have B1:=Qh (Q0b B0.out hb1 B0.out.size)
 have KQ:=Qh (ho.less B0.out.size)
 have FIT:=Qh hfit
 have NQ:=Qh hn
 have LEN:=Qh hlen
 have hs1:=B1.out.size
 clear ho hn hfit hb1 hlen
 try dsimp only
 cases b with
 |false=>
  go_wp2_with fail
  go_ret3
  exact HP.out _ _ (.inr ⟨(fun p hp=>by have:=(FIT.out p hp).1;cases this),rfl,B1.out⟩)
 |true=>
  have HQL:=Qh (LEN.out rfl)
  clear LEN
  obtain ⟨Aq,cq,hvq,_,_⟩:=Q0k KQ.out.1
  rw [Q0d] at hvq
  subst hvq
  go_wp2_with fail
  go_loopw [12,53] (fun vb i wr=> ∃k:Nat,k<=l.length/\i= .int .i64 k/\Q0j wr W1.heap.size vb (Q4i q (l.take k))/\Below W1.heap.size W1 wr) (fun _ i _=>l.length - (intOf i).toNat)
  case atStart=>exact ⟨0,Nat.zero_le _,rfl,Q0j.nil _ _,Below.refl _ _⟩
  case round=>
   obtain ⟨k,hk,rfl,hown,hbel⟩:=hrel
   have KO:=Qh hown
   have BEL:=Qh hbel
   have hsz:=hbel.size
   clear hown hbel
   by_cases hlt:k<l.length
   ·obtain ⟨A,c,hA,_,_,_,hu,hr⟩:=KA.out.below (Q0b B1.out BEL.out B1.out.size)
    injection hA with hA1 hA2 hA3
    subst hA1 hA3
    clear hA2
    obtain ⟨b1,o1,at_,y,rfl,hb1,hgk,hat,huy,hca,hcb⟩:=Q2S hr hu hlt
    have HBN:=Qh (Z4l (Q:=q) hgk)
    have HBL:=Qh (Nat.le_trans (Q5O q (l.take k)) (by rw [List.length_take];exact Nat.min_le_left _ _))
    have hat0:0<=at_:=by have:=(HOK.out.1 _ (List.mem_of_getElem? hgk)).1;dsimp only at this;omega
    have hua:U64 at_:=⟨hat0,by have:=hat.2;omega⟩
    have HI:=Qh hat
    have hwa:IntKind.u64.wrap at_=at_:=by rw [IntKind.wrap_u64];exact Int.emod_eq_of_lt hua.1 (by have:=hua.2;omega)
    have BX:=Qh (Box.new wr 71 [.int .i64 at_,.int .u64 y])
    have KO2:=Qh (KO.out.alloc (.cells #[.int .i64 at_,.int .u64 y] 71))
    have BEL2:=Qh (BEL.out.alloc hsz (.cells #[.int .i64 at_,.int .u64 y] 71))
    have KQ2:=Qh (KQ.out.is.below (Q0b (Below.refl _ _) BEL2.out (Nat.le_refl _)))
    clear hr hu hgk hb1 KO BEL
    go_upto_region 15 with fail
    obtain ⟨w2,hw2⟩: ∃w2,w2=wr.alloc (.cells #[.int .i64 at_,.int .u64 y] 71):=⟨_,rfl⟩
    replace BX:=Qh (show Box w2 wr.heap.size 71 [.int .i64 at_,.int .u64 y] by rw [hw2];exact BX.out)
    rw [<-hw2] at KO2 BEL2 KQ2⊢
    obtain ⟨cb,hcb2⟩: ∃cb,cb=wr.heap.size:=⟨_,rfl⟩
    rw [<-hcb2] at BX⊢
    have hsz2:=BEL2.out.size
    clear hw2 hcb2 hca hcb
    have g0:=BX.out.cell (i:=0) rfl
    have g1:=BX.out.cell (i:=1) rfl
    go_quiet ((first|exact Y4b (Q8L _ _ _ _ (KQ2.out.drewN _) hua.1)|exact Q1b (Q1f _ _ huy.1)))
    rw [Q0A]
    obtain ⟨wo,hwo⟩: ∃wo,wo=w2.drewN nq:=⟨_,rfl⟩
    have KO3:=Qh (KO2.out.drewN nq)
    have BEL3:=Qh (below_drewN BEL2.out nq)
    have BX3:=Qh (BX.out.drewN nq)
    have hsz3:W1.heap.size<=wo.heap.size:=by rw [hwo];exact hsz2
    rw [<-hwo] at KO3 BEL3 BX3⊢
    have q0:=BX3.out.cell (i:=0) rfl
    clear hwo KO2 BEL2 BX g0 g1
    by_cases hc:Q0n q (toF at_)=toF y
    ·have hbe:(ofF (Q0n q (toF at_)) !=ofF (toF y))=false:=by rw [hc];simp
     have HBM:=Qh (show Q4i q (l.take (k+1))=Q4i q (l.take k) by rw [HBN.out,if_neg (by simp [hc]),List.append_nil])
     clear hc HBN
     go_wp2_with fail
     exact ⟨⟨k+1,by omega,by go_num,by rw [HBM.out];exact KO3.out,BEL3.out⟩,by simp [intOf]<;>omega⟩
    ·have hbe:(ofF (Q0n q (toF at_)) !=ofF (toF y))=true:=by rw [bne_iff_ne];exact fun h=>hc (Q5x h)
     have HBM:=Qh (show Q4i q (l.take (k+1))=Q4i q (l.take k)++ [at_] by rw [HBN.out,if_pos hc])
     clear hc HBN
     go_wp2_with (at_builtin;go_loud (refine Q1M rfl _ _ rfl W1.heap.size _ _ at_ wo.heap.size 1 rfl (KO3.out.alloc _) rfl (Q0o _ _ _) HI.out (by have:=HBL.out;omega) (by rw [size_alloc];omega) ?_))
     intro v' w5 hown' hbel'
     rw [<-HBM.out] at hown'
     have K5:=Qh hown'
     have B5:=Qh ((BEL3.out.alloc hsz3 (.cells #[.int .i64 at_] 3)).trans hbel')
     clear hown' hbel'
     go_wp2_with fail
     exact ⟨⟨k+1,by omega,by go_num,K5.out,B5.out⟩,by simp [intOf]<;>omega⟩
   ·obtain rfl:l.length=k:=by omega
    have HTE:=Qh (show l.take l.length=l from List.take_of_length_le (Nat.le_refl _))
    rw [HTE.out] at KO
    have hbl:=Q5O q l
    obtain ⟨Ab,cb,hvb,_,_⟩:=Q0k KO.out.1
    obtain ⟨bn,hbn⟩: ∃bn,bn=(Q4i q l).length:=⟨_,rfl⟩
    rw [<-hbn] at hvb hbl
    subst hvb
    have HBN:=Qh hbn
    clear hbn
    by_cases hbig:wq<bn
    ·have HNO:=Qh (show∀p,¬Fits t wq l p from fun p hp=>by
      have h1:=(FIT.out p hp).2
      have h2:=hp.2
      rw [<-Z4v,<-h1,<-HBN.out] at h2
      omega)
     go_wp2_with fail
     go_ret3
     exact HP.out _ _ (.inr ⟨HNO.out,rfl,Q0b B1.out BEL.out hs1⟩)
    ·have HYES:=Qh (show Fits t wq l q from ⟨HQL.out,by rw [<-HBN.out];omega⟩)
     have C8:=Qh (Z6z _ _ _ _ KO.out)
     go_wp2_with fail
     refine C8.out.mono ?_
     rintro e W8 ⟨rfl,ho,hb⟩
     have KS:=Qh ho
     have B8:=Qh (BEL.out.trans hb)
     have B08:=Qh (Q0b B1.out B8.out hs1)
     have hs8:=B08.out.size
     have KQ8:=Qh (KQ.out.is.below B8.out)
     clear ho hb KO BEL
     obtain ⟨n1,hn1⟩: ∃n1,n1=t+1:=⟨_,rfl⟩
     have hti:(t:Int)+1=(n1:Int):=by omega
     have HN1:=Qh hn1
     have hn15:n1<=5:=by omega
     clear hn1
     try dsimp only
     go_wp2_with (refine Q1a rfl _ _ rfl W8.heap.size _ n1 rfl rfl rfl (by omega) (Nat.le_refl _) ?_)
     intro W9 ho hb
     have BX:=Qh ho.box
     have BEL:=Qh hb
     have KA1:=Qh (KQ8.out.below hb)
     obtain ⟨xs,hxs⟩: ∃xs,xs=Q0g q:=⟨_,rfl⟩
     obtain ⟨xn,hxn⟩: ∃xn,xn=q.length:=⟨_,rfl⟩
     have hxl':xs.length=xn:=by rw [hxs,hxn,Q0d]
     rw [<-hxs,<-hxn] at KA1
     rw [<-hxn]
     obtain ⟨Z,hZ⟩: ∃Z,Z=Q2o (List.replicate n1 0):=⟨_,rfl⟩
     obtain ⟨C,hC⟩: ∃C,C=Q2o (xs.take n1):=⟨_,rfl⟩
     rw [<-hZ] at BX
     have HXS:=Qh hxs
     have HXL:=Qh hxl'
     have HZ:=Qh hZ
     have HC:=Qh hC
     have HCL:=Qh (show C.length=Nat.min xn n1 by rw [hC,Q0Y,List.length_take,hxl'];exact Nat.min_comm _ _)
     clear ho hb hZ hC hxs hxn hxl'
     go_wp2_with (refine wpList_copy_splice (o:=⟨some 83,_,_,_,_,_⟩) rfl _ _ _ _ rfl 67 Tryz.underlying64 Y2y (some ⟨W8.heap.size,0,none⟩) Aq n1 n1 xn cq rfl rfl W8.heap.size 0 Z 67 BX.out C HCL.out ?c1 ?c2 ?c3 W8.heap.size W8 BEL.out (Nat.le_refl _) ?_)
     case c1=>
      intro h0
      obtain ⟨A,c,hA,_,_,_,hu,hr⟩:=KA1.out
      injection hA with hA1 hA2 hA3
      subst hA1
      have hxl:0<xn:=by
       rw [HCL.out] at h0
       exact Nat.lt_of_lt_of_le h0 (Nat.min_le_left _ _)
      obtain ⟨b,o,rfl,hb,hc⟩:=hr.at_ (j:=0) (by rw [Q0Y,HXL.out];exact hxl)
      refine ⟨_,rfl,fun j v hj=> ?_⟩
      have hj2:=(List.getElem?_eq_some_iff.1 hj).1
      rw [HCL.out] at hj2
      have hjx:j<xn:=Nat.lt_of_lt_of_le hj2 (Nat.min_le_left _ _)
      have hjn:j<n1:=Nat.lt_of_lt_of_le hj2 (Nat.min_le_right _ _)
      rw [Q0N,hc j (by rw [Q0Y,HXL.out];exact hjx),<-hj,HC.out,Q5B,Q5B,List.getElem?_take,if_pos hjn]
     case c2=>rw [HCL.out,HZ.out,Q0Y,List.length_replicate,Nat.zero_add];exact Nat.min_le_right _ _
     case c3=>rw [HC.out];exact Z2y _
     intro W10 hB hBel
     have KB:=Qh (show Box W10 W8.heap.size 67 (Q2o (Z1H xs n1)) from by
      have h:=hB.out
      rw [HZ.out,HC.out,Z5n] at h
      exact h)
     have B10:=Qh hBel
     clear hB hBel
     go_wp2_with fail
     go_ret3
     refine HP.out _ _ (.inl ⟨q,NQ.out,HYES.out,_,_,rfl, ?_,(KS.out.less hs1).below B10.out,Q0b B08.out B10.out hs8⟩)
     have h:=KB.out.own (base:=w.heap.size) hs8 (by rw [Q3c];omega) (Z9s (by rw [HXS.out];exact KQ8.out.u64) n1)
     rw [Q3c,HXS.out,HN1.out] at h
     rw [HN1.out]
     exact h
theorem Y5N {a b:List Int} (h:a.Perm b):srt a=srt b:=by
 have h1:(srt a).Perm (srt b):=(Q7a a).trans (h.trans (Q7a b).symm)
 exact h1.eq_of_pairwise (fun x y _ _ h1 h2=>Int.le_antisymm h1 h2) (Q9q a) (Q9q b)
def Q4G (s:Nat) (l:List (Int×Int)):Nat->List (Int×Int)
 |0=> []
 |k+1=>Q4G s l k++(if s.testBit k=true then (l[k]?).toList else [])
def Z0Z (s:Nat) (l:List (Int×Int)):Nat->List (Int×Int)
 |0=> []
 |k+1=>Z0Z s l k++(if s.testBit k=true then [] else (l[k]?).toList)
theorem Q8t (s:Nat) (l:List (Int×Int)): ∀k,(Q4G s l k++Z0Z s l k).Perm (l.take k)
 |0=>by simp [Q4G,Z0Z]
 |k+1=>by
  rw [List.take_add_one,Q4G,Z0Z]
  have ih:=Q8t s l k
  by_cases hb:s.testBit k=true
  ·rw [if_pos hb,if_pos hb,List.append_nil,List.append_assoc]
   have:(Q4G s l k++((l[k]?).toList++Z0Z s l k)).Perm (Q4G s l k++(Z0Z s l k++(l[k]?).toList)):=List.Perm.append_left _ List.perm_append_comm
   refine this.trans ?_
   rw [<-List.append_assoc]
   exact ih.append_right _
  ·rw [if_neg hb,if_neg hb,List.append_nil,<-List.append_assoc]
   exact ih.append_right _
theorem Y0j (s:Nat) (l:List (Int×Int)) (k:Nat):(Q4G s l k).length+(Z0Z s l k).length=(l.take k).length:=by
 have:=(Q8t s l k).length_eq
 rwa [List.length_append] at this
theorem Y0k {Q:List F} {a b:List (Int×Int)} (h:a.Perm b):(Q4i Q a).Perm (Q4i Q b):=(h.filter _).map _
theorem Z7S {a b:List (Int×Int)} {most:Int} (h:a.Perm b) (hok:Q1P b most):Q1P a most:=
 ⟨fun s hs=>hok.1 s (h.mem_iff.1 hs),(h.map _).nodup_iff.2 hok.2⟩
theorem Z7T {a b:List (Int×Int)} {most:Int} (hok:Q1P (a++b) most):Q1P a most:=
 ⟨fun s hs=>hok.1 s (List.mem_append.2 (.inl hs)),by have:=hok.2;rw [List.map_append] at this;exact (List.nodup_append.1 this).1⟩
theorem Y0l {s:Nat} {l:List (Int×Int)} {most:Int} (hok:Q1P l most):Q1P (Q4G s l l.length) most:=by
 refine Z7T (b:=Z0Z s l l.length) (Z7S (Q8t s l l.length) ?_)
 rw [List.take_of_length_le (Nat.le_refl _)]
 exact hok
theorem Y0m {s u:Nat} {l:List (Int×Int)}: ∀ {k:Nat},(∀i,i<k->s.testBit i=u.testBit i)->Q4G s l k=Q4G u l k
 |0,_=>rfl
 |k+1,h=>by rw [Q4G,Q4G,Y0m (fun i hi=>h i (by omega)),h k (by omega)]
theorem choice (good:Int×Int->Bool) (l:List (Int×Int)): ∀(k m:Nat),m<=((l.take k).filter good).length-> ∃s,s<2^k/\(Q4G s l k).length=m/\ ∀a∈Q4G s l k,good a=true
 |0,m,h=>⟨0,by simp,by simp at h;simp [Q4G];omega,by simp [Q4G]⟩
 |k+1,m,h=>by
  by_cases hm:m<=((l.take k).filter good).length
  ·obtain ⟨s,h1,h2,h3⟩:=choice good l k m hm
   have hb:s.testBit k=false:=Nat.testBit_lt_two_pow h1
   refine ⟨s,by rw [Nat.pow_succ];omega, ?_, ?_⟩
   ·rw [Q4G,hb];simpa using h2
   ·rw [Q4G,hb];simpa using h3
  ·rw [List.take_add_one,List.filter_append,List.length_append] at h
   cases hx:l[k]? with
   |none=>rw [hx] at h;simp at h;omega
   |some a=>
    rw [hx] at h
    by_cases hg:good a=true
    ·have h1':([a].filter good).length=1:=by simp [hg]
     rw [Option.toList_some,h1'] at h
     obtain ⟨s,h1,h2,h3⟩:=choice good l k (m - 1) (by omega)
     have e:Q4G (2^k+s) l k=Q4G s l k:=Y0m fun i hi=>Nat.testBit_two_pow_add_gt hi s
     have hb:(2^k+s).testBit k=true:=by rw [Nat.testBit_two_pow_add_eq,Nat.testBit_lt_two_pow h1];rfl
     refine ⟨2^k+s,by rw [Nat.pow_succ];omega, ?_, ?_⟩
     ·rw [Q4G,e,if_pos hb,hx,List.length_append,h2];simp;omega
     ·rw [Q4G,e,if_pos hb,hx]
      intro b hb2
      rcases List.mem_append.1 hb2 with h4|h4
      ·exact h3 b h4
      ·simp at h4;subst h4;exact hg
    ·rw [Option.toList_some,List.filter_cons_of_neg hg] at h
     simp at h
     omega
def Z1O (t w:Nat) (l:List (Int×Int)) (s:Nat):Prop:= ∀u,u<s-> ∀Q,(Q4G u l l.length).length=t+1->Interp (Q2X (Q4G u l l.length)) Q->w<(Q4i Q l).length
theorem Z1O.all {t w:Nat} {l:List (Int×Int)} (hl:t+1+2 * w<=l.length) (h:Z1O t w l (2^l.length)): ∀p,¬Fits t w l p:=fun p hp=>by
 have hg:=Q9s p l
 have hb:=hp.2
 unfold Z7N at hg
 rw [List.length_map] at hg
 obtain ⟨s,h1,h2,h3⟩:=choice (fun s=>decide (Q0n p (toF s.1)=toF s.2)) l l.length (t+1) (by rw [List.take_of_length_le (Nat.le_refl _)];omega)
 have hI:Interp (Q2X (Q4G s l l.length)) (Q0w p):=by
  refine ⟨Q1K p, ?_,fun q hq=> ?_⟩
  ·have:=Q1y p
   have:=hp.1
   have:(Q2X (Q4G s l l.length)).length=t+1:=by unfold Q2X;rw [List.length_map,h2]
   omega
  ·unfold Q2X at hq
   obtain ⟨a,ha,rfl⟩:=List.mem_map.1 hq
   rw [Q3b]
   have:=h3 a ha
   simpa using this
 have:=h s h1 _ h2 hI
 rw [Z4v] at this
 omega
section
variable {P :Program} {ops:Array Oper} {rest:List Oper} {Q:Exit->Act->World->Prop} {a:Act} {w:World} {o:Oper}
theorem Z5N (t:TypeId) (n N:Nat) (hN:N=2^n) (h1:n<=20):(binOp .shl t (.int .i64 1) (.int .i64 n)).run P w= .ok (.int .i64 N) w:=by
 simp only [binOp,shift_shl_any _ _ _ _ (show (0:Int)<=(n:Int) by omega)]
 have h2:N<=2^20:=by rw [hN];exact Nat.pow_le_pow_right (by omega) h1
 have e:IntKind.i64.wrap (1 * 2^min ((n:Int).toNat) IntKind.i64.bits)=(N:Int):=by
  rw [Int.toNat_natCast,show min n IntKind.i64.bits=n from Nat.min_eq_left (by show n<=64;omega),Int.one_mul]
  rw [show ((2:Int)^n)=(N:Int) by rw [hN];simp]
  exact IntWalk.i64_in _ (by omega)
 rw [e]
 rfl
theorem Q7u (t ty:TypeId) (s z:Operand) (n N:Nat) (hN:N=2^n) (hgd:o.guard=none) (ho:o.op= .binOp .shl t s z ty) (hs:a.eval s= .int .i64 1) (hz:a.eval z= .int .i64 n)
  (h1:n<=20) (h:wpList P ops Q rest (a.put o.dst (.int .i64 N)) w):wpList P ops Q (o::rest) a w:=by
 refine wpList_plain hgd fun K hK=> ?_
 unfold Oper.wp execOp
 have hr:=Z5N (P:=P) (w:=w) t n N hN h1
 simp [ho,hs,hz,eqGuard,hr]
 exact hK _ _ h
end
theorem Y5O (s k:Nat):Y1D (s:Int) (k:Int) % 2=if s.testBit k=true then 1 else 0:=by
 have h:Y1D (s:Int) (k:Int)=((s/2^k:Nat):Int):=by
  unfold Y1D
  rw [Int.toNat_natCast]
  simp
 rw [h,Nat.testBit_eq_decide_div_mod_eq]
 by_cases hb:s/2^k % 2=1
 ·rw [if_pos (by simpa using hb)]
  omega
 ·rw [if_neg (by simpa using hb)]
  omega
theorem Z7U (s k:Nat):0<=Y1D (s:Int) (k:Int):=Z0c (by omega) _
theorem Q0r.in {w:World} {base:Nat} {v:Value} {l:List (Int×Int)} (h:Q0r w base v l) (b:Nat) (hb:v.ownBlock=some b):b<w.heap.size:=(h.1.lt b hb).2
theorem Q4T {ops:Array Oper} {rest:List Oper} {o:Oper} {a:Act} {Q:Exit->Act->World->Prop} {w:World} (hgd:o.guard=none) (s x:Operand)
  (ho:o.op= .call {callee:= .builtin .append,args:= #[s,x],argTypes:= #[69,69]})
  (base:Nat) (v:Value) (l:List (Int×Int)) (n z:Int) (g c:Nat) (hs:a.eval s=v) (hown:Q0r w base v l) (hx:a.eval x= .slice (some ⟨g,0,none⟩) 1 c)
  (hc:w.cell? ⟨g,0,none⟩=some (.int .i64 n)) (hc2:w.cell? ⟨g,1,none⟩=some (.int .u64 z)) (hn:I64 n) (hz:U64 z) (hl:l.length+1<=8796093022208) (hb:base<=w.heap.size)
  (h: ∀v' w',Q0r w' base v' (l++ [(n,z)])->Below base w w'->w.grownBy w' v.ownBlock->(v'.ownBlock=v.ownBlock∨v'.ownBlock=some w.heap.size)->wpList Tryz.prog ops Q rest (a.put o.dst v') w'):wpList Tryz.prog ops Q (o::rest) a w:=by
 obtain ⟨i0,hi,hz0,hz1,hz2⟩:=info_parts Y1Q
 refine wpList_append_own_at w hgd s x 69 ho base 71 i0 (.agg #[.int .i64 0,.int .u64 0]) 2 16 Tryz.underlying69 hi hz0 hz1 hz2 rfl (by decide) v l.length (shs l) hs hown.1 ⟨g,0,none⟩ 1 c [.int .i64 n,.int .u64 z] hx rfl ?_ ?_ ?_ ?_ hb ?_
 ·intro j u hu
  match j,hu with
  |0,hu=>
   simp at hu
   subst hu
   rw [Q0N];exact hc
  |1,hu=>
   simp at hu
   subst hu
   rw [Q0N];exact hc2
 ·intro u hu
  simp at hu
  rcases hu with rfl|rfl<;>rfl
 ·unfold maxLen;omega
 ·omega
 ·intro v' w' h1 h2 _ h4
  refine h v' w' ⟨?_, ?_, ?_⟩ ((Below.refl _ _).grown h2 hb (fun k hk=>(hown.1.lt k hk).1)) h2 h4
  ·have e:(l++ [(n,z)]).length=l.length+1:=by simp
   rw [e,Z6k];exact h1
  ·simpa using hl
  ·intro y hy
   rcases List.mem_append.1 hy with h3|h3
   ·exact hown.2.2 y h3
   ·simp at h3;subst h3;exact ⟨hn,hz⟩
theorem Q7P {ops:Array Oper} {rest:List Oper} {o:Oper} {a:Act} {Q:Exit->Act->World->Prop} {w:World} (hgd:o.guard=none) (s x:Operand)
  (ho:o.op= .call {callee:= .builtin .append,args:= #[s,x],argTypes:= #[69,69]})
  (base:Nat) (v y:Value) (zs ds:List (Int×Int)) (hs:a.eval s=v) (hown:Q0r w base v zs) (hx:a.eval x=y) (hy:Q0V w y ds) (hl:zs.length+ds.length<=8796093022208)
  (hb:base<=w.heap.size)
  (h: ∀v' w',Q0r w' base v' (zs++ds)->Below base w w'->wpList Tryz.prog ops Q rest (a.put o.dst v') w'):wpList Tryz.prog ops Q (o::rest) a w:=by
 obtain ⟨i0,hi,hz0,hz1,hz2⟩:=info_parts Y1Q
 obtain ⟨A,cap,rfl,k1,k2,k3,k4,k5⟩:=hy
 cases A with
 |none=>
  have h0:ds= []:=by
   rcases k5 with k5|⟨b,o,k5,_⟩
   ·cases ds with
    |nil=>rfl
    |cons d ds=>simp [shs] at k5
   ·cases k5
  subst h0
  refine Q4S hgd s x 69 ho base 71 i0 2 cap Tryz.underlying69 hi v zs.length (shs zs) hs hown.1 hx ?_
  exact h v w (by rw [List.append_nil];exact hown) (Below.refl _ _)
 |some ad=>
  refine wpList_append_own w hgd s x 69 ho base 71 i0 (.agg #[.int .i64 0,.int .u64 0]) 2 16 Tryz.underlying69 hi hz0 hz1 hz2 rfl (by decide) v zs.length (shs zs) hs hown.1 ad ds.length cap (shs ds) hx (by rw [Q6M]) ?_ (Y4Y ds) ?_ ?_ hb ?_
  ·intro j u hu
   rcases k5 with k5|⟨b,o,k5,_,hc⟩
   ·rw [k5] at hu;simp at hu
   ·obtain rfl:=Option.some.inj k5
    rw [Q0N,hc j (List.getElem?_eq_some_iff.1 hu).1,hu]
  ·unfold maxLen;omega
  ·omega
  ·intro v' w' h1 h2 _
   refine h v' w' ⟨?_,by simpa using hl,fun z hz=> ?_⟩ ((Below.refl _ _).grown h2 hb (fun k hk=>(hown.1.lt k hk).1))
   ·rw [List.length_append,Z7x];exact h1
   ·rcases List.mem_append.1 hz with h3|h3
    ·exact hown.2.2 z h3
    ·exact k4 z h3
theorem Z7V {xs:List Int} {k:Nat}:xs++List.replicate k 0++ [0]=xs++List.replicate (k+1) 0:=by
 rw [List.append_assoc,<-List.replicate_succ']
theorem Q9G {ops:Array Oper} {rest:List Oper} {o:Oper} {a:Act} {Q:Exit->Act->World->Prop} {w:World} (hgd:o.guard=none) (s x:Operand)
  (ho:o.op= .call {callee:= .builtin .append,args:= #[s,x],argTypes:= #[64,64]})
  (base:Nat) (v:Value) (zs:List Int) (z:Int) (g c:Nat) (hs:a.eval s=v) (hown:Q0c w base v zs) (hx:a.eval x= .slice (some ⟨g,0,none⟩) 1 c)
  (hc:w.cell? ⟨g,0,none⟩=some (.int .u64 z)) (hz:U64 z) (hl:zs.length+1<=17592186043904) (hb:base<=w.heap.size)
  (h: ∀v' w',Q0c w' base v' (zs++ [z])->Below base w w'->w.grownBy w' v.ownBlock->(v'.ownBlock=v.ownBlock∨v'.ownBlock=some w.heap.size)->wpList Tryz.prog ops Q rest (a.put o.dst v') w'):wpList Tryz.prog ops Q (o::rest) a w:=by
 obtain ⟨i0,hi,hz0,hz1,hz2⟩:=info_parts Z2z
 refine wpList_append_own_at w hgd s x 64 ho base 67 i0 (.int .u64 0) 1 8 Tryz.underlying64 hi hz0 hz1 hz2 rfl (by decide) v zs.length (Q2o zs) hs hown.1 ⟨g,0,none⟩ 1 c [.int .u64 z] hx rfl ?_ ?_ ?_ ?_ hb ?_
 ·intro j u hu
  match j,hu with
  |0,hu=>
   simp at hu
   subst hu
   rw [Q0N];exact hc
 ·intro u hu
  simp at hu
  subst hu;rfl
 ·unfold maxLen;omega
 ·omega
 ·intro v' w' h1 h2 _ h4
  refine h v' w' ⟨?_, ?_, ?_⟩ ((Below.refl _ _).grown h2 hb (fun k hk=>(hown.1.lt k hk).1)) h2 h4
  ·have e:(zs++ [z]).length=zs.length+1:=by simp
   have e2:Q2o (zs++ [z])=Q2o zs++ [.int .u64 z]:=by simp [Q2o]
   rw [e,e2];exact h1
  ·simpa using hl
  ·intro y hy
   rcases List.mem_append.1 hy with h3|h3
   ·exact hown.2.2 y h3
   ·simp at h3;subst h3;exact hz
theorem Z1a {xs:List Int} {n:Nat} (h:xs.length<=n):Z1H xs n=xs++List.replicate (n - xs.length) 0:=by
 unfold Z1H
 rw [List.take_of_length_le h]
def vlen :Value->Nat
 | .slice _ n _=>n
 |_=>0
theorem Y3m {s k:Nat} {l:List (Int×Int)} {a:Int×Int} (h:l[k]? =some a):Q4G s l (k+1)=Q4G s l k++(if s.testBit k=true then [a] else []):=by rw [Q4G,h];rfl
theorem Y3n {s k:Nat} {l:List (Int×Int)} {a:Int×Int} (h:l[k]? =some a):Z0Z s l (k+1)=Z0Z s l k++(if s.testBit k=true then [] else [a]):=by rw [Z0Z,h];rfl
theorem Z1O.skip {t w s:Nat} {l:List (Int×Int)} (h:Z1O t w l s) (hn:(Q4G s l l.length).length≠t+1):Z1O t w l (s+1):=fun u hu Q h1 h2=>by
 rcases Nat.lt_or_ge u s with h3|h3
 ·exact h u h3 Q h1 h2
 ·obtain rfl:u=s:=by omega
  exact absurd h1 hn
theorem Z1O.fail {t w s:Nat} {l:List (Int×Int)} (hok:Q1P l 2147483646) (h:Z1O t w l s) {Q0:List F} (h0:Interp (Q2X (Q4G s l l.length)) Q0) (hw:w<(Q4i Q0 l).length):Z1O t w l (s+1):=fun u hu Q h1 h2=>by
 rcases Nat.lt_or_ge u s with h3|h3
 ·exact h u h3 Q h1 h2
 ·obtain rfl:u=s:=by omega
  obtain rfl:=h0.unique (Q2v (Y0l hok)) h2
  exact hw
theorem Z7W (t wq:Nat) (va:Value) (l:List (Int×Int)) (w:World) (h1:Q0V w va l) (h:Z8D t wq l=0):
  Calls Tryz.prog 82 #[.int .i64 t,.int .i64 wq,va] w fun e w'=>Z6F w e w' t wq l:=by
 obtain ⟨T,W,hT,hW,ht,hwq,hok,hl,hck⟩:=Z4w h
 obtain rfl:t=T:=by omega
 obtain rfl:wq=W:=by omega
 clear h hT hW
 have KA:=Qh h1
 have HOK:=Qh hok
 have HCK:=Qh hck
 have hl9:=hok.few
 suffices hgoal: ∀Post:Ending->World->Prop,(∀e w',Z6F w e w' t wq l->Post e w')->Calls Tryz.prog 82 #[.int .i64 t,.int .i64 wq,va] w Post from hgoal _ fun e w' h=>h
 intro Post hpo
 have HP:=Qh hpo
 obtain ⟨A1,c1,rfl,hc1,hm1,hl1,hu1,hr1⟩:=h1
 obtain ⟨NN,hNN⟩: ∃NN,NN=2^l.length:=⟨_,rfl⟩
 have hNNb:NN<=512:=by rw [hNN];exact Nat.pow_le_pow_right (n:=2) (by omega) hl9
 have HNN:=Qh hNN
 clear hpo hok hck hu1 hr1 hm1 hNN
 have hin:decide (0<=(wq:Int)/\(wq:Int)<=4)=true:=decide_eq_true (by omega)
 go_enter Tryz.func82,Tryz.ntmps82
 go_wp2_with fail
 refine (Q5P t _ l _ KA.out).mono ?_
 rintro e W0 ⟨rfl,nd,rfl⟩
 rw [HCK.out]
 obtain ⟨W1,hW1⟩: ∃W1,W1=w.drewN nd:=⟨_,rfl⟩
 have B1:=Qh (show Below w.heap.size w W1 by rw [hW1];exact below_drewN (Below.refl _ _) nd)
 have hs1:w.heap.size<=W1.heap.size:=B1.out.size
 rw [<-hW1]
 clear hW1
 try dsimp only
 go_wp2_with fail
 refine (Q1N (wq:Int) 0 4 _).mono ?_
 rintro e w' ⟨rfl,rfl⟩
 rw [hin]
 clear hin
 try dsimp only
 go_wp2_with fail
 go_loopw [10] (fun sv wr=> ∃s:Nat,s<=NN/\sv= .int .i64 s/\Z1O t wq l s/\Below w.heap.size w wr) (fun sv _=>NN - (intOf sv).toNat)
 case atStart=>exact ⟨0,Nat.zero_le _,rfl,fun u hu=>absurd hu (by omega),B1.out⟩
 case round=>
  obtain ⟨s,hs,rfl,hno,hbel⟩:=hrel
  have NO:=Qh hno
  have BEL:=Qh hbel
  have hsz:=hbel.size
  clear hno hbel
  by_cases hlt:s<NN
  ·go_wp2_with (refine Q7u _ _ _ _ l.length NN HNN.out rfl rfl rfl rfl (by omega) ?_)
   obtain ⟨wo,hwo⟩: ∃wo,wo=wr:=⟨_,rfl⟩
   subst hwo
   go_loopw [11,12,13] (fun v1 v2 i wx=> ∃k:Nat,k<=l.length/\i= .int .i64 k/\Q0r wx wo.heap.size v1 (Q4G s l k)/\Q0r wx wo.heap.size v2 (Z0Z s l k)/\Far v1 v2/\Below wo.heap.size wo wx) (fun _ _ i _=>l.length - (intOf i).toNat)
   case atStart=>exact ⟨0,Nat.zero_le _,rfl,Q0r.nil _ _,Q0r.nil _ _,Far.nil _,Below.refl _ _⟩
   case round=>
    obtain ⟨k,hk,rfl,ho1,ho2,hfar,hbx⟩:=hrel
    have K1:=Qh ho1
    have K2:=Qh ho2
    have FAR:=Qh hfar
    have BX:=Qh hbx
    have hsx:=hbx.size
    clear ho1 ho2 hfar hbx
    by_cases hlk:k<l.length
    ·obtain ⟨A,c,hA,_,_,_,hu,hr⟩:=KA.out.below (Q0b BEL.out BX.out hsz)
     injection hA with hA1 hA2 hA3
     subst hA1 hA3
     clear hA2
     obtain ⟨b1,o1,at_,y,rfl,hb1,hgk,hat,huy,hca,hcb⟩:=Q2S hr hu hlk
     have HAT:=Qh hat
     have HUY:=Qh huy
     have HF:=Qh (Y3m (s:=s) hgk)
     have HR:=Qh (Y3n (s:=s) hgk)
     have hfl:=Y0j s l k
     rw [List.length_take] at hfl
     have HL1:=Qh (show (Q4G s l k).length+1<=8796093022208 by omega)
     have HL2:=Qh (show (Z0Z s l k).length+1<=8796093022208 by omega)
     have hbit:=Y5O s k
     have hbn:=Z7U s k
     clear hr hu hgk hb1 hfl hat huy
     by_cases hb:s.testBit k=true
     ·rw [if_pos hb] at hbit
      rw [if_pos hb] at HF HR
      clear hb
      go_wp2_with (first|(refine Q6L .i64 _ _ _ _ (s:Int) (k:Int) rfl rfl rfl rfl (by omega) (by omega) rfl ?_)|(at_builtin;go_loud (refine Q4T rfl _ _ rfl wo.heap.size _ (Q4G s l k) at_ y wr.heap.size 1 rfl (K1.out.alloc _) rfl (Q2D _ _ _ _) (Q2E _ _ _ _) HAT.out HUY.out HL1.out (by rw [size_alloc];omega) ?_)))
      intro v5 w5 ho5 hb5 hg5 hk5
      have K15:=Qh (show Q0r w5 wo.heap.size v5 (Q4G s l (k+1)) by rw [HF.out];exact ho5)
      have K25:=Qh (show Q0r w5 wo.heap.size _ (Z0Z s l (k+1)) by rw [HR.out,List.append_nil];exact (K2.out.alloc (.cells #[.int .i64 at_,.int .u64 y] 71)).kept hg5 FAR.out.symm.kept)
      have FAR5:=Qh ((FAR.out.symm.grow (fun b hb=>by have:=K2.out.in b hb;omega) hk5).symm)
      have B5:=Qh ((BX.out.alloc hsx (.cells #[.int .i64 at_,.int .u64 y] 71)).trans hb5)
      clear ho5 hb5 hg5 hk5
      go_wp2_with fail
      exact ⟨⟨k+1,by omega,by go_num,K15.out,K25.out,FAR5.out,B5.out⟩,by simp [intOf]<;>omega⟩
     ·rw [if_neg hb] at hbit HF HR
      clear hb
      go_wp2_with (first|(refine Q6L .i64 _ _ _ _ (s:Int) (k:Int) rfl rfl rfl rfl (by omega) (by omega) rfl ?_)|(at_builtin;go_loud (refine Q4T rfl _ _ rfl wo.heap.size _ (Z0Z s l k) at_ y wr.heap.size 1 rfl (K2.out.alloc _) rfl (Q2D _ _ _ _) (Q2E _ _ _ _) HAT.out HUY.out HL2.out (by rw [size_alloc];omega) ?_)))
      intro v5 w5 ho5 hb5 hg5 hk5
      have K25:=Qh (show Q0r w5 wo.heap.size v5 (Z0Z s l (k+1)) by rw [HR.out];exact ho5)
      have K15:=Qh (show Q0r w5 wo.heap.size _ (Q4G s l (k+1)) by rw [HF.out,List.append_nil];exact (K1.out.alloc (.cells #[.int .i64 at_,.int .u64 y] 71)).kept hg5 FAR.out.kept)
      have FAR5:=Qh (FAR.out.grow (fun b hb=>by have:=K1.out.in b hb;omega) hk5)
      have B5:=Qh ((BX.out.alloc hsx (.cells #[.int .i64 at_,.int .u64 y] 71)).trans hb5)
      clear ho5 hb5 hg5 hk5
      go_wp2_with fail
      exact ⟨⟨k+1,by omega,by go_num,K15.out,K25.out,FAR5.out,B5.out⟩,by simp [intOf]<;>omega⟩
    ·obtain rfl:k=l.length:=by omega
     have hfl:=Y0j s l l.length
     rw [List.take_of_length_le (Nat.le_refl _)] at hfl
     obtain ⟨A1',cf,hv1,_,_⟩:=Q0k K1.out.1
     obtain ⟨fn,hfn⟩: ∃fn,fn=(Q4G s l l.length).length:=⟨_,rfl⟩
     have HFN:=Qh hfn
     rw [<-hfn] at hv1 hfl
     subst hv1
     have B6:=Qh (Q0b BEL.out BX.out hsz)
     have hs6:=B6.out.size
     clear hfn
     by_cases hF:fn=t+1
     ·have hF':((fn:Int) !=(t:Int)+1)=false:=by rw [bne_eq_false_iff_eq];omega
      have HFL:=Qh (show (Q4G s l l.length).length+(Z0Z s l l.length).length<=8796093022208 by rw [<-HFN.out];omega)
      have HPERM:=Qh (show (Q4G s l l.length++Z0Z s l l.length).Perm l by have:=Q8t s l l.length;rwa [List.take_of_length_le (Nat.le_refl _)] at this)
      obtain ⟨Q,hQ⟩:=Z3X (Q2v (Y0l (s:=s) HOK.out.more))
      have HQ:=Qh hQ
      have HF1:=Qh hF
      clear hQ hF
      go_wp2_with (at_builtin;go_loud (refine Q7P rfl _ _ rfl wo.heap.size _ _ (Q4G s l l.length) (Z0Z s l l.length) rfl K1.out rfl K2.out.is HFL.out (by omega) ?_))
      intro v7 w7 ho7 hb7
      have K7:=Qh ho7.is
      have B7:=Qh (B6.out.trans (hb7.mono (by omega)))
      have hs7:=B7.out.size
      have HLL:=Qh (show (Q4G s l l.length++Z0Z s l l.length).length=l.length from HPERM.out.length_eq)
      have HTK:=Qh (show (Q4G s l l.length++Z0Z s l l.length).take (t+1)=Q4G s l l.length from List.take_left' (by rw [<-HFN.out,HF1.out]))
      clear ho7 hb7
      go_wp2_with fail
      refine (Z6A t _ (Q4G s l l.length++Z0Z s l l.length) Q _ K7.out (by rw [HLL.out];omega) (by rw [HLL.out];omega) (by rw [HTK.out];exact Y0l HOK.out.more) (fun a ha=>by have:=(HOK.out.1 a (HPERM.out.mem_iff.1 ha)).1;omega) (by rw [HTK.out];exact HQ.out)).mono ?_
      rintro e w8 ⟨vp,vb,rfl,hop,hob,hb8⟩
      have HSB:=Qh (show srt (Q4i Q (Q4G s l l.length++Z0Z s l l.length))=srt (Q4i Q l) from Y5N (Y0k HPERM.out))
      rw [HSB.out] at hob
      have KP:=Qh hop
      have KB:=Qh hob
      have B8:=Qh (Q0b B7.out hb8 hs7)
      have HS78:=Qh hb8.size
      obtain ⟨Ab,cb,hvb,_,_⟩:=Q0k hob.1
      rw [Q4p] at hvb
      obtain ⟨bn,hbn⟩: ∃bn,bn=(Q4i Q l).length:=⟨_,rfl⟩
      have HBN:=Qh hbn
      rw [<-hbn] at hvb
      subst hvb
      clear hbn hop hob hb8
      try dsimp only
      by_cases hbig:wq<bn
      ·have NX:=Qh (NO.out.fail HOK.out.more HQ.out (by rw [<-HBN.out];exact hbig))
       go_wp2_with fail
       exact ⟨⟨s+1,by omega,by go_num,NX.out,B8.out⟩,by simp [intOf]<;>omega⟩
      ·have hQl:Q.length<=t+1:=by
        have h2:=HQ.out.2.1
        unfold Q2X at h2
        rw [List.length_map,<-HFN.out,HF1.out] at h2
        exact h2
       have HFIT:=Qh (show Fits t wq l Q from ⟨hQl,by rw [<-HBN.out];omega⟩)
       have hs8:=B8.out.size
       go_wp2_with fail
       go_loopw [14] (fun vq wx=> ∃c:Nat,Q.length+c<=t+1/\w7.heap.size<=wx.heap.size/\Q0c wx w7.heap.size vq (Q0g Q++List.replicate c 0)/\Q0j wx w7.heap.size (.slice Ab bn cb) (srt (Q4i Q l))/\Below w.heap.size w wx) (fun vq _=>t+1 - vlen vq)
       case atStart=>exact ⟨0,by omega,HS78.out,by rw [List.replicate_zero,List.append_nil];exact KP.out,KB.out,B8.out⟩
       case round=>
        obtain ⟨c,hc,hw7,hown,hob,hbx⟩:=hrel
        obtain ⟨Aq,cq,rfl,_,_⟩:=Q0k hown.1
        have hql:(Q0g Q++List.replicate c 0).length=Q.length+c:=by rw [List.length_append,Q0d,List.length_replicate]
        have KQ:=Qh hown
        have KBr:=Qh hob
        have BX:=Qh hbx
        have hsx:=hbx.size
        have HQL:=Qh hql
        rw [hql]
        clear hown hob hbx hql KP KB
        by_cases hlc:Q.length+c<t+1
        ·have hlc':decide (((Q.length+c:Nat):Int)<(t:Int)+1)=true:=decide_eq_true (by omega)
         have HL1:=Qh (show (Q0g Q++List.replicate c 0).length+1<=17592186043904 by rw [HQL.out];omega)
         have KQ2:=Qh (show Q0c wr w7.heap.size (.slice Aq (Q.length+c) cq) (Q0g Q++List.replicate c 0) by have:=KQ.out;rwa [HQL.out] at this)
         go_wp2_with (at_builtin;go_loud (refine Q9G rfl _ _ rfl w7.heap.size _ _ 0 wr.heap.size 1 rfl (KQ2.out.alloc _) rfl (Q0o _ _ _) Q5D HL1.out (by rw [size_alloc];omega) ?_))
         intro v9 w9 ho9 hb9 hg9 _
         have ho9':Q0c w9 w7.heap.size v9 (Q0g Q++List.replicate (c+1) 0):=by
          rw [<-Z7V,List.append_assoc]
          exact ho9
         have K9:=Qh ho9'
         have KB9:=Qh ((KBr.out.alloc (.cells #[.int .u64 0] 67)).kept hg9 (by
          cases hzb:(Value.slice Ab bn cb).ownBlock with
          |none=>exact .inl rfl
          |some b=>exact .inr fun hvb=>Q0W (KBr.out.alloc (.cells #[.int .u64 0] 67)).1 (KQ2.out.alloc (.cells #[.int .u64 0] 67)).1 (by decide) hzb hvb.symm))
         have B9:=Qh ((BX.out.alloc hsx (.cells #[.int .u64 0] 67)).trans (hb9.mono (by omega)))
         have HS9:=Qh (show w7.heap.size<=w9.heap.size by have h:=hb9.size;rw [size_alloc] at h;omega)
         obtain ⟨Az,cz,hvz,_,_⟩:=Q0k ho9'.1
         clear ho9 ho9' hb9 hg9
         go_wp2_with fail
         exact ⟨⟨c+1,by omega,HS9.out,K9.out,KB9.out,B9.out⟩,by rw [hvz];simp [vlen,Q0d];omega⟩
        ·have hlc':decide (((Q.length+c:Nat):Int)<(t:Int)+1)=false:=decide_eq_false (by omega)
         have HC:=Qh (show c=t+1 - Q.length by omega)
         go_wp2_with fail
         go_ret3
         refine HP.out _ _ (.inl ⟨Q,HQ.out.1,HFIT.out,_,_,rfl, ?_,KBr.out.less (by omega),BX.out⟩)
         have h:=KQ.out.less (base':=w.heap.size) (by omega)
         rw [HQL.out] at h
         rw [Z1a (by rw [Q0d];omega),Q0d,<-HC.out]
         exact h
     ·have hF':((fn:Int) !=(t:Int)+1)=true:=by rw [bne_iff_ne];omega
      have NX:=Qh (NO.out.skip (by rw [<-HFN.out];exact hF))
      clear hF
      go_wp2_with fail
      exact ⟨⟨s+1,by omega,by go_num,NX.out,B6.out⟩,by simp [intOf]<;>omega⟩
  ·obtain rfl:s=NN:=by omega
   have HNO:=Qh (show∀p,¬Fits t wq l p from Z1O.all hl (by have:=NO.out;rwa [HNN.out] at this))
   go_wp2_with (refine Q7u _ _ _ _ l.length s HNN.out rfl rfl rfl rfl (by omega) ?_)
   go_ret3
   exact HP.out _ _ (.inr ⟨HNO.out,rfl,BEL.out⟩)
def Z1b (w:World) (e:Ending) (w':World) (err:Int):Prop:=e= .returned (.tuple #[.int .u64 0,.slice none 0 0,.int .i64 err])/\Below w.heap.size w w'
def Z1c (w:World) (e:Ending) (w':World) (t wq:Nat) (l:List (Int×Int)):Prop:=
 (∃p,Q0w p=p/\Fits t wq l p/\ ∃vb,e= .returned (.tuple #[.int .u64 (ofF (Q0n p 0)),vb,.int .i64 0])/\Q0j w' w.heap.size vb (srt (Q4i p l))/\Below w.heap.size w w')∨
 ((∀p,¬Fits t wq l p)/\Z1b w e w' 6)
def Q6D (t n:Nat):Nat:=min 4 ((n - t - 1)/2)
theorem Z4x {t:Nat} {l:List (Int×Int)} (h:Q0T t l=0):Z8D t (Q6D t l.length) l=0:=by
 obtain ⟨_,_,hl⟩:=Q1V.1 h
 unfold Z8D
 rw [if_neg (by rw [h];decide),if_neg (by unfold Q6D;omega),if_neg (by unfold Q6D;omega)]
theorem Y0n (t:Int) (va:Value) (l:List (Int×Int)) (w:World) (h1:Q0V w va l) (h:Q0T t l≠0):
  Calls Tryz.prog 111 #[.int .i64 t,va] w fun e w'=>Z1b w e w' (Q0T t l):=by
 have KA:=Qh h1
 have hb:(Q0T t l !=0)=true:=by rw [bne_iff_ne];exact h
 clear h h1
 go_enter Tryz.func111,Tryz.ntmps111
 go_wp2_with fail
 refine (Q5k t va l w KA.out).mono ?_
 rintro e w' ⟨rfl,hb'⟩
 have HB:=Qh hb'
 clear hb'
 try dsimp only
 go_wp2_with fail
 go_ret3
 exact ⟨rfl,HB.out⟩
theorem Z5O (t:Int) (va:Value) (l:List (Int×Int)) (w:World) (h1:Q0V w va l) (h:Q0T t l≠0):
  Calls Tryz.prog 39 #[.int .i64 t,va] w fun e w'=>Z1b w e w' (Q0T t l):=by
 have KA:=Qh h1
 have hb:(Q0T t l !=0)=true:=by rw [bne_iff_ne];exact h
 clear h h1
 go_enter Tryz.func39,Tryz.ntmps39
 go_wp2_with fail
 refine (Q5P t va l w KA.out).mono ?_
 rintro e w' ⟨rfl,nd,rfl⟩
 try dsimp only
 go_wp2_with fail
 go_ret3
 exact ⟨rfl,below_drewN (Below.refl _ _) _⟩
theorem Z1d {p:List F} {n:Nat} (h:p.length<=n) (x:F):Q0n (Q0f (Z1H (Q0g p) n)) x=Q0n p x:=by
 refine Q6i (fun i=> ?_) x
 rw [Z1a (by rw [Q0d];exact h),Z5J,Q0A]
 rcases Nat.lt_or_ge i p.length with h1|h1
 ·exact Q3O h1
 ·rw [Q0t h1]
  unfold co
  rw [List.getD_eq_getElem?_getD,List.getElem?_append_right h1]
  have e:Q0f (List.replicate (n - (Q0g p).length) 0)=List.replicate (n - (Q0g p).length) 0:=by simp [Q0f,Q1G]
  rw [e]
  rcases Nat.lt_or_ge (i - p.length) (n - (Q0g p).length) with h2|h2
  ·rw [List.getElem?_replicate,if_pos h2];rfl
  ·rw [List.getElem?_replicate,if_neg (by omega)];rfl
theorem Q8u (p:List F):Q0n p 0=co p 0:=by
 cases p with
 |nil=>rfl
 |cons a l=>rw [Q3I,Q1h]
theorem Y3o (t:Nat) (va:Value) (l:List (Int×Int)) (w:World) (h1:Q0V w va l) (h:Q0T t l=0):
  Calls Tryz.prog 111 #[.int .i64 t,va] w fun e w'=>Z1c w e w' t (Q6D t l.length) l:=by
 have KA:=Qh h1
 have HE:=Qh h
 have HD:=Qh (Z4x h)
 obtain ⟨⟨_,ht4⟩,hok,hl⟩:=Q1V.1 h
 have hl9:=hok.few
 obtain ⟨A1,c1,rfl,hc1,hm1,hl1,hu1,hr1⟩:=h1
 obtain ⟨wq,hwq⟩: ∃wq,wq=Q6D t l.length:=⟨_,rfl⟩
 rw [<-hwq] at HD⊢
 unfold Q6D at hwq
 have HW:=Qh hwq
 clear hu1 hr1 hm1 hok h hwq
 suffices hgoal: ∀Post:Ending->World->Prop,(∀e w',Z1c w e w' t wq l->Post e w')->Calls Tryz.prog 111 #[.int .i64 t,.slice A1 l.length c1] w Post from hgoal _ fun e w' h=>h
 intro Post hpo
 have HP:=Qh hpo
 clear hpo
 obtain ⟨q,hq⟩: ∃q:Nat,q=(l.length - t - 1)/2:=⟨_,rfl⟩
 have hqi:((l.length:Int) - (t:Int) - 1).tdiv 2=(q:Int):=by
  rw [Int.tdiv_eq_ediv_of_nonneg (by omega)];omega
 have hq4:wq=min 4 q:=by rw [HW.out,hq]
 have hqb:q<=9:=by omega
 have hmin:min (4:Int) (q:Int)=(wq:Int):=by omega
 clear hq hq4
 go_enter Tryz.func111,Tryz.ntmps111
 go_wp2_with fail
 refine (Q5k t _ l w KA.out).mono ?_
 rintro e W1 ⟨rfl,hb1⟩
 rw [HE.out]
 have B1:=Qh hb1
 have C2:=Qh (Z7R t wq _ l W1 (KA.out.below hb1) HD.out)
 clear hb1
 try dsimp only
 go_wp2_with fail
 refine C2.out.mono ?_
 rintro e W2 (⟨p,hn,hf,vp,vb,rfl,hop,hob,hb2⟩|⟨hno,rfl,hb2⟩)
 ·have KP:=Qh hop.is
  have KB:=Qh hob
  have B2:=Qh (Q0b B1.out hb2 B1.out.size)
  have NP:=Qh hn
  have FP:=Qh hf
  have hs1:=B1.out.size
  clear hn hf hop hob hb2
  try dsimp only
  go_wp2_with fail
  refine (Q8L _ _ 0 _ KP.out (by omega)).mono ?_
  rintro e W3 ⟨rfl,nd,rfl⟩
  rw [Q1G,Z1d FP.out.1]
  try dsimp only
  go_wp2_with fail
  go_ret3
  exact HP.out _ _ (.inl ⟨p,NP.out,FP.out,_,rfl,(KB.out.less hs1).drewN nd,below_drewN B2.out nd⟩)
 ·have B2:=Qh (Q0b B1.out hb2 B1.out.size)
  have NO:=Qh hno
  clear hb2 hno
  try dsimp only
  go_wp2_with fail
  go_ret3
  exact HP.out _ _ (.inr ⟨NO.out,rfl,B2.out⟩)
theorem Z7X (t:Nat) (va:Value) (l:List (Int×Int)) (w:World) (h1:Q0V w va l) (h:Q0T t l=0):
  Calls Tryz.prog 39 #[.int .i64 t,va] w fun e w'=>Z1c w e w' t (Q6D t l.length) l:=by
 have KA:=Qh h1
 have HE:=Qh h
 have HD:=Qh (Z4x h)
 obtain ⟨⟨_,ht4⟩,hok,hl⟩:=Q1V.1 h
 have hl9:=hok.few
 obtain ⟨A1,c1,rfl,hc1,hm1,hl1,hu1,hr1⟩:=h1
 obtain ⟨wq,hwq⟩: ∃wq,wq=Q6D t l.length:=⟨_,rfl⟩
 rw [<-hwq] at HD⊢
 unfold Q6D at hwq
 have hw4:wq<=4:=by omega
 have HW:=Qh hwq
 clear hu1 hr1 hm1 hok h hwq
 suffices hgoal: ∀Post:Ending->World->Prop,(∀e w',Z1c w e w' t wq l->Post e w')->Calls Tryz.prog 39 #[.int .i64 t,.slice A1 l.length c1] w Post from hgoal _ fun e w' h=>h
 intro Post hpo
 have HP:=Qh hpo
 clear hpo
 go_enter Tryz.func39,Tryz.ntmps39
 go_wp2_with fail
 refine (Q5P t _ l w KA.out).mono ?_
 rintro e W1' ⟨rfl,nd,rfl⟩
 rw [HE.out]
 obtain ⟨W1,hW1⟩: ∃W1,W1=w.drewN nd:=⟨_,rfl⟩
 have B1:=Qh (show Below w.heap.size w W1 by rw [hW1];exact below_drewN (Below.refl _ _) nd)
 have hs1:w.heap.size<=W1.heap.size:=B1.out.size
 rw [<-hW1]
 have C2:=Qh (Z7W t wq _ l W1 (KA.out.below B1.out) HD.out)
 clear hW1
 try dsimp only
 go_wp2_with fail
 go_loopw [8] (fun i wx=> ∃k:Nat,k<=wq/\i= .int .i64 k/\wx=W1) (fun i _=>wq - (intOf i).toNat)
 case atStart=>exact ⟨0,Nat.zero_le _,rfl,rfl⟩
 case round=>
  obtain ⟨k,hk,rfl,rfl⟩:=hrel
  have key:k<wq↔k<4/\(t:Int)+1+2 * ((k:Int)+1)<=(l.length:Int):=by rw [HW.out];omega
  by_cases hlk:k<wq
  ·obtain ⟨k1,k2⟩:=key.1 hlk
   have d1:decide ((k:Int)<4)=true:=decide_eq_true (by omega)
   have d2:decide ((t:Int)+1+2 * ((k:Int)+1)<=(l.length:Int))=true:=decide_eq_true k2
   clear key
   go_wp2_with fail
   exact ⟨⟨k+1,by omega,by go_num,trivial⟩,by simp [intOf]<;>omega⟩
  ·obtain rfl:k=wq:=by omega
   by_cases hk4:k<4
   ·have d1:decide ((k:Int)<4)=true:=decide_eq_true (by omega)
    have d2:decide ((t:Int)+1+2 * ((k:Int)+1)<=(l.length:Int))=false:=decide_eq_false (fun h=>hlk (key.2 ⟨hk4,h⟩))
    clear key hlk
    go_wp2_with fail
    refine C2.out.mono ?_
    rintro e W2 (⟨p,hn,hf,vp,vb,rfl,hop,hob,hb2⟩|⟨hno,rfl,hb2⟩)
    ·have KP:=Qh hop.is
     have KB:=Qh hob
     have B2:=Qh (Q0b B1.out hb2 B1.out.size)
     have NP:=Qh hn
     have FP:=Qh hf
     obtain ⟨A,c,rfl,_,_,_,hu,hr⟩:=hop.is
     obtain ⟨b1,o1,z,rfl,hb1,hg0,huz,hcz⟩:=Q0O hr hu (k:=0) (by rw [Q3c];omega)
     rw [Q3c]
     have hcz0:W2.cell? ⟨b1,o1,none⟩=some (.int .u64 z):=by simpa using hcz
     have HZ:=Qh (show ofF (toF z)=ofF (Q0n p 0) from by
      rw [<-Z1d FP.out.1 0]
      have hh:=Q6K hg0
      rw [Q8u,Q2q hh])
     clear hn hf hop hob hb2 hu hr hg0 hb1
     try dsimp only
     go_wp2_with fail
     refine (Q1i _ _ huz).mono ?_
     rintro e w' ⟨rfl,rfl⟩
     rw [HZ.out]
     try dsimp only
     go_wp2_with fail
     go_ret3
     exact HP.out _ _ (.inl ⟨p,NP.out,FP.out,_,rfl,KB.out.less hs1,B2.out⟩)
    ·have B2:=Qh (Q0b B1.out hb2 B1.out.size)
     have NO:=Qh hno
     clear hb2 hno
     try dsimp only
     go_wp2_with fail
     go_ret3
     exact HP.out _ _ (.inr ⟨NO.out,rfl,B2.out⟩)
   ·have d1:decide ((k:Int)<4)=false:=decide_eq_false (by omega)
    clear key hlk
    go_wp2_with fail
    refine C2.out.mono ?_
    rintro e W2 (⟨p,hn,hf,vp,vb,rfl,hop,hob,hb2⟩|⟨hno,rfl,hb2⟩)
    ·have KP:=Qh hop.is
     have KB:=Qh hob
     have B2:=Qh (Q0b B1.out hb2 B1.out.size)
     have NP:=Qh hn
     have FP:=Qh hf
     obtain ⟨A,c,rfl,_,_,_,hu,hr⟩:=hop.is
     obtain ⟨b1,o1,z,rfl,hb1,hg0,huz,hcz⟩:=Q0O hr hu (k:=0) (by rw [Q3c];omega)
     rw [Q3c]
     have hcz0:W2.cell? ⟨b1,o1,none⟩=some (.int .u64 z):=by simpa using hcz
     have HZ:=Qh (show ofF (toF z)=ofF (Q0n p 0) from by
      rw [<-Z1d FP.out.1 0]
      have hh:=Q6K hg0
      rw [Q8u,Q2q hh])
     clear hn hf hop hob hb2 hu hr hg0 hb1
     try dsimp only
     go_wp2_with fail
     refine (Q1i _ _ huz).mono ?_
     rintro e w' ⟨rfl,rfl⟩
     rw [HZ.out]
     try dsimp only
     go_wp2_with fail
     go_ret3
     exact HP.out _ _ (.inl ⟨p,NP.out,FP.out,_,rfl,KB.out.less hs1,B2.out⟩)
    ·have B2:=Qh (Q0b B1.out hb2 B1.out.size)
     have NO:=Qh hno
     clear hb2 hno
     try dsimp only
     go_wp2_with fail
     go_ret3
     exact HP.out _ _ (.inr ⟨NO.out,rfl,B2.out⟩)
end Go.Proofs.YtploomncapiloaaGreatDoor
