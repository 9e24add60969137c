/- Parts of the proof, put together by a program: Parties Join Lagr ShamP EngP. No condition. -/
import Derived.Test.YtploomncapiloaaGreatDoorSAE
import Derived.Test.YtploomncapiloaaGreatDoorSAI
import Derived.Laws.AppendOwnNone
set_option maxRecDepth 100000
set_option maxHeartbeats 8000000
namespace Go.Proofs.YtploomncapiloaaGreatDoor
open Go.RowKit Croft
theorem Z5j (a b:Nat) (ha:a<9223372036854775808) (hb:b<9223372036854775808):bits .and .i64 (a:Int) (b:Int)=((a &&& b:Nat):Int):=by
 have hx:a &&& b<2^63:=Nat.and_lt_two_pow _ (by omega)
 have h1:(BitVec.ofInt 64 (a:Int)).toNat=a:=by
  rw [BitVec.ofInt_natCast,BitVec.toNat_ofNat];exact Nat.mod_eq_of_lt (by omega)
 have h2:(BitVec.ofInt 64 (b:Int)).toNat=b:=by
  rw [BitVec.ofInt_natCast,BitVec.toNat_ofNat];exact Nat.mod_eq_of_lt (by omega)
 show IntKind.i64.wrap ((BitVec.ofInt 64 (a:Int) &&& BitVec.ofInt 64 (b:Int)).toNat:Int)=_
 rw [BitVec.toNat_and,h1,h2,IntKind.wrap_i64]
 omega
theorem Z7r (a b:Nat) (ha:a<9223372036854775808) (hb:b<9223372036854775808):bits .or .i64 (a:Int) (b:Int)=((a|||b:Nat):Int):=by
 have hx:a|||b<2^63:=Nat.or_lt_two_pow (by omega) (by omega)
 have h1:(BitVec.ofInt 64 (a:Int)).toNat=a:=by
  rw [BitVec.ofInt_natCast,BitVec.toNat_ofNat];exact Nat.mod_eq_of_lt (by omega)
 have h2:(BitVec.ofInt 64 (b:Int)).toNat=b:=by
  rw [BitVec.ofInt_natCast,BitVec.toNat_ofNat];exact Nat.mod_eq_of_lt (by omega)
 show IntKind.i64.wrap ((BitVec.ofInt 64 (a:Int)|||BitVec.ofInt 64 (b:Int)).toNat:Int)=_
 rw [BitVec.toNat_or,h1,h2,IntKind.wrap_i64]
 omega
def Y2p (M:Nat) (l:List Int):Prop:=M<1024/\ ∀b:Nat,b<=9->(M.testBit b=true↔(b:Int)∈l)
theorem Y2p.nil :Y2p 0 []:=⟨by omega,fun b _=>by simp⟩
theorem Y2p.add {M:Nat} {l:List Int} {a:Nat} (h:Y2p M l) (ha:a<=9):Y2p (M|||2^a) (l++ [(a:Int)]):=by
 refine ⟨Nat.or_lt_two_pow (n:=10) h.1 (Nat.pow_lt_pow_right (by omega) (by omega)),fun b hb=> ?_⟩
 rw [Nat.testBit_or,Nat.testBit_two_pow,Bool.or_eq_true,h.2 b hb,List.mem_append,List.mem_singleton]
 constructor
 ·rintro (h1|h1)
  ·exact .inl h1
  ·exact .inr (by have:=of_decide_eq_true h1;omega)
 ·rintro (h1|h1)
  ·exact .inl h1
  ·exact .inr (by simp;omega)
theorem Y2p.bit {M:Nat} {l:List Int} {a:Nat} (h:Y2p M l) (ha:a<=9):bits .and .i64 ((M:Int)/2^a) 1=if (a:Int)∈l then 1 else 0:=by
 have h1:=h.1
 have hs:M>>>a<=M:=by rw [Nat.shiftRight_eq_div_pow];exact Nat.div_le_self _ _
 rw [show ((M:Int)/2^a)=((M>>>a:Nat):Int) by rw [Nat.shiftRight_eq_div_pow];simp]
 have e:=Z5j (M>>>a) 1 (by omega) (by omega)
 rw [show ((1:Nat):Int)=1 from rfl] at e
 rw [e,Nat.and_one_is_mod]
 have ht:=h.2 a ha
 rw [Nat.testBit_eq_decide_div_mod_eq,decide_eq_true_eq,<-Nat.shiftRight_eq_div_pow] at ht
 split
 ·next hm=>have:=ht.2 hm;omega
 ·next hm=>
  have: ¬(M>>>a) % 2=1:=fun hh=>hm (ht.1 hh)
  omega
def Q3B (zs:List Int):Bool:=decide ((∀z∈zs,1<=z/\z<=9)/\zs.Nodup)
theorem Q6u (va:Value) (zs:List Int) (w:World) (h1:Q0y w va zs):
  Calls Tryz.prog 179 #[va] w fun e w'=>e= .returned (.bool (Q3B zs))/\w=w':=by
 obtain ⟨A1,c1,rfl,hc1,hm1,hl1,hu1,hr1⟩:=h1
 have HU:=Qh hu1
 have HR:=Qh hr1
 clear hu1 hr1 hm1
 go_enter Tryz.func179,Tryz.ntmps179
 go_wp2_with fail
 go_loop [3,8] (fun s i=> ∃k M:Nat,k<=zs.length/\i= .int .i64 k/\s= .int .i64 M/\Y2p M (zs.take k)/\(∀z∈zs.take k,1<=z/\z<=9)/\(zs.take k).Nodup) (fun _ i=>zs.length - (intOf i).toNat)
 case atStart=>exact ⟨0,0,Nat.zero_le _,rfl,rfl,Y2p.nil,by simp,by simp⟩
 case round=>
  obtain ⟨k,M,hk,rfl,rfl,hmk,hin,hnd⟩:=hrel
  have HM:=Qh hmk
  have HIN:=Qh hin
  have HND:=Qh hnd
  have hM:=hmk.1
  clear hmk hin hnd
  by_cases hlt:k<zs.length
  ·obtain ⟨b1,o1,z,rfl,hb1,hz,huz,hc⟩:=ints_at HR.out HU.out hlt
   have HZ:=Qh hz
   have HT:=Qh (show zs.take (k+1)=zs.take k++ [z] by rw [List.take_add_one,hz];rfl)
   clear hz hb1
   by_cases hr:1<=z/\z<=9
   ·obtain ⟨a,rfl⟩:=Int.eq_ofNat_of_zero_le (show 0<=z by omega)
    have hr2:(a:Int)<=9:=hr.2
    have hd1:decide ((a:Int)<1)=false:=by simp;omega
    have hd2:decide ((a:Int)>9)=false:=by simp;omega
    have e2:=HM.out.bit (show a<=9 by omega)
    by_cases hm:(a:Int)∈zs.take k
    ·have hbb:(bits .and .i64 ((M:Int)/2^a) 1==1)=true:=by rw [e2,if_pos hm];rfl
     have HMM:=Qh hm
     clear e2 hm
     go_wp2_with fail
     go_ret
     refine ⟨?_,rfl⟩
     have:Q3B zs=false:=decide_eq_false fun hh=>by
      have h2:=hh.2.sublist (List.take_sublist (k+1) zs)
      rw [HT.out,List.nodup_append] at h2
      exact h2.2.2 _ HMM.out _ (by simp) rfl
     rw [this];rfl
    ·have hbb:(bits .and .i64 ((M:Int)/2^a) 1==1)=false:=by rw [e2,if_neg hm];rfl
     have HMM:=Qh hm
     clear e2 hm
     go_wp2_with fail
     refine ⟨⟨k+1,M|||2^a,by omega,by go_num, ?_, ?_, ?_, ?_⟩,by simp [intOf]<;>omega⟩
     ·have hp:(2:Nat)^a<=512:=Nat.pow_le_pow_right (by omega) (show a<=9 by omega)
      have h2:wrap64 ((2:Int)^a)=((2^a:Nat):Int):=by
       have:((2:Int)^a)=((2^a:Nat):Int):=by simp
       rw [this]
       unfold wrap64
       generalize (2:Nat)^a=q at *
       omega
      rw [h2,Z7r _ _ (by omega) (by omega)]
     ·rw [HT.out];exact HM.out.add (by omega)
     ·rw [HT.out]
      intro x hx
      rcases List.mem_append.1 hx with h3|h3
      ·exact HIN.out x h3
      ·simp at h3;subst h3;exact hr
     ·rw [HT.out,List.nodup_append]
      refine ⟨HND.out,by simp,fun x hx y hy he=> ?_⟩
      simp at hy
      subst hy he
      exact HMM.out hx
   ·have HF:=Qh (show Q3B zs=false from decide_eq_false fun hh=>hr (hh.1 z (List.mem_of_getElem? HZ.out)))
    by_cases h1:z<1
    ·clear hr
     go_wp2_with fail
     go_ret
     exact ⟨by rw [HF.out];rfl,rfl⟩
    ·have h2:z>9:=by omega
     have hd1:decide (z<1)=false:=by simp;omega
     clear hr
     go_wp2_with fail
     go_ret
     exact ⟨by rw [HF.out];rfl,rfl⟩
  ·obtain rfl:k=zs.length:=by omega
   go_wp2_with fail
   go_ret
   have h1:=HIN.out
   have h2:=HND.out
   rw [List.take_length] at h1 h2
   rw [show Q3B zs=true from decide_eq_true ⟨h1,h2⟩]
   exact ⟨rfl,rfl⟩
theorem Z0y {P:Program} {w:World} (base:Nat) (t ty e:TypeId) (i:TypeInfo) (size c:Nat) (ht:P.underlying t=some (.slice e)) (hi:P.info? e=some i)
  (v:Value) (n:Nat) (xs:List Value) (hown:w.ownsRow base e size v n xs):
  (Builtin.append_ #[t,t] ty #[v,.slice none 0 c]).run P w= .ok v w:=by
 rcases hown.2 with ⟨rfl,rfl⟩|⟨g,cap,cur,rfl,_,_,hnc,_⟩
 ·simp [Builtin.append_,run_underlying ht,sizeOf,typeInfo,hi,Builtin.lenOf,Builtin.firstCells]
 ·simp [Builtin.append_,run_underlying ht,sizeOf,typeInfo,hi,Builtin.lenOf,Builtin.firstCells,hnc,storeCells]
theorem Q4S {P:Program} {w:World} {ops:Array Oper} {rest:List Oper} {o:Oper} {a:Act} {Q:Exit->Act->World->Prop} (hgd:o.guard=none) (s x:Operand) (t:TypeId)
  (ho:o.op= .call {callee:= .builtin .append,args:= #[s,x],argTypes:= #[t,t]})
  (base:Nat) (e:TypeId) (i:TypeInfo) (size c:Nat) (ht:P.underlying t=some (.slice e)) (hi:P.info? e=some i)
  (v:Value) (n:Nat) (xs:List Value) (hs:a.eval s=v) (hown:w.ownsRow base e size v n xs) (hx:a.eval x= .slice none 0 c)
  (h:wpList P ops Q rest (a.put o.dst v) w):wpList P ops Q (o::rest) a w:=by
 refine wpList_plain hgd fun K hK=> ?_
 have hrun:=Z0y (P:=P) (w:=w) base t o.type e i size c ht hi v n xs hown
 unfold Oper.wp
 simp [execOp,ho,resolve,invoke,builtin,hs,hx,hrun,Result.andThen]
 exact hK _ _ h
theorem Q3H {ops:Array Oper} {rest:List Oper} {o:Oper} {a:Act} {Q:Exit->Act->World->Prop} {w:World} (hgd:o.guard=none) (s x:Operand)
  (ho:o.op= .call {callee:= .builtin .append,args:= #[s,x],argTypes:= #[64,64]})
  (base:Nat) (v y:Value) (zs ds:List Int) (hs:a.eval s=v) (hown:Q0c w base v zs) (hx:a.eval x=y) (hy:Q0h w y ds)
  (hl:zs.length+ds.length<=17592186043904) (hb:base<=w.heap.size)
  (h: ∀v' w',Q0c w' base v' (zs++ds)->Below base w w'->wpList Tryz.prog ops Q rest (a.put o.dst v') w'):wpList Tryz.prog ops Q (o::rest) a w:=by
 obtain ⟨i0,hi,hz0,hz1,hz2⟩:=info_parts Z2z
 obtain ⟨A,cap,rfl,k1,k2,k3,k4,k5⟩:=hy
 cases A with
 |none=>
  have h0:ds= []:=by
   rcases k5 with k5|⟨b,o,k5,_⟩
   ·cases ds with
    |nil=>rfl
    |cons d ds=>simp [Q2o] at k5
   ·cases k5
  subst h0
  refine Q4S hgd s x 64 ho base 67 i0 1 cap Tryz.underlying64 hi v zs.length (Q2o zs) hs hown.1 hx ?_
  exact h v w (by rw [List.append_nil];exact hown) (Below.refl _ _)
 |some ad=>
  refine wpList_append_own w hgd s x 64 ho base 67 i0 (.int .u64 0) 1 8 Tryz.underlying64 hi hz0 hz1 hz2 rfl (by decide) v zs.length (Q2o zs) hs hown.1 ad ds.length cap (Q2o ds) hx (by rw [Q0Y];omega) ?_ (Z2y ds) ?_ ?_ hb ?_
  ·intro j u hu
   rcases k5 with k5|⟨b,o,k5,_,hc⟩
   ·rw [k5] at hu;simp at hu
   ·obtain rfl:=Option.some.inj k5
    rw [Q0N,hc j (List.getElem?_eq_some_iff.1 hu).1,hu]
  ·unfold maxLen;omega
  ·omega
  ·intro v' w' h1 h2 _
   refine h v' w' ⟨?_,by simpa using hl,fun z hz=> ?_⟩ ((Below.refl _ _).grown h2 hb (fun k hk=>(hown.1.lt k hk).1))
   ·have e2:Q2o (zs++ds)=Q2o zs++Q2o ds:=by simp [Q2o]
    rw [List.length_append,e2];exact h1
   ·rcases List.mem_append.1 hz with h3|h3
    ·exact hown.2.2 z h3
    ·exact k4 z h3
end Go.Proofs.YtploomncapiloaaGreatDoor
namespace Croft
theorem F_ss (x:F):x - x=0:=by grind
structure Q8V (ps:List (F×F)) (i k:Nat) (one:List F):Prop where
 len:one.length<=if k<=i then k+1 else k
 self: ∀s,ps[i]? =some s->Q0n one s.1=s.2
 zero: ∀p s,p<k->p≠i->ps[p]? =some s->Q0n one s.1=0
theorem Q8V.start {ps:List (F×F)} {i:Nat} {y x:F} (h:ps[i]? =some (x,y)):Q8V ps i 0 [y]:=
 ⟨by simp,fun s hs=>by obtain rfl:=Option.some.inj (h.symm.trans hs);simp only [Q0n,Q4I,Q6b],fun p s hp=>by omega⟩
theorem Q8V.skip {ps:List (F×F)} {i:Nat} {one:List F} (h:Q8V ps i i one):Q8V ps i (i+1) one:=by
 obtain ⟨h1,h2,h3⟩:=h
 rw [if_pos (Nat.le_refl _)] at h1
 refine ⟨by rw [if_neg (by omega)];exact h1,h2,fun p s hp hne hs=>h3 p s (by omega) hne hs⟩
theorem Y5C {ps:List (F×F)} (hn:(ps.map (·.1)).Nodup) {i k:Nat} {s t:F×F} (hs:ps[i]? =some s) (ht:ps[k]? =some t) (hne:i≠k):s.1≠t.1:=by
 intro he
 have hi:(ps.map (·.1))[i]? =some s.1:=by rw [List.getElem?_map,hs];rfl
 have hk:(ps.map (·.1))[k]? =some t.1:=by rw [List.getElem?_map,ht];rfl
 exact hne ((List.getElem?_inj (by have:=(List.getElem?_eq_some_iff.1 hi).1;exact this) hn).1 (by rw [hi,hk,he]))
theorem Q8V.step {ps:List (F×F)} (hn:(ps.map (·.1)).Nodup) {i k:Nat} {one:List F} {xi yi xk yk:F} (h:Q8V ps i k one) (hi:ps[i]? =some (xi,yi)) (hk:ps[k]? =some (xk,yk)) (hne:k≠i):Q8V ps i (k+1) (Z7d xi one xk):=by
 obtain ⟨h1,h2,h3⟩:=h
 have hd:xi - xk≠0:=fun e=>Y5C hn hi hk (Ne.symm hne) (by show xi=xk;grind)
 refine ⟨?_,fun s hs=> ?_,fun p s hp hpi hs=> ?_⟩
 ·by_cases hki:k<=i
  ·rw [if_pos hki] at h1
   rw [if_pos (by omega)]
   have:=Q6l xi xk one (k+1) h1 (by omega)
   omega
  ·rw [if_neg hki] at h1
   rw [if_neg (by omega)]
   exact Q6l xi xk one k h1 (by omega)
 ·rw [Q8N,h2 s hs]
  obtain rfl:=Option.some.inj (hi.symm.trans hs)
  show yi * ((xi - xk) * inv (xi - xk))=yi
  rw [Q4V hd,Z4O]
 ·rw [Q8N]
  by_cases hpk:p=k
  ·subst hpk
   obtain rfl:=Option.some.inj (hk.symm.trans hs)
   show _ * ((xk - xk) * _)=0
   rw [F_ss,Q7y,Q4I]
  ·rw [h3 p s (by omega) hpi hs,Q7y]
structure Z0z (ps:List (F×F)) (i:Nat) (o:List F):Prop where
 norm:Q0w o=o
 len:o.length<=ps.length
 at_: ∀p s,ps[p]? =some s->Q0n o s.1=if p<i then s.2 else 0
theorem Z0z.start (ps:List (F×F)):Z0z ps 0 []:=⟨rfl,by simp,fun p s _=>by rw [if_neg (by omega)];rfl⟩
theorem Z0z.step {ps:List (F×F)} {i:Nat} {o one:List F} (h:Z0z ps i o) (hi:i<ps.length) (h1:Q8V ps i ps.length one):Z0z ps (i+1) (Q0w (Q7h o one)):=by
 obtain ⟨a1,a2,a3⟩:=h
 obtain ⟨b1,b2,b3⟩:=h1
 rw [if_neg (by omega)] at b1
 refine ⟨Q1K _,Z0f _ _ (fun k hk=>by rw [Q6h,Q0t (by omega),Q0t (by omega),Q6b]),fun p s hs=> ?_⟩
 rw [Q3b,Q3j,a3 p s hs]
 by_cases hpi:p=i
 ·subst hpi
  rw [b2 s hs,if_neg (by omega),if_pos (by omega)];grind
 ·rw [b3 p s (by have:=(List.getElem?_eq_some_iff.1 hs).1;omega) hpi hs,Q6b]
  by_cases h:p<i
  ·rw [if_pos h,if_pos (by omega)]
  ·rw [if_neg h,if_neg (by omega)]
theorem Z0z.done {ps:List (F×F)} {o:List F} (h:Z0z ps ps.length o):Interp ps o:=
 ⟨h.norm,h.len,fun p hp=>by
  obtain ⟨k,hk,hkp⟩:=List.getElem_of_mem hp
  rw [h.at_ k p (by rw [List.getElem?_eq_getElem hk,hkp]),if_pos hk]⟩
end Croft
namespace Croft
def Q3x :List F->F
 | []=>1
 |a::l=>a * Q3x l
theorem Y4E (a b:F):inv (a * b)=inv a * inv b:=by
 by_cases ha:a=0
 ·subst ha;rw [Q7y,Q7X,Q7y]
 by_cases hb:b=0
 ·subst hb;rw [Q4I,Q7X,Q4I]
 symm
 apply Q6I
 have h1:=Q4V ha
 have h2:=Q4V hb
 generalize inv a=x at *
 generalize inv b=y at *
 grind
theorem Y4F :inv (1:F)=1:=(Q6I (by grind)).symm
theorem Y4G (a:F):inv (-a)= - inv a:=by
 by_cases ha:a=0
 ·subst ha
  have:(-0:F)=0:=by grind
  rw [this,Q7X];grind
 ·symm
  apply Q6I
  have h1:=Q4V ha
  generalize inv a=x at *
  grind
theorem Z3M (a b:List F):Q3x (a++b)=Q3x a * Q3x b:=by
 induction a with
 |nil=>simp [Q3x,Y3P]
 |cons x a ih=>simp only [List.cons_append,Q3x,ih];grind
theorem Z2k (a:List F) (x:F):Q3x (a++ [x])=Q3x a * x:=by rw [Z3M];simp [Q3x,Z4O]
theorem Z7s {l:List F}:Q3x l=0↔0∈l:=by
 induction l with
 |nil=>exact ⟨fun h=>absurd h Z6h,fun h=>by simp at h⟩
 |cons a l ih=>
  rw [Q3x,List.mem_cons]
  constructor
  ·intro h
   rcases Q4k h with h|h
   ·exact .inl h.symm
   ·exact .inr (ih.1 h)
  ·rintro (h|h)
   ·rw [<-h,Q7y]
   ·rw [ih.2 h,Q4I]
theorem Z5k (a:F) (bs:List F): ∃q:List F,q.length<=bs.length+1/\ ∀z,Q0n q z=Q3x (bs.map fun b=>(z - b) * inv (a - b)):=by
 induction bs with
 |nil=>exact ⟨[1],by simp,fun z=>by simp only [Q0n,List.map_nil,Q3x,Q4I,Q6b]⟩
 |cons b bs ih=>
  obtain ⟨q,hl,he⟩:=ih
  refine ⟨Z7d a q b,by have:=Q6l a b q _ hl (by omega);simpa using this,fun z=> ?_⟩
  rw [Q8N,he z,List.map_cons,Q3x]
  grind
def others (xs:List F) (a:F):List F:=xs.filter fun b=>b !=a
def wtF (xs:List F) (a:F):F:=Q3x (others xs a) * inv (Q3x ((others xs a).map fun b=>b - a))
theorem Y2q (a:F) (bs:List F):Q3x (bs.map fun b=>(0 - b) * inv (a - b))=Q3x bs * inv (Q3x (bs.map fun b=>b - a)):=by
 induction bs with
 |nil=>simp only [List.map_nil,Q3x,Y4F,Z4O]
 |cons b bs ih=>
  simp only [List.map_cons,Q3x,ih,Y4E]
  have h:inv (a - b)= - inv (b - a):=by rw [<-Y4G];congr 1;grind
  rw [h]
  grind
theorem Z2l {xs:List F} {a b:F}:b∈others xs a↔b∈xs/\b≠a:=by simp [others]
theorem Z2I {xs:List F} {a:F} (ha:a∈xs):(others xs a).length+1<=xs.length:=by
 have h1:(others xs a).length<xs.length:=by
  unfold others
  rw [List.length_filter_lt_length_iff_exists]
  exact ⟨a,ha,by simp⟩
 omega
theorem Y2r {a:F} {bs:List F} (h:a∉bs):Q3x (bs.map fun b=>(a - b) * inv (a - b))=1:=by
 induction bs with
 |nil=>rfl
 |cons b bs ih=>
  simp only [List.map_cons,Q3x]
  have hne:a - b≠0:=fun e=>h (List.mem_cons.2 (.inl (by grind)))
  rw [ih (fun hm=>h (List.mem_cons_of_mem _ hm)),Q4V hne,Y3P]
theorem Z9k {a z:F} {bs:List F} (h:z∈bs):Q3x (bs.map fun b=>(z - b) * inv (a - b))=0:=by
 rw [Z7s,List.mem_map]
 exact ⟨z,h,by rw [F_ss,Q7y]⟩
theorem Y4H (xs:List F) (_hn:xs.Nodup) (y:F->F): ∀k,k<=xs.length-> ∃q:List F,q.length<=xs.length/\ ∀z,Q0n q z=Q1r k (fun i=>y (co xs i) * Q3x ((others xs (co xs i)).map fun b=>(z - b) * inv (co xs i - b))):=by
 intro k
 induction k with
 |zero=>intro _;exact ⟨[],by simp,fun z=>rfl⟩
 |succ k ih=>
  intro hk
  obtain ⟨q,hl,he⟩:=ih (by omega)
  have hm:co xs k∈xs:=List.mem_of_getElem? (Q2r (by omega))
  obtain ⟨p,hpl,hpe⟩:=Z5k (co xs k) (others xs (co xs k))
  refine ⟨Q7h q (Q3a (y (co xs k)) p), ?_,fun z=> ?_⟩
  ·rw [Q3D,Q2f]
   have:=Z2I hm
   omega
  ·rw [Q3j,Q1T,he z,hpe z,Q1r]
theorem Y5D (xs:List F) (hn:xs.Nodup) (y:F->F) {j:Nat} (hj:j<xs.length):Q1r xs.length (fun i=>y (co xs i) * Q3x ((others xs (co xs i)).map fun b=>(co xs j - b) * inv (co xs i - b)))=y (co xs j):=by
 rw [Q4M j hj]
 ·rw [Y2r (fun h=>(Z2l.1 h).2 rfl),Z4O]
 ·intro i hi hij
  have hne:co xs j≠co xs i:=fun e=>hij ((List.getElem?_inj hi hn).1 (by rw [Q2r hi,Q2r hj,e]))
  rw [Z9k (Z2l.2 ⟨List.mem_of_getElem? (Q2r hj),hne⟩),Q4I]
theorem Z3N (xs:List F) (hn:xs.Nodup) (p:List F) (hp:p.length<=xs.length):Q1r xs.length (fun i=>wtF xs (co xs i) * Q0n p (co xs i))=Q0n p 0:=by
 obtain ⟨q,hl,he⟩:=Y4H xs hn (fun x=>Q0n p x) xs.length (Nat.le_refl _)
 have hc:=agree p q xs hn hp hl (fun x hx=>by
  obtain ⟨j,hj,rfl⟩:=List.getElem_of_mem hx
  have h1:=Y5D xs hn (fun x=>Q0n p x) hj
  have h2:co xs j=xs[j]:=Q2q (List.getElem?_eq_getElem hj)
  rw [h2] at h1
  rw [he,h1])
 rw [Q6i hc 0,he 0]
 apply Q0z
 intro i _
 rw [Y2q]
 show wtF xs (co xs i) * _=_ * wtF xs (co xs i)
 generalize wtF xs (co xs i)=u
 grind
end Croft
namespace Croft
def pt (i:Nat):F:=toF ((i:Int)+1)
def Z9l (n:Nat):List F:=(List.range n).map pt
theorem Z0A (n:Nat):(Z9l n).length=n:=by simp [Z9l]
theorem Y4I {n i:Nat} (h:i<n):co (Z9l n) i=pt i:=Q2q (by simp [Z9l,h])
theorem Y5E {i j:Nat} (hi:i<1000) (hj:j<1000) (h:pt i=pt j):i=j:=by
 unfold pt at h
 rw [Q8I,Z2w] at h
 omega
theorem Z7t {n:Nat} (h:n<=1000):(Z9l n).Nodup:=by
 unfold Z9l
 rw [List.nodup_iff_pairwise_ne,List.pairwise_map]
 have:=List.nodup_range (n:=n)
 rw [List.nodup_iff_pairwise_ne] at this
 refine List.Pairwise.imp_of_mem (fun ha hb hne he=> ?_) this
 rw [List.mem_range] at ha hb
 exact hne (Y5E (by omega) (by omega) he)
def Q4D (n:Nat) (p:List F):List F:=(List.range n).map fun i=>Q0n p (pt i)
theorem Q0K (n:Nat) (p:List F):(Q4D n p).length=n:=by simp [Q4D]
theorem Q5d {n i:Nat} (p:List F) (h:i<n):co (Q4D n p) i=Q0n p (pt i):=Q2q (by simp [Q4D,h])
def chunk (t:Nat) (ds:List F) (i:Nat):List F:=(ds.drop (i * t)).take t
theorem Z3O (t:Nat) (ds:List F) (i:Nat):(chunk t ds i).length<=t:=by simp [chunk];omega
def Q9k (n t:Nat) (a b ds:List F):List (List F):=(List.range n).map fun j=>(List.range n).map fun i=>Q0n ((co a i * co b i)::chunk t ds i) (pt j)
def wts (n:Nat):List F:=(List.range n).map fun i=>wtF (Z9l n) (pt i)
theorem Y5F {n i:Nat} (h:i<n):co (wts n) i=wtF (Z9l n) (pt i):=Q2q (by simp [wts,h])
def Q4F (n:Nat) (row:List F):F:=Q1r n fun i=>co (wts n) i * co row i
def Q2d (n t:Nat) (a b ds:List F):List F:=(Q9k n t a b ds).map (Q4F n)
theorem Z7u {n:Nat} (hn:n<=1000) (p:List F) (h:p.length<=n):Q4F n (Q4D n p)=Q0n p 0:=by
 have h1:=Z3N (Z9l n) (Z7t hn) p (by rw [Z0A];exact h)
 rw [Z0A] at h1
 rw [<-h1]
 exact Q0z fun i hi=>by rw [Y5F hi,Q5d p hi,Y4I hi]
def Shared (n t:Nat) (l:List F) (x:F):Prop:= ∃p:List F,p.length<=t+1/\l=Q4D n p/\Q0n p 0=x
theorem Q3I (a:F) (l:List F):Q0n (a::l) 0=a:=by simp only [Q0n,Q7y,Q6b]
theorem Q5K {n:Nat} {l p:List F} (hl:l.length=n) (h: ∀i,i<n->co l i=Q0n p (pt i)):l=Q4D n p:=by
 apply Q3E (by rw [hl,Q0K])
 intro i
 rcases Nat.lt_or_ge i n with hi|hi
 ·rw [h i hi,Q5d p hi]
 ·rw [Q0t (by omega),Q0t (by rw [Q0K];exact hi)]
theorem Shared.dealt {n t:Nat} (x:F) {ds:List F} (h:ds.length<=t):Shared n t (Q4D n (x::ds)) x:=⟨x::ds,by simp;exact h,rfl,Q3I _ _⟩
theorem Shared.const (n t:Nat) (x:F):Shared n t (List.replicate n x) x:=by
 refine ⟨[x],by simp, ?_,Q3I _ _⟩
 apply Q5K (by simp)
 intro i hi
 rw [Q2q (a:=x) (by simp [hi])]
 simp only [Q0n,Q4I,Q6b]
theorem Shared.map2 {n t:Nat} {a b:List F} {x y:F} (ha:Shared n t a x) (hb:Shared n t b y) (c d:F):Shared n t (List.zipWith (fun u v=>c * u+d * v) a b) (c * x+d * y):=by
 obtain ⟨p,hp,rfl,rfl⟩:=ha
 obtain ⟨q,hq,rfl,rfl⟩:=hb
 refine ⟨Q7h (Q3a c p) (Q3a d q),by rw [Q3D,Q2f,Q2f];omega, ?_,by rw [Q3j,Q1T,Q1T]⟩
 apply Q5K (by simp [Q0K])
 intro i hi
 rw [Q3j,Q1T,Q1T,<-Q5d p hi,<-Q5d q hi]
 exact Q2q (by rw [List.getElem?_zipWith,Q2r (by rw [Q0K];exact hi),Q2r (by rw [Q0K];exact hi)])
theorem Y2s (n t:Nat) (w:Nat->F) (P:Nat->List F) (hP: ∀i,(P i).length<=t+1): ∃r:List F,r.length<=t+1/\ ∀z,Q0n r z=Q1r n fun i=>w i * Q0n (P i) z:=by
 induction n with
 |zero=>exact ⟨[],by simp,fun z=>rfl⟩
 |succ n ih=>
  obtain ⟨r,hl,he⟩:=ih
  refine ⟨Q7h r (Q3a (w n) (P n)),by rw [Q3D,Q2f];have:=hP n;omega,fun z=> ?_⟩
  rw [Q3j,Q1T,he z,Q1r]
theorem Shared.mul {n t:Nat} {a b:List F} {x y:F} (ha:Shared n t a x) (hb:Shared n t b y) (ht:2 * t+1<=n) (hn:n<=1000) (ds:List F):Shared n t (Q2d n t a b ds) (x * y):=by
 obtain ⟨p,hp,rfl,rfl⟩:=ha
 obtain ⟨q,hq,rfl,rfl⟩:=hb
 obtain ⟨r,hr,he⟩:=Y2s n t (fun i=>co (wts n) i) (fun i=>(co (Q4D n p) i * co (Q4D n q) i)::chunk t ds i) (fun i=>by have:=Z3O t ds i;simp;exact this)
 refine ⟨r,hr, ?_, ?_⟩
 ·apply Q5K (by simp [Q2d,Q9k])
  intro j hj
  rw [he]
  refine Q2q (a:=Q1r n fun i=>co (wts n) i * Q0n ((co (Q4D n p) i * co (Q4D n q) i)::chunk t ds i) (pt j)) ?_
  simp only [Q2d,Q9k,List.map_map,List.getElem?_map,List.getElem?_range hj,Option.map_some,Function.comp]
  congr 1
  exact Q0z fun i hi=>by congr 1;exact Q2q (by simp [hi])
 ·rw [he]
  have h1:=Z7u hn (Q1j p q) (by
   rw [Q2c]
   split
   ·omega
   ·omega)
  rw [<-Q4m,<-h1]
  exact Q0z fun i hi=>by rw [Q3I,Q5d _ hi,Q5d _ hi,Q5d _ hi,Q4m]
end Croft
namespace Croft
def Z0B (n t:Nat) (g:Gt):Nat:=if g.kind=1 then t else if g.kind=5 then n * t else 0
def dat (n t:Nat) (gs:List Gt):Nat->Nat
 |0=>0
 |k+1=>dat n t gs k+(match gs[k]? with|some g=>Z0B n t g|none=>0)
theorem Z2J {n t k:Nat} {gs:List Gt} {g:Gt} (h:gs[k]? =some g):dat n t gs (k+1)=dat n t gs k+Z0B n t g:=by simp only [dat,h]
theorem Y5G {n t:Nat} {gs:List Gt} {k m:Nat} (h:k<=m):dat n t gs k<=dat n t gs m:=by
 induction h with
 |refl=>exact Nat.le_refl _
 |step _ ih=>rw [dat];omega
theorem Y2t {n t k:Nat} {gs:List Gt} {g:Gt} (h:gs[k]? =some g):dat n t gs k+Z0B n t g<=dat n t gs gs.length:=by
 rw [<-Z2J h]
 exact Y5G (List.getElem?_eq_some_iff.1 h).1
theorem Y2u {n t:Nat} {g:Gt} (hn:n<=9) (ht:t<=4):Z0B n t g<=36:=by
 have:=Nat.mul_le_mul hn ht
 unfold Z0B
 split
 ·omega
 ·split<;>omega
theorem Z3P {n t:Nat} {gs:List Gt} (hn:n<=9) (ht:t<=4): ∀k,dat n t gs k<=36 * k:=by
 intro k
 induction k with
 |zero=>simp [dat]
 |succ k ih=>
  rw [dat]
  cases h:gs[k]? with
  |none=>simp only;omega
  |some g=>have:=Y2u (g:=g) hn ht;simp only;omega
def wr (ws:List (List F)) (i:Nat):List F:=ws.getD i []
theorem Y6h {ws:List (List F)} {l:List F} {i:Nat} (h:i<ws.length):wr (ws++ [l]) i=wr ws i:=by
 unfold wr
 simp [List.getD,List.getElem?_append_left h]
theorem Y6i {ws:List (List F)} {l:List F} {i:Nat} (h:i=ws.length):wr (ws++ [l]) i=l:=by
 subst h
 simp [wr,List.getD]
theorem Q8m {ws:List (List F)} {i:Nat} (h:i<ws.length):ws[i]? =some (wr ws i):=by simp [wr,List.getD,List.getElem?_eq_getElem h]
def Z2K (n t:Nat) (ws:List (List F)) (x:F) (ds:List F) (g:Gt):List F:=
 if g.kind=1 then Q4D n (x::ds.take t)
 else if g.kind=2 then List.replicate n (toF g.n)
 else if g.kind=3 then List.zipWith (· + ·) (wr ws g.a.toNat) (wr ws g.b.toNat)
 else if g.kind=4 then List.zipWith (· - ·) (wr ws g.a.toNat) (wr ws g.b.toNat)
 else if g.kind=5 then Q2d n t (wr ws g.a.toNat) (wr ws g.b.toNat) (ds.take (n * t))
 else (wr ws g.a.toNat).map (· * toF g.n)
def Z3Q (n t:Nat) (ws:List (List F)) (x:F) (ds:List F) (g:Gt) (j:Nat):List F:=
 if g.kind=1 then [co (Q4D n (x::ds.take t)) j]
 else if g.kind=5 then (Q9k n t (wr ws g.a.toNat) (wr ws g.b.toNat) (ds.take (n * t))).getD j []
 else []
def ew (n t:Nat) (gs:List Gt) (I D:List F):Nat->List (List F)
 |0=> []
 |k+1=>ew n t gs I D k++ [match gs[k]? with|some g=>Z2K n t (ew n t gs I D k) (co I (cin gs k)) (D.drop (dat n t gs k)) g|none=> []]
theorem Q3S (n t:Nat) (gs:List Gt) (I D:List F) (k:Nat):(ew n t gs I D k).length=k:=by
 induction k with
 |zero=>rfl
 |succ k ih=>simp [ew,ih]
theorem Z9m {n t k:Nat} {gs:List Gt} {I D:List F} {g:Gt} (h:gs[k]? =some g):ew n t gs I D (k+1)=ew n t gs I D k++ [Z2K n t (ew n t gs I D k) (co I (cin gs k)) (D.drop (dat n t gs k)) g]:=by simp only [ew,h]
def es (n t:Nat) (gs:List Gt) (I D:List F):Nat->Nat->List F
 |0,_=> []
 |k+1,j=>es n t gs I D k j++(match gs[k]? with|some g=>Z3Q n t (ew n t gs I D k) (co I (cin gs k)) (D.drop (dat n t gs k)) g j|none=> [])
theorem Y4J {n t k:Nat} {gs:List Gt} {I D:List F} {g:Gt} (h:gs[k]? =some g) (j:Nat):es n t gs I D (k+1) j=es n t gs I D k j++Z3Q n t (ew n t gs I D k) (co I (cin gs k)) (D.drop (dat n t gs k)) g j:=by simp only [es,h]
def eo (n t:Nat) (gs:List Gt) (os:List Int) (I D:List F):Nat->Nat->List F
 |0,j=>es n t gs I D gs.length j
 |q+1,j=>eo n t gs os I D q j++(match os[q]? with|some o=>wr (ew n t gs I D gs.length) o.toNat|none=> [])
theorem Z9n {n t q:Nat} {gs:List Gt} {os:List Int} {I D:List F} {o:Int} (h:os[q]? =some o) (j:Nat):eo n t gs os I D (q+1) j=eo n t gs os I D q j++wr (ew n t gs I D gs.length) o.toNat:=by simp only [eo,h]
def Y5X (n:Nat) (g:Gt):Nat:=if g.kind=1 then 1 else if g.kind=5 then n else 0
def Y4K (n:Nat) (gs:List Gt):Nat->Nat
 |0=>0
 |k+1=>Y4K n gs k+(match gs[k]? with|some g=>Y5X n g|none=>0)
theorem Z3R {n t:Nat} {ws:List (List F)} {x:F} {ds:List F} {g:Gt} {j:Nat} (hj:j<n):(Z3Q n t ws x ds g j).length=Y5X n g:=by
 unfold Z3Q Y5X
 split
 ·rfl
 ·split
  ·simp [Q9k,List.getD,hj]
  ·rfl
theorem Z3S {n t:Nat} {gs:List Gt} {I D:List F} {j:Nat} (hj:j<n): ∀k,(es n t gs I D k j).length=Y4K n gs k:=by
 intro k
 induction k with
 |zero=>rfl
 |succ k ih=>
  rw [es,Y4K,List.length_append,ih]
  cases gs[k]? with
  |none=>rfl
  |some g=>simp only [Z3R hj]
theorem Z9o {n:Nat} {gs:List Gt} (hn:n<=9): ∀k,Y4K n gs k<=9 * k:=by
 intro k
 induction k with
 |zero=>simp [Y4K]
 |succ k ih=>
  rw [Y4K]
  cases gs[k]? with
  |none=>simp only;omega
  |some g=>
   simp only
   unfold Y5X
   split
   ·omega
   ·split<;>omega
theorem Shared.len {n t:Nat} {l:List F} {x:F} (h:Shared n t l x):l.length=n:=by
 obtain ⟨p,_,rfl,_⟩:=h
 exact Q0K n p
theorem Shared.add {n t:Nat} {a b:List F} {x y:F} (ha:Shared n t a x) (hb:Shared n t b y):Shared n t (List.zipWith (· + ·) a b) (x+y):=by
 have h:=ha.map2 hb 1 1
 simp only [Y3P] at h
 exact h
theorem Shared.sub {n t:Nat} {a b:List F} {x y:F} (ha:Shared n t a x) (hb:Shared n t b y):Shared n t (List.zipWith (· - ·) a b) (x - y):=by
 have h:=ha.map2 hb 1 (-1)
 have e: ∀u v:F,1 * u+ -1 * v=u - v:=fun u v=>by grind
 simp only [e] at h
 exact h
theorem Z3T (f:F->F->F) (l:List F):List.zipWith f l l=l.map fun u=>f u u:=by
 induction l with
 |nil=>rfl
 |cons a l _=>simp
theorem Shared.scale {n t:Nat} {a:List F} {x:F} (ha:Shared n t a x) (c:F):Shared n t (a.map (· * c)) (x * c):=by
 have h:=ha.map2 ha c 0
 have e: ∀u v:F,c * u+0 * v=u * c:=fun u v=>by grind
 simp only [e] at h
 rw [Z3T] at h
 exact h
theorem Z3U {n t k:Nat} {ws:List (List F)} {cs:List F} {x:F} {ds:List F} {g:Gt} (hr:Q0u g k=true) (hn:2 * t+1<=n) (hn9:n<=1000) (ih: ∀i,i<k->Shared n t (wr ws i) (co cs i)):Shared n t (Z2K n t ws x ds g) (Z2C cs x g):=by
 unfold Q0u at hr
 unfold Z2K Z2C
 split
 ·exact Shared.dealt _ (by simp;omega)
 ·next h1=>
  rw [if_neg h1] at hr
  split
  ·exact Shared.const _ _ _
  ·next h2=>
   rw [if_neg h2] at hr
   have ahead: ∀ {z:Int},Q0H z k=true->z.toNat<k:=fun {z} h=>by
    simp [Q0H] at h
    omega
   split
   ·next h3=>
    rw [if_pos (.inl h3)] at hr
    simp only [Bool.and_eq_true] at hr
    exact (ih _ (ahead hr.1.1)).add (ih _ (ahead hr.1.2))
   ·next h3=>
    split
    ·next h4=>
     rw [if_pos (.inr (.inl h4))] at hr
     simp only [Bool.and_eq_true] at hr
     exact (ih _ (ahead hr.1.1)).sub (ih _ (ahead hr.1.2))
    ·next h4=>
     split
     ·next h5=>
      rw [if_pos (.inr (.inr h5))] at hr
      simp only [Bool.and_eq_true] at hr
      exact (ih _ (ahead hr.1.1)).mul (ih _ (ahead hr.1.2)) hn hn9 _
     ·next h5=>
      rw [if_neg (by omega)] at hr
      split at hr
      ·simp only [Bool.and_eq_true] at hr
       exact (ih _ (ahead hr.1)).scale _
      ·cases hr
theorem Z0C {n t:Nat} {gs:List Gt} {I D:List F} (hr: ∀(i:Nat) (g:Gt),gs[i]? =some g->Q0u g i=true) (hn:2 * t+1<=n) (hn9:n<=1000): ∀k,k<=gs.length-> ∀i,i<k->Shared n t (wr (ew n t gs I D k) i) (co (cw gs I k) i):=by
 intro k
 induction k with
 |zero=>intro _ i h;omega
 |succ k ih=>
  intro hk i hi
  have hg:gs[k]? =some gs[k]:=List.getElem?_eq_getElem (by omega)
  have ih:=ih (by omega)
  rw [Z9m hg,Z2D hg]
  rcases Nat.lt_or_ge i k with h|h
  ·rw [Y6h (by rw [Q3S];exact h),Q3O (by rw [Q2j];exact h)]
   exact ih i h
  ·obtain rfl:i=k:=by omega
   rw [Y6i (by rw [Q3S]),Q4Q (by rw [Q2j])]
   exact Z3U (hr i _ hg) hn hn9 ih
theorem Z9p {n t:Nat} {gs:List Gt} {os:List Int} {I D:List F} {j:Nat} (h:Z0h gs os) (hn:2 * t+1<=n) (hn9:n<=1000) (hj:j<n): ∀q,q<=os.length->(eo n t gs os I D q j).length=Y4K n gs gs.length+n * q:=by
 intro q
 induction q with
 |zero=>intro _;rw [eo,Z3S hj];rfl
 |succ q ih=>
  intro hq
  have ho:os[q]? =some os[q]:=List.getElem?_eq_getElem (by omega)
  have hz:=h.outs _ (List.mem_of_getElem? ho)
  rw [Z9n ho,List.length_append,ih (by omega),(Z0C (D:=D) (I:=I) h.right hn hn9 gs.length (Nat.le_refl _) os[q].toNat (by omega)).len,Nat.mul_succ]
  omega
end Croft
