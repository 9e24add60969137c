/- Parts of the proof, put together by a program: Circ TextP ReadQ DeskP. No condition. -/
import Derived.Test.YtploomncapiloaaGreatDoorSAD
import Derived.Lib.ItoaLen
import Derived.Lib.ItoaMem
import Derived.Lib.SplitLaws
set_option maxRecDepth 100000
set_option maxHeartbeats 8000000
namespace Croft
structure Gt where
 kind:Int
 a:Int
 b:Int
 n:Int
def Q0H (n i:Int):Bool:=decide (0<=n) && decide (n<i)
def Q0u (g:Gt) (i:Int):Bool:=
 if g.kind=1 then decide (1<=g.a) && decide (g.a<=9) && decide (g.b=0) && decide (g.n=0)
 else if g.kind=2 then decide (g.a=0) && decide (g.b=0)
 else if g.kind=3∨g.kind=4∨g.kind=5 then Q0H g.a i && Q0H g.b i && decide (g.n=0)
 else if g.kind=6 then Q0H g.a i && decide (g.b=0)
 else false
def Y3T (gs:List Gt) (os:List Int):Prop:= ∀o∈os,0<=o/\o<gs.length
def Q5h (gs:List Gt):Nat->Bool
 |0=>true
 |k+1=>Q5h gs k && (match gs[k]? with|some g=>Q0u g k|none=>true)
theorem Q6N (gs:List Gt): ∀k,Q5h gs k=true↔ ∀(i:Nat) (g:Gt),i<k->gs[i]? =some g->Q0u g i=true:=by
 intro k
 induction k with
 |zero=>simp [Q5h]
 |succ k ih=>
  rw [Q5h,Bool.and_eq_true,ih]
  constructor
  ·rintro ⟨h1,h2⟩ i g hi hg
   by_cases h:i=k
   ·subst h;rw [hg] at h2;exact h2
   ·exact h1 i g (by omega) hg
  ·intro h
   refine ⟨fun i g hi hg=>h i g (by omega) hg, ?_⟩
   cases hg:gs[k]? with
   |none=>rfl
   |some g=>exact h k g (by omega) hg
def Z3G (gs:List Gt) (os:List Int):Bool:=os.all fun o=>decide (0<=o) && decide (o<gs.length)
theorem Q8c {gs:List Gt} {os:List Int}:Z3G gs os=true↔Y3T gs os:=by simp [Z3G,Y3T]
def Q0U (gs:List Gt) (os:List Int):Int:=
 if gs.length=0∨os.length=0 then 1
 else if 30<gs.length∨30<os.length then 2
 else if Q5h gs gs.length=true then if Z3G gs os=true then 0 else 1
 else 1
structure Z0h (gs:List Gt) (os:List Int):Prop where
 g1:1<=gs.length
 g2:gs.length<=30
 o1:1<=os.length
 o2:os.length<=30
 right: ∀(i:Nat) (g:Gt),gs[i]? =some g->Q0u g i=true
 outs: ∀o∈os,0<=o/\o<gs.length
theorem Q0Q {gs:List Gt} {os:List Int}:Q0U gs os=0↔Z0h gs os:=by
 unfold Q0U
 constructor
 ·intro h
  split at h
  ·omega
  ·split at h
   ·omega
   ·split at h
    ·split at h
     ·next h1 h2 h3 h4=>exact ⟨by omega,by omega,by omega,by omega,fun i g hg=>(Q6N gs _).1 h3 i g (List.getElem?_eq_some_iff.1 hg).1 hg,Q8c.1 h4⟩
     ·omega
    ·omega
 ·rintro ⟨h1,h2,h3,h4,h5,h6⟩
  rw [if_neg (by omega),if_neg (by omega),if_pos ((Q6N gs _).2 fun i g _ hg=>h5 i g hg),if_pos (Q8c.2 h6)]
def Q0E (gs:List Gt):List Int:=(gs.filter fun g=>g.kind=1).map (·.a)
def cin (gs:List Gt) (k:Nat):Nat:=(Q0E (gs.take k)).length
theorem Z4V (gs:List Gt) (g:Gt):Q0E (gs++ [g])=if g.kind=1 then Q0E gs++ [g.a] else Q0E gs:=by
 unfold Q0E
 rw [List.filter_append]
 by_cases h:g.kind=1<;>simp [h]
theorem Q7C {gs:List Gt} {k:Nat} {g:Gt} (h:gs[k]? =some g):Q0E (gs.take (k+1))=if g.kind=1 then Q0E (gs.take k)++ [g.a] else Q0E (gs.take k):=by
 rw [List.take_add_one,h]
 exact Z4V _ _
theorem Q6O {gs:List Gt} {k:Nat} {g:Gt} (h:gs[k]? =some g):cin gs (k+1)=if g.kind=1 then cin gs k+1 else cin gs k:=by
 unfold cin
 rw [Q7C h]
 split<;>simp
theorem Y1U (gs:List Gt):cin gs gs.length=(Q0E gs).length:=by unfold cin;rw [List.take_length]
theorem Y3U {gs:List Gt}: ∀ {k m:Nat},k<=m->cin gs k<=cin gs m:=by
 intro k m h
 induction h with
 |refl=>exact Nat.le_refl _
 |step h ih=>
  rename_i m
  cases hg:gs[m]? with
  |none=>
   have hl:gs.length<=m:=by simpa using hg
   have e1:gs.take (m+1)=gs.take m:=by rw [List.take_of_length_le hl,List.take_of_length_le (by omega)]
   unfold cin at *
   rw [e1];exact ih
  |some g=>rw [Q6O hg];split<;>omega
theorem Z6m {gs:List Gt} {k:Nat} {g:Gt} (h:gs[k]? =some g) (hk:g.kind=1):cin gs k<(Q0E gs).length:=by
 rw [<-Y1U]
 have h1:cin gs (k+1)<=cin gs gs.length:=Y3U (by have:=(List.getElem?_eq_some_iff.1 h).1;omega)
 rw [Q6O h,if_pos hk] at h1
 omega
def Z2C (ws:List F) (x:F) (g:Gt):F:=
 if g.kind=1 then x
 else if g.kind=2 then toF g.n
 else if g.kind=3 then co ws g.a.toNat+co ws g.b.toNat
 else if g.kind=4 then co ws g.a.toNat - co ws g.b.toNat
 else if g.kind=5 then co ws g.a.toNat * co ws g.b.toNat
 else co ws g.a.toNat * toF g.n
def cw (gs:List Gt) (ins:List F):Nat->List F
 |0=> []
 |k+1=>cw gs ins k++ [match gs[k]? with|some g=>Z2C (cw gs ins k) (co ins (cin gs k)) g|none=>0]
theorem Q2j (gs:List Gt) (ins:List F) (k:Nat):(cw gs ins k).length=k:=by
 induction k with
 |zero=>rfl
 |succ k ih=>simp [cw,ih]
theorem Z2D {gs:List Gt} {ins:List F} {k:Nat} {g:Gt} (h:gs[k]? =some g):cw gs ins (k+1)=cw gs ins k++ [Z2C (cw gs ins k) (co ins (cin gs k)) g]:=by
 simp only [cw,h]
theorem Q3O {l m:List F} {i:Nat} (h:i<l.length):co (l++m) i=co l i:=by
 unfold co
 simp [List.getD,List.getElem?_append_left h]
theorem Q4Q {l:List F} {x:F} {i:Nat} (h:i=l.length):co (l++ [x]) i=x:=by
 subst h
 simp [co,List.getD]
theorem Y6f {gs:List Gt} {ins:List F} {k m i:Nat} (hk:i<k) (hm:k<=m):co (cw gs ins m) i=co (cw gs ins k) i:=by
 induction hm with
 |refl=>rfl
 | @step m hkm ih=>rw [cw,Q3O (by rw [Q2j];have:k<=m:=hkm;omega)];exact ih
def Q3P (gs:List Gt) (os:List Int) (ins:List F):List F:=os.map fun o=>co (cw gs ins gs.length) o.toNat
end Croft
namespace Croft
def Q2k (k:Int):List UInt8:=
 if k=1 then [105,110,112,117,116]
 else if k=2 then [99,111,110,115,116]
 else if k=3 then [97,100,100]
 else if k=4 then [115,117,98]
 else if k=5 then [109,117,108]
 else if k=6 then [115,99,97,108,101]
 else []
def Q3y (z:Int):List UInt8:=Go.Lib.decDigits z.toNat
def Q4Y (g:Gt):List UInt8:=
 Q2k g.kind++(if g.kind=1 then 32::Q3y g.a else if g.kind=2 then 32::Q3y (ofF (toF g.n)) else if g.kind=6 then 32::Q3y g.a++32::Q3y (ofF (toF g.n)) else 32::Q3y g.a++32::Q3y g.b)
def Q1R (g:Gt):List UInt8:=Q4Y g++ [10]
def outT (o:Int):List UInt8:= [111,117,116,32]++Q3y o++ [10]
def Q8O (gs:List Gt) (os:List Int):List UInt8:=gs.flatMap Q1R++os.flatMap outT
theorem Q1c (z:Int) (h:z<18446744073709551616):(Q3y z).length<=20:=by
 unfold Q3y
 rw [Go.Lib.decDigits_length]
 exact Go.Lib.nDigits_le20 _ (by omega)
theorem Q3l (k:Int):(Q2k k).length<=5:=by
 unfold Q2k
 repeat' split
 all_goals decide
theorem Z0i (g:Gt) (ha:g.a<18446744073709551616) (hb:g.b<18446744073709551616):(Q4Y g).length<=47:=by
 have h1:=Q3l g.kind
 have h2:=Q1c g.a ha
 have h3:=Q1c g.b hb
 have h4:=Q1c (ofF (toF g.n)) (by have:=Q2M (toF g.n);omega)
 unfold Q4Y
 rw [List.length_append]
 split
 ·simp only [List.length_cons];omega
 ·split
  ·simp only [List.length_cons];omega
  ·split
   ·simp only [List.length_cons,List.length_append];omega
   ·simp only [List.length_cons,List.length_append];omega
theorem Z0j {gs:List Gt} {k:Nat} {g:Gt} (h:gs[k]? =some g):(gs.take (k+1)).flatMap Q1R=(gs.take k).flatMap Q1R++Q1R g:=by
 rw [List.take_add_one,h];simp
theorem Q8P {os:List Int} {k:Nat} {o:Int} (h:os[k]? =some o):(os.take (k+1)).flatMap outT=(os.take k).flatMap outT++outT o:=by
 rw [List.take_add_one,h];simp
end Croft
namespace Croft
def pieces (c:UInt8):List UInt8->List (List UInt8)
 | []=> [[]]
 |b::l=>if b=c then []::pieces c l else match pieces c l with| []=> [[b]]|p::ps=>(b::p)::ps
theorem Q0I (c:UInt8) (l:List UInt8):pieces c l≠ []:=by
 cases l with
 |nil=>simp [pieces]
 |cons b l=>
  unfold pieces
  split
  ·simp
  ·split<;>simp
theorem Q5G {c:UInt8}: ∀ {l:List UInt8},c∉l->pieces c l= [l]
 | [],_=>rfl
 |b::l,h=>by
  rw [pieces,if_neg (fun e=>h (by simp [e])),Q5G (l:=l) (fun e=>h (by simp [e]))]
theorem Q6P {c:UInt8}: ∀ {x:List UInt8} (y:List UInt8),c∉x->pieces c (x++c::y)=x::pieces c y
 | [],y,_=>by simp [pieces]
 |b::l,y,h=>by
  rw [List.cons_append,pieces,if_neg (fun e=>h (by simp [e])),Q6P y (fun e=>h (by simp [e]))]
theorem Q6m (c:UInt8): ∀(l:List UInt8),pieces c (l++ [c])=pieces c l++ [[]]
 | []=>by simp [pieces]
 |b::l=>by
  rw [List.cons_append,pieces,pieces,Q6m c l]
  split
  ·simp
  ·cases h:pieces c l with
   |nil=>exact absurd h (Q0I c l)
   |cons p ps=>simp
theorem Q5X {c b:UInt8} (hb:b≠c): ∀(l:List UInt8),pieces c (l++ [b])=(pieces c l).dropLast++ [(pieces c l).getLast (Q0I c l)++ [b]]
 | []=>by simp [pieces,hb]
 |a::l=>by
  have ih:=Q5X hb l
  cases h:pieces c l with
  |nil=>exact absurd h (Q0I c l)
  |cons p ps=>
   simp only [h] at ih
   by_cases hac:a=c
   ·simp only [List.cons_append,pieces,if_pos hac,ih,h]
    simp
   ·simp only [List.cons_append,pieces,if_neg hac,ih,h]
    cases ps with
    |nil=>simp
    |cons q qs=>simp
theorem Q5H (c:UInt8): ∀(l:List UInt8),(pieces c l).length=l.count c+1
 | []=>rfl
 |b::l=>by
  rw [pieces]
  split
  ·next h=>subst h;rw [List.length_cons,Q5H,List.count_cons_self]
  ·next h=>
   rw [List.count_cons_of_ne (by simpa using h),<-Q5H c l]
   cases h2:pieces c l with
   |nil=>exact absurd h2 (Q0I c l)
   |cons p ps=>simp
theorem Q3m (c:UInt8) (l:List UInt8):(pieces c l).length<=l.length+1:=by
 rw [Q5H];have:=List.count_le_length (a:=c) (l:=l);omega
theorem Z6n (c:UInt8): ∀(l:List UInt8),c∉l∨ ∃x y,l=x++c::y/\c∉x
 | []=> .inl (by simp)
 |b::l=>by
  by_cases hb:b=c
  ·exact .inr ⟨[],l,by simp [hb],by simp⟩
  ·rcases Z6n c l with h|⟨x,y,h1,h2⟩
   ·exact .inl (by simp [h,Ne.symm hb])
   ·exact .inr ⟨b::x,y,by simp [h1],by simp [h2,Ne.symm hb]⟩
theorem Z2a {c:UInt8}: ∀ {l:List UInt8},c∉l->Go.Lib.index l [c]= -1
 | [],_=>by simp [Go.Lib.index]
 |b::l,h=>by
  have hp:([c]:List UInt8).isPrefixOf (b::l)=false:=by
   have:c≠b:=fun e=>h (by simp [e])
   simp [List.isPrefixOf,this]
  rw [Go.Lib.index,hp,Z2a (l:=l) (fun e=>h (by simp [e]))]
  simp
theorem index_hit {c:UInt8}: ∀ {x:List UInt8} (y:List UInt8),c∉x->Go.Lib.index (x++c::y) [c]=(x.length:Int)
 | [],y,_=>by rw [List.nil_append,Go.Lib.index];simp [List.isPrefixOf]
 |b::l,y,h=>by
  have hp:([c]:List UInt8).isPrefixOf (b::(l++c::y))=false:=by
   have:c≠b:=fun e=>h (by simp [e])
   simp [List.isPrefixOf,this]
  rw [List.cons_append,Go.Lib.index,hp,index_hit y (fun e=>h (by simp [e]))]
  have:((l.length:Int)== -1)=false:=by rw [beq_eq_false_iff_ne];omega
  simp [this]
theorem Y1V {c:UInt8} {l:List UInt8} (h:c∉l):Go.Lib.cut l [c]=(l, [],false):=by
 unfold Go.Lib.cut;rw [Z2a h,if_neg (by omega)]
theorem Y4B {c:UInt8} {x:List UInt8} (y:List UInt8) (h:c∉x):Go.Lib.cut (x++c::y) [c]=(x,y,true):=by
 unfold Go.Lib.cut;rw [index_hit y h,if_pos (by omega)]
 simp
theorem Q8d (c:UInt8): ∀(k:Nat) (l:List UInt8),l.count c=k->Go.Lib.splitK [c] 0 k l=pieces c l
 |0,l,h=>by
  rw [Go.Lib.splitK,Q5G (List.count_eq_zero.1 h)]
 |k+1,l,h=>by
  rcases Z6n c l with hm|⟨x,y,rfl,hx⟩
  ·rw [List.count_eq_zero.2 hm] at h;omega
  ·rw [Go.Lib.splitK,index_hit y hx,if_neg (by rw [beq_iff_eq];omega),Q6P y hx]
   have hc:y.count c=k:=by
    rw [List.count_append,List.count_eq_zero.2 hx,List.count_cons_self] at h;omega
   rw [<-Q8d c k y hc]
   simp
theorem Z2E (c:UInt8) (s:ByteArray):(Go.Lib.splitB ⟨#[c]⟩ 0 (Go.Lib.countB s ⟨#[c]⟩) s).map (·.data.toList)=pieces c s.data.toList:=by
 rw [Go.Lib.splitB_data]
 exact Q8d c _ _ (Go.Lib.count_one c _).symm
def Z4W (b:UInt8):Bool:=decide (48<=b.toNat) && decide (b.toNat<=57)
def Z8Z (n:Int) (b:UInt8):Int:=10 * n+((b.toNat:Int) - 48)
def Z3t (l:List UInt8):Int:=l.foldl Z8Z 0
def Q2s (l:List UInt8):Int:=
 if l.length<1∨10<l.length∨(1<l.length/\l[0]? =some 48) then -1
 else if l.all Z4W then Z3t l else -1
theorem Z3H (l:List UInt8) (b:UInt8):Z3t (l++ [b])=10 * Z3t l+((b.toNat:Int) - 48):=by simp [Z3t,Z8Z]
theorem Q8Q : ∀(k:Nat) (l:List UInt8),l.length=k->l.all Z4W=true->0<=Z3t l/\Z3t l<10^k:=by
 intro k
 induction k with
 |zero=>intro l hl _;rw [List.length_eq_zero_iff.1 hl];simp [Z3t]
 |succ k ih=>
  intro l hl ha
  obtain ⟨l',b,rfl⟩: ∃l' b,l=l'++ [b]:=by
   rcases List.eq_nil_or_concat l with h|⟨l',b,h⟩
   ·subst h;simp at hl
   ·exact ⟨l',b,by simpa using h⟩
  rw [List.all_append,Bool.and_eq_true] at ha
  have hb:Z4W b=true:=by simpa using ha.2
  have:=ih l' (by simpa using hl) ha.1
  rw [Z3H]
  simp only [Z4W,Bool.and_eq_true,decide_eq_true_eq] at hb
  rw [Int.pow_succ]
  omega
theorem Q8R (l:List UInt8): -1<=Q2s l/\Q2s l<10000000000:=by
 unfold Q2s
 split
 ·omega
 ·split
  ·next h1 h2=>
   have h3:=Q8Q l.length l rfl h2
   have h4:l.length<=10:=by omega
   have h5:(10:Int)^l.length<=10^10:=by
    have:(10:Nat)^l.length<=10^10:=Nat.pow_le_pow_right (by omega) h4
    exact_mod_cast this
   have:(10:Int)^10=10000000000:=by decide
   omega
  ·omega
theorem Q8S : ∀(k u:Nat),u<10^(k+1)->Go.Lib.nDigits u<=k+1
 |0,u,h=>by rw [Go.Lib.nDigits_small (by simpa using h)];omega
 |k+1,u,h=>by
  by_cases h2:u<10
  ·rw [Go.Lib.nDigits_small h2];omega
  ·rw [Go.Lib.nDigits_big h2]
   have:=Q8S k (u/10) (by rw [Nat.pow_succ] at h;omega)
   omega
theorem Z3I (u:Nat) (h:u<10000000000):Go.Lib.nDigits u<=10:=Q8S 9 u (by simpa using h)
end Croft
namespace Croft
theorem Q2N (c:UInt8): ∀(l:List UInt8),∀x∈pieces c l,x.length<=l.length
 | [],x,h=>by simp [pieces] at h;subst h;simp
 |b::l,x,h=>by
  have ih:=Q2N c l
  rw [pieces] at h
  split at h
  ·rcases List.mem_cons.1 h with rfl|h
   ·simp
   ·have:=ih x h;simp;omega
  ·cases hp:pieces c l with
   |nil=>exact absurd hp (Q0I c l)
   |cons p ps=>
    rw [hp] at h ih
    rcases List.mem_cons.1 h with rfl|h
    ·have:=ih p (by simp);simp;omega
    ·have:=ih x (by simp [h]);simp;omega
theorem Z0k {c b:UInt8} {l:List UInt8} {k:Nat} (h:l[k]? =some b) (hb:b=c):pieces c (l.take (k+1))=pieces c (l.take k)++ [[]]:=by
 subst hb
 rw [List.take_add_one,h];exact Q6m b _
theorem Y1W {α:Type} {P:List (List α)} {n:Nat} {x:List α} (b:α) (hn:P.length=n+1) (hx:P[n]? =some x) (hne:P≠ []):P.dropLast++ [P.getLast hne++ [b]]=P.set n (x++ [b]):=by
 have hl:P.getLast hne=x:=by
  rw [List.getLast_eq_getElem]
  rw [List.getElem?_eq_getElem (by omega)] at hx
  have h2:=Option.some.inj hx
  rw [<-h2];congr 1;omega
 rw [hl]
 apply List.ext_getElem?
 intro i
 rw [List.getElem?_set]
 by_cases hi:n=i
 ·subst hi
  rw [if_pos rfl,if_pos (by omega),List.getElem?_append_right (by simp;omega)]
  simp [hn]
 ·rw [if_neg hi]
  by_cases hlt:i<n
  ·rw [List.getElem?_append_left (by simp;omega),List.getElem?_dropLast,if_pos (by omega)]
  ·rw [List.getElem?_eq_none (by simp;omega),List.getElem?_eq_none (by omega)]
theorem Q9v {c b:UInt8} {l:List UInt8} {k:Nat} (h:l[k]? =some b) (hb:b≠c) {n:Nat} {x:List UInt8} (hn:(pieces c (l.take k)).length=n+1) (hx:(pieces c (l.take k))[n]? =some x):pieces c (l.take (k+1))=(pieces c (l.take k)).set n (x++ [b]):=by
 rw [List.take_add_one,h]
 exact (Q5X hb _).trans (Y1W b hn hx (Q0I _ _))
end Croft
namespace Croft
def Y3V :List UInt8:= [111,117,116]
def Q2F (w:List UInt8):Int:=
 if w=Q2k 1 then 1 else if w=Q2k 2 then 2 else if w=Q2k 3 then 3 else if w=Q2k 4 then 4 else if w=Q2k 5 then 5 else if w=Q2k 6 then 6 else 7
def Q0X (ws:List (List UInt8)):Bool:=ws.all fun x=>decide (0<=Q2s x)
def Q6n (k:Int) (n:List Int):Gt:=
 if k=1 then ⟨1,n.getD 0 0,0,0⟩ else if k=2 then ⟨2,0,0,n.getD 0 0⟩ else if k=6 then ⟨6,n.getD 0 0,0,n.getD 1 0⟩ else ⟨k,n.getD 0 0,n.getD 1 0,0⟩
def Q3Q (gs:List Gt) (os:List Int) (w:List UInt8) (ws:List (List UInt8)):Option (List Gt×List Int):=
 if Q0X ws then
  if w=Y3V then (if ws.length=1 then some (gs,os++ [(ws.map Q2s).getD 0 0]) else none)
  else if Q2F w<=6/\os.length=0/\(ws.length:Int)=(if Q2F w<=2 then 1 else 2) then some (gs++ [Q6n (Q2F w) (ws.map Q2s)],os) else none
 else none
def Q8e (gs:List Gt) (os:List Int) (l:List UInt8):Option (List Gt×List Int):=Q3Q gs os ((pieces 32 l).headD []) (pieces 32 l).tail
def Q1z :List Gt->List Int->Nat->List (List UInt8)->(List Gt×List Int) ⊕ Nat
 |gs,os,_, []=> .inl (gs,os)
 |gs,os,at_, [x]=>if x= [] then .inl (gs,os) else .inr at_
 |gs,os,at_,x::y::l=>match Q8e gs os x with
  |none=> .inr at_
  |some (gs',os')=>Q1z gs' os' (at_+1) (y::l)
structure Y3W where
 gs:List Gt
 os:List Int
 at_:Int
 e:Int
def Q2t :(List Gt×List Int) ⊕ Nat->Y3W
 | .inr k=>⟨[], [],k,3⟩
 | .inl (gs,os)=>if Q0U gs os=0 then ⟨gs,os,0,0⟩ else ⟨[], [],0,Q0U gs os⟩
def Q0s (s:List UInt8):Y3W:=if 2048<s.length then ⟨[], [],0,2⟩ else Q2t (Q1z [] [] 1 (pieces 10 s))
theorem Z7e (z:Int) (h1:z<10000000000):(Q3y z).length<=10:=by
 unfold Q3y;rw [Go.Lib.decDigits_length];exact Z3I _ (by omega)
theorem Q6o (z:Int) (h1:z<100):(Q3y z).length<=2:=by
 unfold Q3y;rw [Go.Lib.decDigits_length];exact Q8S 1 _ (by omega)
theorem Z0l {k:Int} (h1:1<=k) (h6:k<=6):Q2F (Q2k k)=k:=by
 obtain rfl|rfl|rfl|rfl|rfl|rfl:k=1∨k=2∨k=3∨k=4∨k=5∨k=6:=by omega
 all_goals decide
theorem Z4X {g:Gt} {i:Int} (h:Q0u g i=true):1<=g.kind/\g.kind<=6:=by
 by_cases q:g.kind=1∨g.kind=2∨g.kind=3∨g.kind=4∨g.kind=5∨g.kind=6
 ·omega
 ·simp only [not_or] at q
  simp [Q0u,q] at h
theorem Z4Y (g:Gt) (i:Int) (hi:i<=30) (h:Q0u g i=true):(Q4Y g).length<=19:=by
 have hw:=Q3l g.kind
 have hn:=Z7e (ofF (toF g.n)) (by have:=Q2M (toF g.n);omega)
 have hk:=Z4X h
 unfold Q4Y
 unfold Q0u at h
 rw [List.length_append]
 split
 ·next q=>rw [if_pos q] at h;simp at h;have:=Q6o g.a (by omega);simp only [List.length_cons];omega
 ·next q=>
  rw [if_neg q] at h
  split
  ·simp only [List.length_cons];omega
  ·next q2=>
   rw [if_neg q2] at h
   split
   ·next q3=>
    rw [if_neg (by omega),if_pos q3] at h
    simp [Q0H] at h
    have:=Q6o g.a (by omega)
    simp only [List.length_cons,List.length_append];omega
   ·next q3=>
    rw [if_pos (by omega)] at h
    simp [Q0H] at h
    have:=Q6o g.a (by omega)
    have:=Q6o g.b (by omega)
    simp only [List.length_cons,List.length_append];omega
theorem Q7D {α:Type} (f:α->List UInt8) (k:Nat): ∀(l:List α),(∀x∈l,(f x).length<=k)->(l.flatMap f).length<=k * l.length
 | [],_=>by simp
 |x::l,h=>by
  have h1:=h x (by simp)
  have h2:=Q7D f k l (fun y hy=>h y (by simp [hy]))
  rw [List.flatMap_cons,List.length_append,List.length_cons,Nat.mul_add];omega
theorem Z0h.gate {gs:List Gt} {os:List Int} (h:Z0h gs os) {g:Gt} (hg:g∈gs): ∃i:Int,i<=30/\Q0u g i=true:=by
 obtain ⟨i,hi,rfl⟩:=List.getElem_of_mem hg
 exact ⟨i,by have:=h.g2;omega,h.right i _ (List.getElem?_eq_getElem hi)⟩
theorem Z9a {gs:List Gt} {os:List Int} (h:Z0h gs os):(Q8O gs os).length<=900:=by
 have h1:=Q7D Q1R 20 gs (fun g hg=>by
  obtain ⟨i,hi,hr⟩:=h.gate hg
  have:=Z4Y g i hi hr
  rw [Q1R,List.length_append,List.length_singleton];omega)
 have h2:=Q7D outT 10 os (fun o ho=>by
  have:=Q6o o (by have:=h.outs o ho;have:=h.g2;omega)
  simp only [outT,List.length_append,List.length_cons,List.length_nil];omega)
 have h3:=h.g2
 have h4:=h.o2
 rw [Q8O,List.length_append];omega
theorem Q6p {s:List UInt8} (h:(Q0s s).e=0):Z0h (Q0s s).gs (Q0s s).os:=by
 unfold Q0s at h⊢
 split
 ·next q=>rw [if_pos q] at h;simp at h
 ·next q=>
  rw [if_neg q] at h
  cases hp:Q1z [] [] 1 (pieces 10 s) with
  |inr k=>rw [hp] at h;simp [Q2t] at h
  |inl p=>
   obtain ⟨gs',os'⟩:=p
   rw [hp] at h
   simp only [Q2t] at h⊢
   by_cases q:Q0U gs' os'=0
   ·rw [if_pos q];exact Q0Q.1 q
   ·rw [if_neg q] at h;exact absurd h q
end Croft
namespace Croft
def Q1A :List (List UInt8)->List UInt8
 | []=> []
 | [x]=>x
 |x::y::l=>x++32::Q1A (y::l)
theorem Z7f (x:List UInt8) (l:List (List UInt8)) (h:l≠ []):Q1A (x::l)=x++32::Q1A l:=by
 cases l with
 |nil=>exact absurd rfl h
 |cons y l=>rfl
theorem Z2b (l:List (List UInt8)) (x:List UInt8) (h:l≠ []):Q1A (l++ [x])=Q1A l++32::x:=by
 induction l with
 |nil=>exact absurd rfl h
 |cons a l ih=>
  cases l with
  |nil=>rfl
  |cons b l=>
   show a++32::Q1A ((b::l)++ [x])=_
   rw [ih (by simp)]
   show a++32::(Q1A (b::l)++32::x)=(a++32::Q1A (b::l))++32::x
   simp
def Q2h (e:Int):List UInt8:= [101,114,114,111,114,32]++Q3y e
def okT :List UInt8:= [111,107]
def Z9b (e:Int):List UInt8:=if e=0 then okT else Q2h e
def Q2G (l:List Int) (e:Int):List UInt8:=if e=0 then Q1A (l.map Q3y) else Q2h e
def Q3z (l:List UInt8):List (List UInt8):=(pieces 32 l).filter fun x=>decide (x≠ [])
theorem Z3J {l x:List UInt8} (h:x∈Q3z l):x≠ []:=by simpa [Q3z] using (List.mem_filter.1 h).2
def Z2c (ws:List (List UInt8)):Bool:=match ws with| []=>false|w::_=>decide (w.head? ≠some 35)
def Q9w (s:List UInt8):List (List UInt8):=if (pieces 10 s).getLast (Q0I 10 s)= [] then (pieces 10 s).dropLast else pieces 10 s
section
variable {σ :Type} (step:σ->List UInt8->List (List UInt8)->List UInt8×σ)
def Q0v :σ->List (List UInt8)->List UInt8×σ
 |s, []=>([],s)
 |s,l::ls=>match Q3z l with
  | []=>Q0v s ls
  |v::ws=>if Z2c (v::ws) then
    let r:=step s v ws
    let q:=Q0v r.2 ls
    (r.1++ [10]++q.1,q.2)
   else Q0v s ls
theorem Z1w (s:σ) (a b:List (List UInt8)):Q0v step s (a++b)=((Q0v step s a).1++(Q0v step (Q0v step s a).2 b).1,(Q0v step (Q0v step s a).2 b).2):=by
 induction a generalizing s with
 |nil=>simp [Q0v]
 |cons l ls ih=>
  rw [List.cons_append,Q0v,Q0v]
  split
  ·exact ih s
  ·split
   ·simp only [ih]
    simp
   ·exact ih s
def runT (s0:σ) (s:List UInt8):List UInt8:=if 65536<s.length∨200<(Q9w s).length then [101,114,114,111,114,32,50,10] else (Q0v step s0 (Q9w s)).1
end
def Q3g (tx:List UInt8) (ws:List (List UInt8)):List UInt8×List UInt8:=
 if ws= [] then (Q2h 3,tx) else if 2048<tx.length+((Q1A ws).length+1) then (Q2h 2,tx) else (okT,tx++(Q1A ws++ [10]))
end Croft
