/- Parts of the proof, put together by a program: Plain Shift. No condition. -/
import Derived.Lib.Hide
import Derived.WalkKit
set_option maxRecDepth 100000
set_option maxHeartbeats 8000000
namespace Go.Proofs.YtploomncapiloaaGreatDoor
theorem Qh{p:Prop}(h:p):RowKit.Hid p:=Lib.hid h
end Go.Proofs.YtploomncapiloaaGreatDoor
namespace Croft
def P :Nat:=2147483647
theorem Z2w :P=2147483647:=rfl
theorem Z8G :0<P:=by unfold P;decide
instance Y4p :NeZero P:=⟨by unfold P;decide⟩
abbrev F :=Fin P
def Y4q (d:Nat):Bool:=Nat.blt d 2||Nat.blt 2147483647 (d * d)|| !(Nat.beq (2147483647 % d) 0)
def chk :Nat->Nat->Bool
 |0,lo=>Y4q lo
 |k+1,lo=>chk k lo && chk k (lo+2^k)
theorem Y4r (k:Nat): ∀lo,chk k lo=true-> ∀d,lo<=d->d<lo+2^k->Y4q d=true:=by
 induction k with
 |zero=>
  intro lo h d h1 h2
  have:d=lo:=by simp at h2;omega
  subst this;exact h
 |succ k ih=>
  intro lo h d h1 h2
  simp only [chk,Bool.and_eq_true] at h
  rw [Nat.pow_succ] at h2
  by_cases hd:d<lo+2^k
  ·exact ih lo h.1 d h1 hd
  ·exact ih _ h.2 d (by omega) (by omega)
theorem Y4s :chk 16 0=true:=by decide+kernel
theorem Z3y (d:Nat) (h2:2<=d) (hs:d * d<=P): ¬d ∣ P:=by
 have hlt:d<65536:=by
  rcases Nat.lt_or_ge d 65536 with h|h
  ·exact h
  ·have:=Nat.mul_le_mul h h
   unfold P at hs;omega
 have:=Y4r 16 0 Y4s d (by omega) (by simpa using hlt)
 simp only [Y4q,Bool.or_eq_true,Nat.blt_eq,Bool.not_eq_true'] at this
 intro hd
 have hm:=Nat.mod_eq_zero_of_dvd hd
 rw [Z2w] at hm hs
 rw [hm] at this
 rcases this with (h|h)|h
 ·omega
 ·omega
 ·cases h
theorem Y6a (d:Nat) (h:d ∣ P):d=1∨d=P:=by
 obtain ⟨e,he⟩:=h
 have hP:=Z8G
 rcases Nat.lt_or_ge d 2 with h1|h1
 ·have:d≠0:=by rintro rfl;simp at he;omega
  omega
 rcases Nat.lt_or_ge e 2 with h2|h2
 ·have:e≠0:=by rintro rfl;simp at he;omega
  have:e=1:=by omega
  subst this;simp at he;exact .inr he.symm
 rcases Nat.le_total d e with h|h
 ·exact absurd ⟨e,he⟩ (Z3y d h1 (by rw [he];exact Nat.mul_le_mul_left d h))
 ·exact absurd ⟨d,by rw [Nat.mul_comm];exact he⟩ (Z3y e h2 (by rw [he];exact Nat.mul_le_mul_right e h))
theorem Z8H {a:Nat} (h: ¬P ∣ a):Nat.Coprime P a:=by
 rcases Y6a (Nat.gcd P a) (Nat.gcd_dvd_left P a) with h1|h1
 ·exact h1
 ·exact absurd (h1▸Nat.gcd_dvd_right P a) h
theorem Y3N {a b:Nat} (h:P ∣ a * b):P ∣ a∨P ∣ b:=by
 by_cases ha:P ∣ a
 ·exact .inl ha
 ·exact .inr ((Z8H ha).dvd_of_dvd_mul_left h)
def ch :Nat->Nat->Nat
 |_,0=>1
 |0,_+1=>0
 |n+1,k+1=>ch n k+ch n (k+1)
theorem Y3O (n:Nat): ∀k,n<k->ch n k=0:=by
 induction n with
 |zero=>intro k h;cases k with
  |zero=>omega
  |succ k=>rfl
 |succ n ih=>intro k h;cases k with
  |zero=>omega
  |succ k=>simp [ch,ih k (by omega),ih (k+1) (by omega)]
theorem Q9Y (n:Nat):ch n 0=1:=by cases n<;>rfl
theorem Y4t (n:Nat):ch n n=1:=by
 induction n with
 |zero=>rfl
 |succ n ih=>simp [ch,ih,Y3O n (n+1) (by omega)]
theorem Y5s (n:Nat): ∀k,ch (n+1) (k+1) * (k+1)=(n+1) * ch n k:=by
 induction n with
 |zero=>intro k;cases k with
  |zero=>rfl
  |succ k=>simp [ch]
 |succ n ih=>intro k;cases k with
  |zero=>
   have h:=ih 0
   simp only [Q9Y] at h⊢
   simp only [ch,Q9Y] at h⊢
   omega
  |succ k=>
   have h1:=ih k
   have h2:=ih (k+1)
   have e:ch (n+1+1) (k+1+1)=ch (n+1) (k+1)+ch (n+1) (k+2):=rfl
   rw [e]
   have e2:ch (n+1) (k+1)=ch n k+ch n (k+1):=rfl
   generalize ch (n+1) (k+2)=y at *
   generalize ch (n+1) (k+1)=x at *
   generalize ch n k=u at *
   generalize ch n (k+1)=v at *
   subst e2
   grind
def bs (n:Nat) (x:Nat):Nat->Nat
 |0=>0
 |m+1=>bs n x m+ch n m * x^m
theorem Z8I (n x:Nat): ∀m,bs (n+1) x (m+1)=bs n x (m+1)+x * bs n x m:=by
 intro m
 induction m with
 |zero=>simp [bs,Q9Y]
 |succ m ih=>
  rw [bs,ih,show bs n x (m+1+1)=bs n x (m+1)+ch n (m+1) * x^(m+1) from rfl,show bs n x (m+1)=bs n x m+ch n m * x^m from rfl,
   show ch (n+1) (m+1)=ch n m+ch n (m+1) from rfl,Nat.pow_succ]
  grind
theorem Y6b (x n:Nat):bs n x (n+1)=(x+1)^n:=by
 induction n with
 |zero=>simp [bs,Q9Y]
 |succ n ih=>
  rw [Z8I,show bs n x (n+1+1)=bs n x (n+1)+ch n (n+1) * x^(n+1) from rfl,Y3O n (n+1) (by omega),ih,Nat.pow_succ]
  grind
theorem Y1y (k:Nat) (h1:0<k) (h2:k<P):P ∣ ch P k:=by
 obtain ⟨n,hn⟩: ∃n,P=n+1:=⟨P - 1,by have:=Z8G;omega⟩
 obtain ⟨j,rfl⟩: ∃j,k=j+1:=⟨k - 1,by omega⟩
 have h:=Y5s n j
 rw [<-hn] at h
 rcases Y3N (⟨_,h⟩:P ∣ ch P (j+1) * (j+1)) with h3|h3
 ·exact h3
 ·exact absurd (Nat.le_of_dvd h1 h3) (by omega)
theorem bs_P (x:Nat): ∀m,0<m->m<=P->bs P x m % P=1 % P:=by
 intro m
 induction m with
 |zero=>intro h;omega
 |succ m ih=>
  intro _ h
  rcases Nat.eq_zero_or_pos m with h0|h0
  ·subst h0;simp [bs,Q9Y]
  ·obtain ⟨c,hc⟩:=Y1y m h0 (by omega)
   rw [bs,hc,Nat.mul_assoc,Nat.add_mul_mod_self_left]
   exact ih h0 (by omega)
theorem Y5t (x:Nat):x^P % P=x % P:=by
 induction x with
 |zero=>rw [Nat.zero_pow Z8G]
 |succ x ih=>
  rw [<-Y6b,bs,Y4t,Nat.one_mul,Nat.add_mod,bs_P x P Z8G (Nat.le_refl _),ih,<-Nat.add_mod,Nat.add_comm]
theorem Y4u (a:F) (n:Nat):(a^n).val=a.val^n % P:=by
 induction n with
 |zero=>
  have:a^0=1:=by grind
  rw [this];rfl
 |succ n ih=>
  have:a^(n+1)=a^n * a:=by grind
  rw [this,Fin.val_mul,ih,Nat.pow_succ,Nat.mod_mul_mod]
theorem Y1z (a:F):a^P=a:=by
 apply Fin.ext
 rw [Y4u,Y5t,Nat.mod_eq_of_lt a.isLt]
theorem Q4I (x:F):x * 0=0:=by
 have h: ∀y:F,y=0->x * y=0:=by intro y h;grind
 exact h 0 rfl
theorem Q7y (x:F):0 * x=0:=by
 have h: ∀y:F,y=0->y * x=0:=by intro y h;grind
 exact h 0 rfl
theorem Q6b (x:F):x+0=x:=by simp
theorem Y1r (x:F):0+x=x:=by simp
theorem Z8y (x:F):x - 0=x:=by
 have h: ∀y:F,y=0->x - y=x:=by intro y h;grind
 exact h 0 rfl
theorem Z4O (x:F):x * 1=x:=by grind
theorem Y3P (x:F):1 * x=x:=by grind
theorem Q4k {a b:F} (h:a * b=0):a=0∨b=0:=by
 have h1:=congrArg Fin.val h
 rw [Fin.val_mul] at h1
 have h0: ∀a:F,P ∣ a.val->a=0:=fun a ⟨c,hc⟩=>by
  apply Fin.ext
  have:=a.isLt
  show a.val=0
  cases c with
  |zero=>simpa using hc
  |succ c=>rw [Nat.mul_succ] at hc;omega
 exact (Y3N (Nat.dvd_of_mod_eq_zero h1)).imp (h0 a) (h0 b)
def inv (a:F):F:=a^(P - 2)
theorem Q4V {a:F} (h:a≠0):a * inv a=1:=by
 have h1:a * (a * inv a - 1)=0:=by
  have h2:=Y1z a
  have h3: ∀n,n=(P - 2)+2->a^n=inv a * a * a:=by rintro n rfl;show a^(P - 2+2)=a^(P - 2) * a * a;grind
  have h4:=h3 P (by unfold P;rfl)
  grind
 rcases Q4k h1 with h2|h2
 ·exact absurd h2 h
 ·grind
theorem Q6I {a b:F} (h:a * b=1):b=inv a:=by
 have:a≠0:=by
  rintro rfl
  have h1:(0:F)=1:=by grind
  exact absurd h1 (by unfold F P;decide)
 have:=Q4V this
 grind
theorem Z6h :(1:F)≠0:=by unfold F P;decide
theorem Y5u {a:F} (h:a≠0):inv a≠0:=by
 intro h1
 have h2:=Q4V h
 rw [h1] at h2
 have h3:(0:F)=1:=by grind
 exact Z6h h3.symm
theorem Q7X :inv 0=0:=by
 unfold inv
 have:(0:F)^(P - 2)=0^(P - 3) * 0:=by
  have:P - 2=(P - 3)+1:=by unfold P;rfl
  rw [this];grind
 rw [this];grind
def toF (x:Int):F:=Fin.ofNat P (x % (P:Int)).toNat
def ofF (a:F):Int:=(a.val:Int)
theorem Y3Q :(0:Int)<(P:Int):=by have:=Z8G;omega
theorem Q7z (x:Int):((toF x).val:Int)=x % (P:Int):=by
 have h1:=Int.emod_nonneg x (b:=(P:Int)) (by have:=Y3Q;omega)
 have h2:=Int.emod_lt_of_pos x Y3Q
 unfold toF
 simp only [Fin.ofNat]
 rw [Nat.mod_eq_of_lt (by omega)]
 omega
theorem Q3C (x:Int):ofF (toF x)=x % (P:Int):=Q7z x
theorem Q5x {a b:F} (h:ofF a=ofF b):a=b:=Fin.ext (by unfold ofF at h;omega)
theorem Y5v {x y:Int} (h:x % (P:Int)=y % (P:Int)):toF x=toF y:=Q5x (by rw [Q3C,Q3C,h])
theorem Q8I {x y:Int}:toF x=toF y↔x % (P:Int)=y % (P:Int):=⟨fun h=>by rw [<-Q3C,<-Q3C,h],Y5v⟩
theorem Q0i (a:F):0<=ofF a:=by unfold ofF;omega
theorem Q2M (a:F):ofF a<2147483647:=by unfold ofF;have h1:=a.isLt;have h2:=Z2w;omega
theorem Q0m (a:F):toF (ofF a)=a:=by
 apply Q5x
 rw [Q3C]
 exact Int.emod_eq_of_lt (Q0i a) (by unfold ofF;have:=a.isLt;omega)
theorem Q8J (x y:Int):toF (x+y)=toF x+toF y:=by
 apply Fin.ext
 have h1:=Q7z (x+y);have h2:=Q7z x;have h3:=Q7z y
 rw [Fin.val_add]
 rw [Int.add_emod,<-h2,<-h3,<-Int.natCast_add,<-Int.natCast_emod] at h1
 omega
theorem Z8J (x y:Int):toF (x * y)=toF x * toF y:=by
 apply Fin.ext
 have h1:=Q7z (x * y);have h2:=Q7z x;have h3:=Q7z y
 rw [Fin.val_mul]
 rw [Int.mul_emod,<-h2,<-h3,<-Int.natCast_mul,<-Int.natCast_emod] at h1
 omega
theorem Q1G :toF 0=0:=Q5x (by rw [Q3C];rfl)
theorem Q8K :toF 1=1:=Q5x (by rw [Q3C];rfl)
theorem Q9J :ofF 0=0:=rfl
theorem Y4v (x:Int):toF (-x)= - toF x:=by
 have h:toF (-x)+toF x=0:=by rw [<-Q8J,<-Q1G];congr 1;omega
 grind
theorem Z4P (x y:Int):toF (x - y)=toF x - toF y:=by rw [Int.sub_eq_add_neg,Q8J,Y4v];grind
theorem Q5y {a:F}:ofF a=0↔a=0:=⟨fun h=>Q5x (by rw [h];rfl),fun h=>by rw [h];rfl⟩
theorem Z4Q {x:Int}:toF x=0↔x % 2147483647=0:=by rw [<-Q1G,Q8I,Z2w];simp
def Q0n :List F->F->F
 | [],_=>0
 |a::l,x=>a+x * Q0n l x
def Zero (l:List F):Prop:= ∀a∈l,a=0
theorem Zero.nil :Zero []:=by intro a h;cases h
theorem Zero.cons {a:F} {l:List F}:Zero (a::l)↔a=0/\Zero l:=by simp [Zero]
theorem Z1V {l:List F} (h:Zero l) (x:F):Q0n l x=0:=by
 induction l with
 |nil=>rfl
 |cons a l ih=>rw [Zero.cons] at h;rw [Q0n,h.1,ih h.2,Q4I,Q6b]
def quo :List F->F->List F
 | [],_=> []
 |b::l,r=>Q0n (b::l) r::quo l r
theorem Z6S (l:List F) (r:F):(quo l r).length=l.length:=by
 induction l with
 |nil=>rfl
 |cons b l ih=>simp [quo,ih]
theorem Y1A (l:List F) (r x:F):x * Q0n l x - r * Q0n l r=(x - r) * Q0n (quo l r) x:=by
 induction l with
 |nil=>simp only [quo,Q0n,Q4I,Z8y]
 |cons b l ih=>simp only [quo,Q0n] at *;grind
theorem Y1B (l:List F) (r:F) (h:Zero (quo l r)):Zero l:=by
 induction l with
 |nil=>exact Zero.nil
 |cons b l ih=>
  simp only [quo] at h
  rw [Zero.cons] at h⊢
  have hz:=ih h.2
  have h1:=h.1
  rw [Q0n,Z1V hz] at h1
  exact ⟨by grind,hz⟩
theorem roots (rs:List F): ∀l:List F,l.length<=rs.length->rs.Nodup->(∀r∈rs,Q0n l r=0)->Zero l:=by
 induction rs with
 |nil=>
  intro l h _ _
  have:l= []:=List.eq_nil_of_length_eq_zero (by simpa using h)
  subst this;exact Zero.nil
 |cons r rs ih=>
  intro l hl hn hr
  cases l with
  |nil=>exact Zero.nil
  |cons a l=>
   have h0:=hr r (by simp)
   rw [List.nodup_cons] at hn
   have hq:Zero (quo l r):=by
    refine ih _ (by rw [Z6S];simpa using hl) hn.2 fun x hx=> ?_
    have hx0:=hr x (by simp [hx])
    have he:=Y1A l r x
    simp only [Q0n] at h0 hx0
    have hm:(x - r) * Q0n (quo l r) x=0:=by grind
    rcases Q4k hm with h1|h1
    ·have:x=r:=by grind
     subst this;exact absurd hx hn.1
    ·exact h1
   have hz:=Y1B l r hq
   rw [Zero.cons]
   rw [Q0n,Z1V hz] at h0
   exact ⟨by grind,hz⟩
def Q7h :List F->List F->List F
 | [],b=>b
 |a, []=>a
 |x::a,y::b=>(x+y)::Q7h a b
def Q3a (c:F) (l:List F):List F:=l.map (c * ·)
def Z8z :List F->List F->List F
 | [],_=> []
 |x::a,b=>Q7h (Q3a x b) (0::Z8z a b)
theorem Q9K (a:List F):Q7h a []=a:=by cases a<;>rfl
theorem Q3j (a:List F): ∀(b:List F) (x:F),Q0n (Q7h a b) x=Q0n a x+Q0n b x:=by
 induction a with
 |nil=>intro b x;simp only [Q7h,Q0n];grind
 |cons u a ih=>intro b x;cases b with
  |nil=>simp only [Q7h,Q0n];grind
  |cons v b=>simp only [Q7h,Q0n,ih];grind
theorem Q1T (c:F) (l:List F) (x:F):Q0n (Q3a c l) x=c * Q0n l x:=by
 unfold Q3a
 induction l with
 |nil=>simp only [List.map,Q0n];grind
 |cons a l ih=>simp only [List.map,Q0n,ih];grind
theorem Z8K (a:List F): ∀(b:List F) (x:F),Q0n (Z8z a b) x=Q0n a x * Q0n b x:=by
 induction a with
 |nil=>intro b x;simp only [Z8z,Q0n];grind
 |cons u a ih=>intro b x;simp only [Z8z,Q3j,Q1T,Q0n,ih];grind
theorem Q3D (a:List F): ∀b:List F,(Q7h a b).length=max a.length b.length:=by
 induction a with
 |nil=>intro b;simp [Q7h]
 |cons u a ih=>intro b;cases b with
  |nil=>simp [Q7h]
  |cons v b=>simp [Q7h,ih]
theorem Q2f (c:F) (l:List F):(Q3a c l).length=l.length:=by simp [Q3a]
def co (l:List F) (i:Nat):F:=l.getD i 0
theorem Q4J (i:Nat):co [] i=0:=by simp [co]
theorem Q1h (a:F) (l:List F):co (a::l) 0=a:=by simp [co]
theorem Q1x (a:F) (l:List F) (i:Nat):co (a::l) (i+1)=co l i:=by simp [co]
theorem Q0t {l:List F} {i:Nat} (h:l.length<=i):co l i=0:=by simp [co,List.getElem?_eq_none h]
theorem Q6h (a:List F): ∀(b:List F) (i:Nat),co (Q7h a b) i=co a i+co b i:=by
 induction a with
 |nil=>intro b i;rw [Q7h,Q4J];grind
 |cons u a ih=>intro b i;cases b with
  |nil=>rw [Q9K,Q4J];grind
  |cons v b=>cases i with
   |zero=>simp only [Q7h,Q1h]
   |succ i=>simp only [Q7h,Q1x,ih]
theorem Q6J (c:F) (l:List F) (i:Nat):co (Q3a c l) i=c * co l i:=by
 induction l generalizing i with
 |nil=>simp only [Q3a,List.map,Q4J];grind
 |cons a l ih=>cases i with
  |zero=>simp only [Q3a,List.map,Q1h]
  |succ i=>simp only [Q3a,List.map,Q1x];exact ih i
theorem Zero.iff_co {l:List F}:Zero l↔ ∀i,co l i=0:=by
 induction l with
 |nil=>simp [Zero.nil,Q4J]
 |cons a l ih=>
  rw [Zero.cons,ih]
  constructor
  ·intro h i;cases i with
   |zero=>rw [Q1h];exact h.1
   |succ i=>rw [Q1x];exact h.2 i
  ·intro h;exact ⟨by have:=h 0;rwa [Q1h] at this,fun i=>by have:=h (i+1);rwa [Q1x] at this⟩
def Q0w :List F->List F
 | []=> []
 |a::l=>if Q0w l= []/\a=0 then [] else a::Q0w l
theorem Q4K (l:List F): ∀i,co (Q0w l) i=co l i:=by
 induction l with
 |nil=>intro i;rfl
 |cons a l ih=>
  intro i
  simp only [Q0w]
  split
  ·rename_i h
   rw [Q4J]
   cases i with
   |zero=>rw [Q1h,h.2]
   |succ i=>rw [Q1x,<-ih,h.1,Q4J]
  ·cases i with
   |zero=>simp only [Q1h]
   |succ i=>simp only [Q1x,ih]
theorem Q3b (l:List F) (x:F):Q0n (Q0w l) x=Q0n l x:=by
 induction l with
 |nil=>rfl
 |cons a l ih=>
  simp only [Q0w]
  split
  ·rename_i h
   simp only [Q0n]
   rw [<-ih,h.1,h.2];simp only [Q0n,Q4I,Q6b]
  ·simp only [Q0n,ih]
theorem Q1y (l:List F):(Q0w l).length<=l.length:=by
 induction l with
 |nil=>simp [Q0w]
 |cons a l ih=>simp only [Q0w];split<;>simp;exact ih
theorem Q1K (l:List F):Q0w (Q0w l)=Q0w l:=by
 induction l with
 |nil=>rfl
 |cons a l ih=>
  simp only [Q0w]
  split
  ·rfl
  ·rename_i h;simp only [Q0w,ih];rw [if_neg h]
theorem Q5z (l:List F):Q0w l= []↔Zero l:=by
 induction l with
 |nil=>simp [Q0w,Zero.nil]
 |cons a l ih=>simp only [Q0w,Zero.cons,<-ih];split<;>simp_all;rename_i h;exact fun h1 h2=>h h2 h1
theorem Q3N (a:List F): ∀b:List F,(∀i,co a i=co b i)->Q0w a=Q0w b:=by
 induction a with
 |nil=>intro b h;symm;rw [Q0w,Q5z,Zero.iff_co];intro i;rw [<-h,Q4J]
 |cons u a ih=>intro b h;cases b with
  |nil=>rw [show Q0w []=([]:List F) from rfl,Q5z,Zero.iff_co];intro i;rw [h,Q4J]
  |cons v b=>
   have h0:=h 0
   rw [Q1h,Q1h] at h0
   have h1:=ih b (fun i=>by have:=h (i+1);rwa [Q1x,Q1x] at this)
   simp only [Q0w,h0,h1]
theorem Z6T (l:List F): ∀a,(Q0w l).getLast? =some a->a≠0:=by
 induction l with
 |nil=>intro a h;simp [Q0w] at h
 |cons b l ih=>
  intro a h
  simp only [Q0w] at h
  split at h
  ·simp at h
  ·rename_i hn
   cases hp:Q0w l with
   |nil=>rw [hp] at h hn;simp at h hn;subst h;exact hn
   |cons c m=>rw [hp,List.getLast?_cons_cons,<-hp] at h;exact ih a h
theorem Q7k (l:List F) (h: ∀a,l.getLast? =some a->a≠0):Q0w l=l:=by
 induction l with
 |nil=>rfl
 |cons b l ih=>
  simp only [Q0w]
  cases l with
  |nil=>have:=h b (by simp);simp [Q0w,this]
  |cons c m=>
   rw [ih (fun a ha=>h a (by rw [List.getLast?_cons_cons];exact ha))]
   simp
theorem agree (a b:List F) (xs:List F) (hn:xs.Nodup) (ha:a.length<=xs.length) (hb:b.length<=xs.length)
  (h: ∀x∈xs,Q0n a x=Q0n b x): ∀i,co a i=co b i:=by
 have hz:Zero (Q7h a (Q3a (-1) b)):=by
  refine roots xs _ (by rw [Q3D,Q2f];omega) hn fun x hx=> ?_
  rw [Q3j,Q1T,h x hx];grind
 intro i
 have:=Zero.iff_co.1 hz i
 rw [Q6h,Q6J] at this
 grind
theorem Z6U (a b:List F) (xs:List F) (hn:xs.Nodup) (ha:a.length<=xs.length) (hb:b.length<=xs.length)
  (h: ∀x∈xs,Q0n a x=Q0n b x):Q0w a=Q0w b:=Q3N a b (agree a b xs hn ha hb h)
def Interp (pts:List (F×F)) (q:List F):Prop:=Q0w q=q/\q.length<=pts.length/\ ∀p∈pts,Q0n q p.1=p.2
theorem Interp.unique {pts:List (F×F)} {a b:List F} (hn:(pts.map (·.1)).Nodup) (ha:Interp pts a) (hb:Interp pts b):a=b:=by
 rw [<-ha.1,<-hb.1]
 refine Z6U a b _ hn (by simpa using ha.2.1) (by simpa using hb.2.1) fun x hx=> ?_
 obtain ⟨p,hp,rfl⟩:=List.mem_map.1 hx
 rw [ha.2.2 p hp,hb.2.2 p hp]
def Q1r :Nat->(Nat->F)->F
 |0,_=>0
 |n+1,f=>Q1r n f+f n
theorem Q0z {n:Nat} {f g:Nat->F} (h: ∀i,i<n->f i=g i):Q1r n f=Q1r n g:=by
 induction n with
 |zero=>rfl
 |succ n ih=>rw [Q1r,Q1r,ih (fun i hi=>h i (by omega)),h n (by omega)]
theorem Q2i {n:Nat} {f:Nat->F} (h: ∀i,i<n->f i=0):Q1r n f=0:=by
 induction n with
 |zero=>rfl
 |succ n ih=>rw [Q1r,ih (fun i hi=>h i (by omega)),h n (by omega),Q6b]
theorem Q7Y (n:Nat) (f g:Nat->F):Q1r n (fun i=>f i+g i)=Q1r n f+Q1r n g:=by
 induction n with
 |zero=>simp only [Q1r,Q6b]
 |succ n ih=>simp only [Q1r,ih];grind
theorem Q4L (n:Nat) (c:F) (f:Nat->F):Q1r n (fun i=>c * f i)=c * Q1r n f:=by
 induction n with
 |zero=>simp only [Q1r,Q4I]
 |succ n ih=>simp only [Q1r,ih];grind
theorem Z3z (n:Nat) (f:Nat->F):Q1r (n+1) f=f 0+Q1r n (fun i=>f (i+1)):=by
 induction n with
 |zero=>simp only [Q1r,Q6b,Y1r]
 |succ n ih=>rw [Q1r,ih,Q1r];grind
theorem Q9Z {n m:Nat} {f:Nat->F} (h:n<=m) (hz: ∀i,n<=i->i<m->f i=0):Q1r m f=Q1r n f:=by
 induction m with
 |zero=>
  have:n=0:=by omega
  subst this;rfl
 |succ m ih=>
  by_cases hn:n=m+1
  ·subst hn;rfl
  ·rw [Q1r,ih (by omega) (fun i h1 h2=>hz i h1 (by omega)),hz m (by omega) (by omega),Q6b]
theorem Z8L (n m:Nat) (f:Nat->Nat->F):Q1r n (fun i=>Q1r m (fun j=>f i j))=Q1r m (fun j=>Q1r n (fun i=>f i j)):=by
 induction n with
 |zero=>simp only [Q1r];exact (Q2i (fun _ _=>rfl)).symm
 |succ n ih=>simp only [Q1r];rw [ih,<-Q7Y]
theorem Q4M {n:Nat} (k:Nat) (hk:k<n) {f:Nat->F} (hz: ∀i,i<n->i≠k->f i=0):Q1r n f=f k:=by
 induction n with
 |zero=>omega
 |succ n ih=>
  by_cases h:k=n
  ·subst h;rw [Q1r,Q2i (fun i hi=>hz i (by omega) (by omega)),Y1r]
  ·rw [Q1r,ih (by omega) (fun i h1 h2=>hz i (by omega) h2),hz n (by omega) (by omega),Q6b]
theorem pow_zero (x:F):x^0=1:=by grind
theorem pow_succ (x:F) (n:Nat):x^(n+1)=x^n * x:=by grind
theorem pow_add (x:F) (n m:Nat):x^(n+m)=x^n * x^m:=by
 induction m with
 |zero=>rw [pow_zero,Z4O,Nat.add_zero]
 |succ m ih=>rw [<-Nat.add_assoc,pow_succ,ih,pow_succ];grind
theorem Z8M (x y:F) (n:Nat):(x * y)^n=x^n * y^n:=by
 induction n with
 |zero=>simp only [pow_zero,Z4O]
 |succ n ih=>simp only [pow_succ,ih];grind
theorem Q7Z (l:List F) (x:F): ∀n,l.length<=n->Q0n l x=Q1r n (fun i=>co l i * x^i):=by
 induction l with
 |nil=>
  intro n _
  rw [Q2i];rfl
  intro i _;rw [Q4J,Q7y]
 |cons a l ih=>
  intro n hn
  simp at hn
  obtain ⟨m,rfl⟩: ∃m,n=m+1:=⟨n - 1,by omega⟩
  rw [Z3z,Q1h,pow_zero,Z4O,Q0n,ih m (by omega),<-Q4L]
  congr 1
  exact Q0z fun i _=>by rw [Q1x,pow_succ];grind
theorem Q6i {a b:List F} (h: ∀i,co a i=co b i) (x:F):Q0n a x=Q0n b x:=by
 rw [Q7Z a x (max a.length b.length) (by omega),Q7Z b x (max a.length b.length) (by omega)]
 exact Q0z fun i _=>by rw [h]
theorem Y3R (a:List F): ∀(b:List F) (k:Nat),co (Z8z a b) k=Q1r (k+1) (fun i=>co a i * co b (k - i)):=by
 induction a with
 |nil=>intro b k;rw [Z8z,Q4J,Q2i];intro i _;rw [Q4J,Q7y]
 |cons u a ih=>
  intro b k
  rw [Z8z,Q6h,Q6J,Z3z,Q1h,Nat.sub_zero]
  congr 1
  cases k with
  |zero=>rw [Q1h];rfl
  |succ k=>rw [Q1x,ih];exact Q0z fun i _=>by rw [Q1x,show k+1 - (i+1)=k - i by omega]
theorem Z0a (a:List F): ∀b:List F,b≠ []->(Z8z a b).length=if a= [] then 0 else a.length+b.length - 1:=by
 induction a with
 |nil=>intro b _;rfl
 |cons u a ih=>
  intro b hb
  have hbl:0<b.length:=List.length_pos_iff.2 hb
  rw [Z8z,Q3D,Q2f,List.length_cons,ih b hb]
  cases a<;>simp<;>omega
theorem Q4l {l:List F} (h:Q0w l=l) (hl:l≠ []):co l (l.length - 1)≠0:=by
 have h1:=Z6T l (l.getLast hl) (by rw [h,List.getLast?_eq_some_getLast hl])
 have hp:0<l.length:=List.length_pos_iff.2 hl
 rw [List.getLast_eq_getElem] at h1
 simpa [co,List.getElem?_eq_getElem (show l.length - 1<l.length by omega)] using h1
theorem Q9h {l:List F} (h:l= []∨co l (l.length - 1)≠0):Q0w l=l:=by
 rcases h with rfl|h
 ·rfl
 ·refine Q7k l fun a ha=> ?_
  have hl:l≠ []:=by rintro rfl;simp at ha
  have hp:0<l.length:=List.length_pos_iff.2 hl
  rw [List.getLast?_eq_some_getLast hl,List.getLast_eq_getElem] at ha
  simp only [Option.some.injEq] at ha
  rw [<-ha]
  simpa [co,List.getElem?_eq_getElem (show l.length - 1<l.length by omega)] using h
theorem Z4R {a b:List F} (ha:Q0w a=a) (hb:Q0w b=b):b≠ []->Q0w (Z8z a b)=Z8z a b:=by
 intro hb0
 apply Q9h
 by_cases ha0:a= []
 ·subst ha0;exact .inl rfl
 right
 have hla:=List.length_pos_iff.2 ha0
 have hlb:=List.length_pos_iff.2 hb0
 rw [Z0a a b hb0,if_neg ha0,Y3R,show a.length+b.length - 1 - 1+1=a.length+b.length - 1 by omega]
 rw [Q4M (a.length - 1) (by omega)]
 ·rw [show a.length+b.length - 1 - 1 - (a.length - 1)=b.length - 1 by omega]
  intro h
  rcases Q4k h with h1|h1
  ·exact Q4l ha ha0 h1
  ·exact Q4l hb hb0 h1
 ·intro i hi hne
  rcases Nat.lt_or_ge i (a.length - 1) with h1|h1
  ·rw [Q0t (l:=b) (by omega),Q4I]
  ·rw [Q0t (l:=a) (by omega),Q7y]
theorem Q3E {a b:List F} (hl:a.length=b.length) (h: ∀i,co a i=co b i):a=b:=by
 apply List.ext_getElem hl
 intro i h1 h2
 have:=h i
 simpa [co,h1,h2] using this
def Q0f (zs:List Int):List F:=zs.map toF
def Q0g (l:List F):List Int:=l.map ofF
theorem Q0l (zs:List Int):(Q0f zs).length=zs.length:=by simp [Q0f]
theorem Q0d (l:List F):(Q0g l).length=l.length:=by simp [Q0g]
theorem Q0A (l:List F):Q0f (Q0g l)=l:=by
 unfold Q0f Q0g
 rw [List.map_map]
 conv=>rhs;rw [<-List.map_id l]
 exact List.map_congr_left fun a _=>Q0m a
theorem Q6K {zs:List Int} {j:Nat} {z:Int} (h:zs[j]? =some z):(Q0f zs)[j]? =some (toF z):=by simp [Q0f,h]
theorem Q1H {l:List F} {j:Nat} {a:F} (h:l[j]? =some a):(Q0g l)[j]? =some (ofF a):=by simp [Q0g,h]
theorem Q2q {l:List F} {j:Nat} {a:F} (h:l[j]? =some a):co l j=a:=by simp [co,h]
theorem Q2r {l:List F} {j:Nat} (h:j<l.length):l[j]? =some (co l j):=by simp [co,List.getElem?_eq_getElem h]
theorem Z6V {l:List F} {j:Nat} {a:F} (h:l[j]? =some a) (x:F):Q0n (l.drop j) x=a+x * Q0n (l.drop (j+1)) x:=by
 obtain ⟨h1,h2⟩:=List.getElem?_eq_some_iff.1 h
 rw [List.drop_eq_getElem_cons h1,h2];rfl
theorem Q9i (l:List F) (a x:F):Q0n (l++ [a]) x=Q0n l x+a * x^l.length:=by
 induction l with
 |nil=>simp only [List.nil_append,Q0n,List.length_nil,pow_zero,Q4I,Q6b,Y1r,Z4O]
 |cons b l ih=>simp only [List.cons_append,Q0n,ih,List.length_cons,pow_succ];grind
theorem Z6W {l:List F} {j:Nat} {a:F} (h:l[j]? =some a) (x:F):Q0n (l.take (j+1)) x=Q0n (l.take j) x+a * x^j:=by
 obtain ⟨h1,_⟩:=List.getElem?_eq_some_iff.1 h
 rw [List.take_add_one,h]
 simp only [Option.toList]
 rw [Q9i,List.length_take,Nat.min_eq_left (by omega)]
theorem Z3A (l:List F) (m:Nat) (hm:m<=l.length) (hz: ∀j,m<=j->co l j=0) (hl:m=0∨co l (m - 1)≠0):Q0w l=l.take m:=by
 have h1:Q0w l=Q0w (l.take m):=Q3N _ _ fun i=>by
  rcases Nat.lt_or_ge i m with h|h
  ·simp [co,h]
  ·rw [hz i h,Q0t (by simp;omega)]
 rw [h1]
 apply Q9h
 rcases hl with h|h
 ·left;subst h;simp
 ·right
  rw [show (l.take m).length=m by simp;omega]
  by_cases hm0:m=0
  ·subst hm0
   simp only [Nat.zero_sub] at h⊢
   exact absurd (hz 0 (Nat.le_refl _)) h
  ·simpa [co,List.getElem?_take,show m - 1<m by omega] using h
def Q1j (a b:List F):List F:=if a= []∨b= [] then [] else Z8z a b
theorem Q2c (a b:List F):(Q1j a b).length=if a= []∨b= [] then 0 else a.length+b.length - 1:=by
 unfold Q1j
 split
 ·rfl
 ·rename_i h
  have h1:a≠ []:=fun e=>h (.inl e)
  have h2:b≠ []:=fun e=>h (.inr e)
  rw [Z0a a b h2,if_neg h1]
theorem Q3W (a b:List F) (k:Nat):co (Q1j a b) k=Q1r (k+1) (fun i=>co a i * co b (k - i)):=by
 unfold Q1j
 split
 ·rename_i h
  rw [Q4J,Q2i]
  intro i _
  rcases h with h|h
  ·rw [h,Q4J,Q7y]
  ·rw [h,Q4J,Q4I]
 ·exact Y3R a b k
theorem Q4m (a b:List F) (x:F):Q0n (Q1j a b) x=Q0n a x * Q0n b x:=by
 unfold Q1j
 split
 ·rename_i h
  rcases h with h|h
  ·rw [h];simp only [Q0n,Q7y]
  ·rw [h];simp only [Q0n,Q4I]
 ·exact Z8K a b x
theorem Z3B {a b:List F} (ha:Q0w a=a) (hb:Q0w b=b):Q0w (Q1j a b)=Q1j a b:=by
 unfold Q1j
 split
 ·rfl
 ·rename_i h
  exact Z4R ha hb (fun e=>h (.inr e))
def Z8N (a b:List F) (k j i:Nat):F:=Q1r k (fun p=>if p<=i then co a p * co b (i - p) else 0)+(if k<=i/\i<k+j then co a k * co b (i - k) else 0)
def Z3s (a b:List F) (k j:Nat):List F:=(List.range (a.length+b.length - 1)).map (Z8N a b k j)
theorem Z0b (a b:List F) (k j:Nat):(Z3s a b k j).length=a.length+b.length - 1:=by simp [Z3s]
theorem Z6i (a b:List F) (k j:Nat) {i:Nat} (hi:i<a.length+b.length - 1):(Z3s a b k j)[i]? =some (Z8N a b k j i):=by simp [Z3s,hi]
theorem Z8O (a b:List F):Z3s a b 0 0=List.replicate (a.length+b.length - 1) 0:=by
 apply List.ext_getElem
 ·simp [Z3s]
 ·intro i h1 h2
  simp only [Z3s,List.getElem_map,List.getElem_range,List.getElem_replicate,Z8N,Q1r]
  rw [if_neg (by omega),Q6b]
theorem Z8P (a b:List F) (k:Nat):Z3s a b k b.length=Z3s a b (k+1) 0:=by
 unfold Z3s
 apply List.map_congr_left
 intro i _
 unfold Z8N
 rw [Q1r,if_neg (c:=k+1<=i/\i<k+1+0) (by omega),Q6b]
 congr 1
 by_cases h:k<=i
 ·rw [if_pos h]
  by_cases h2:i<k+b.length
  ·rw [if_pos ⟨h,h2⟩]
  ·rw [if_neg (by omega),Q0t (l:=b) (by omega),Q4I]
 ·rw [if_neg h,if_neg (by omega)]
theorem Y1C (a b:List F) (k j:Nat):(Z3s a b k j).set (k+j) (Z8N a b k j (k+j)+co a k * co b j)=Z3s a b k (j+1):=by
 apply List.ext_getElem
 ·simp [Z3s]
 ·intro i h1 h2
  rw [List.getElem_set]
  simp only [Z3s,List.getElem_map,List.getElem_range]
  by_cases hi:k+j=i
  ·subst hi
   rw [if_pos rfl]
   unfold Z8N
   rw [if_neg (c:=k<=k+j/\k+j<k+j) (by omega),if_pos (c:=k<=k+j/\k+j<k+(j+1)) (by omega),show k+j - k=j by omega,Q6b]
  ·rw [if_neg hi]
   unfold Z8N
   congr 1
   by_cases h:k<=i/\i<k+j
   ·rw [if_pos h,if_pos (by omega)]
   ·rw [if_neg h,if_neg (by omega)]
theorem Z8Q (a b:List F) (ha:a≠ []) (hb:b≠ []):Z3s a b a.length 0=Q1j a b:=by
 have hla:=List.length_pos_iff.2 ha
 have hlb:=List.length_pos_iff.2 hb
 apply Q3E
 ·rw [Z0b,Q2c,if_neg (by simp [ha,hb])]
 ·intro i
  rw [Q3W]
  rcases Nat.lt_or_ge i (a.length+b.length - 1) with h|h
  ·rw [Q2q (Z6i a b a.length 0 h)]
   unfold Z8N
   rw [if_neg (by omega),Q6b]
   rcases Nat.lt_or_ge i a.length with h1|h1
   ·rw [Q9Z (n:=i+1) (m:=a.length) (by omega) (fun p hp _=>by rw [if_neg (by omega)])]
    exact Q0z fun p hp=>by rw [if_pos (by omega)]
   ·rw [Q9Z (n:=a.length) (m:=i+1) (by omega) (fun p hp _=>by rw [Q0t (l:=a) hp,Q7y])]
    exact Q0z fun p hp=>by rw [if_pos (by omega)]
  ·rw [Q0t (by rw [Z0b];exact h),Q2i]
   intro p hp
   rcases Nat.lt_or_ge p a.length with h1|h1
   ·rw [Q0t (l:=b) (by omega),Q4I]
   ·rw [Q0t (l:=a) h1,Q7y]
end Croft
namespace Go.Proofs.YtploomncapiloaaGreatDoor
def Y1D (x y:Int):Int:=x/2^y.toNat
theorem Z0c {x:Int} (h:0<=x) (y:Int):0<=Y1D x y:=Int.ediv_nonneg h (Int.pow_nonneg (by omega))
section
variable {P :Program} {ops:Array Oper} {rest:List Oper} {Q:Exit->Act->World->Prop} {a:Act} {w:World} {o:Oper}
theorem Y4w (k:IntKind) (t:TypeId) (x y:Int) (h0:0<=y) (h1:y<=63) (hk:k.bits=64):
  (binOp .shr t (.int k x) (.int .i64 y)).run P w= .ok (.int k (Y1D x y)) w:=by
 simp only [binOp,shift_shr_any _ _ _ _ h0,hk]
 rw [show min y.toNat 64=y.toNat by omega]
 rfl
theorem Q6L (k:IntKind) (t ty:TypeId) (s z:Operand) (x y:Int) (hgd:o.guard=none) (ho:o.op= .binOp .shr t s z ty) (hs:a.eval s= .int k x) (hz:a.eval z= .int .i64 y)
  (h0:0<=y) (h1:y<=63) (hk:k.bits=64) (h:wpList P ops Q rest (a.put o.dst (.int k (Y1D x y))) w):wpList P ops Q (o::rest) a w:=by
 refine wpList_plain hgd fun K hK=> ?_
 unfold Oper.wp execOp
 have hr:=Y4w (P:=P) (w:=w) k t x y h0 h1 hk
 simp [ho,hs,hz,eqGuard,hr]
 exact hK _ _ h
theorem Y4x (t:TypeId) (x y:Int) (h0:0<=x) (h1:1<=y) (hx:x<18446744073709551616):(binOp .quo t (.int .u64 x) (.int .u64 y)).run P w= .ok (.int .u64 (x/y)) w:=by
 have hd:x.tdiv y=x/y:=Int.tdiv_eq_ediv_of_nonneg h0
 have h2:0<=x/y:=Int.ediv_nonneg h0 (by omega)
 have h3:x/y<=x:=Int.ediv_le_self _ h0
 have hw:IntKind.u64.wrap (x/y)=x/y:=by rw [IntKind.wrap_u64];exact Int.emod_eq_of_lt h2 (by omega)
 have hy: ¬y=0:=by omega
 simp [binOp,Op.intDiv,hy,hd,hw]
theorem Z6X (t ty:TypeId) (s z:Operand) (x y q:Int) (hgd:o.guard=none) (ho:o.op= .binOp .quo t s z ty) (hs:a.eval s= .int .u64 x) (hz:a.eval z= .int .u64 y)
  (h0:0<=x) (h1:1<=y) (hx:x<18446744073709551616) (hq:x/y=q) (h:wpList P ops Q rest (a.put o.dst (.int .u64 q)) w):wpList P ops Q (o::rest) a w:=by
 subst hq
 refine wpList_plain hgd fun K hK=> ?_
 unfold Oper.wp execOp
 have hr:=Y4x (P:=P) (w:=w) t x y h0 h1 hx
 simp [ho,hs,hz,eqGuard,hr]
 exact hK _ _ h
end
end Go.Proofs.YtploomncapiloaaGreatDoor
