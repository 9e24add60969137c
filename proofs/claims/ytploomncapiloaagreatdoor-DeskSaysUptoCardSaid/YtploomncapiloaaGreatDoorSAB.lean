/- Parts of the proof, put together by a program: FieldW Tail. No condition. -/
import Derived.Test.YtploomncapiloaaGreatDoorSAA
import Derived.BigQuiet
import Derived.Deep.QuietTactic
import Derived.Lib.Hide
import Derived.StillTail
import Derived.Test.YtploomncapiloaaGreatDoorProg
set_option maxRecDepth 100000
set_option maxHeartbeats 8000000
namespace Go.Proofs.YtploomncapiloaaGreatDoor
open Go.RowKit Croft
theorem Q4W {k:IntKind} {a b:Int} (h:a=b):Ending.returned (.int k a)= .returned (.int k b):=by rw [h]
theorem Q1f (a:Int) (w:World) (ha:0<=a):
  Calls Tryz.prog 148 #[.int .u64 a] w fun e w'=>e= .returned (.int .u64 (ofF (toF a)))/\w=w':=by
 rw [Q3C,Z2w]
 go_enter Tryz.func148,Tryz.ntmps148
 go_wp2
 go_ret
 exact ⟨rfl,rfl⟩
theorem Y1E (a b:F):(ofF a+ofF b) % 2147483647=ofF (a+b):=by
 rw [<-Q0m a,<-Q0m b,<-Q8J,Q0m,Q0m,Q3C,Z2w];rfl
theorem Y1F (a b:F):(ofF a+2147483647 - ofF b) % 2147483647=ofF (a - b):=by
 rw [<-Q0m a,<-Q0m b,<-Z4P,Q0m,Q0m,Q3C,Z2w]
 have:((2147483647:Nat):Int)=2147483647:=rfl
 rw [this];omega
theorem Y1G (a b:F):(ofF a * ofF b) % 2147483647=ofF (a * b):=by
 rw [<-Q0m a,<-Q0m b,<-Z8J,Q0m,Q0m,Q3C,Z2w];rfl
theorem Y1H (a b:F):0<=ofF a * ofF b/\ofF a * ofF b<=4611686009837453316:=by
 have h1:=Q0i a;have h2:=Q2M a;have h3:=Q0i b;have h4:=Q2M b
 refine ⟨Int.mul_nonneg h1 h3, ?_⟩
 have:=Int.mul_le_mul (a:=ofF a) (c:=2147483646) (b:=ofF b) (d:=2147483646) (by omega) (by omega) h3 (by omega)
 omega
theorem Q5A (a b:Int) (w:World) (ha:0<=a) (hb:0<=b):
  Calls Tryz.prog 152 #[.int .u64 a,.int .u64 b] w fun e w'=>e= .returned (.int .u64 (ofF (toF a+toF b)))/\w=w':=by
 have h1:=Q0i (toF a);have h2:=Q2M (toF a);have h3:=Q0i (toF b);have h4:=Q2M (toF b)
 go_enter Tryz.func152,Tryz.ntmps152
 go_wp2_with fail
 refine (Q1f _ _ ha).mono ?_
 rintro e w' ⟨rfl,rfl⟩
 go_wp2_with fail
 refine (Q1f _ _ hb).mono ?_
 rintro e w' ⟨rfl,rfl⟩
 go_wp2
 go_ret
 exact ⟨Q4W (Y1E _ _),rfl⟩
theorem Q4N (a b:Int) (w:World) (ha:0<=a) (hb:0<=b):
  Calls Tryz.prog 157 #[.int .u64 a,.int .u64 b] w fun e w'=>e= .returned (.int .u64 (ofF (toF a - toF b)))/\w=w':=by
 have h1:=Q0i (toF a);have h2:=Q2M (toF a);have h3:=Q0i (toF b);have h4:=Q2M (toF b)
 go_enter Tryz.func157,Tryz.ntmps157
 go_wp2_with fail
 refine (Q1f _ _ ha).mono ?_
 rintro e w' ⟨rfl,rfl⟩
 go_wp2_with fail
 refine (Q1f _ _ hb).mono ?_
 rintro e w' ⟨rfl,rfl⟩
 go_wp2
 go_ret
 exact ⟨Q4W (Y1F _ _),rfl⟩
theorem Q1t (a b:Int) (w:World) (ha:0<=a) (hb:0<=b):
  Calls Tryz.prog 153 #[.int .u64 a,.int .u64 b] w fun e w'=>e= .returned (.int .u64 (ofF (toF a * toF b)))/\w=w':=by
 obtain ⟨h1,h2⟩:=Y1H (toF a) (toF b)
 go_enter Tryz.func153,Tryz.ntmps153
 go_wp2_with fail
 refine (Q1f _ _ ha).mono ?_
 rintro e w' ⟨rfl,rfl⟩
 go_wp2_with fail
 refine (Q1f _ _ hb).mono ?_
 rintro e w' ⟨rfl,rfl⟩
 go_wp2
 go_ret
 exact ⟨Q4W (Y1G _ _),rfl⟩
def Z4S (a:F) (n:Int):F:=a^n.toNat
def Y3S (a:F):Int:=if a=0 then 1 else 0
theorem Y1I (a:F):Z4S a 2147483645=inv a:=rfl
def U64 (n:Int):Prop:=0<=n/\n<18446744073709551616
theorem and_one {n:Int} (h:U64 n):bits .and .u64 n 1=n % 2:=by
 rw [u64_and n 1 h.1 h.2 (by omega) (by omega)]
 have:(1:Int).toNat=1:=rfl
 rw [this,Nat.and_one_is_mod]
 have:=h.1
 omega
theorem U64.half {n:Int} (h:U64 n):U64 (n/2):=by unfold U64 at *;omega
theorem Y1J {u:F} {k:Int} (hk:0<=k) (h1:k % 2=0):Z4S (u * u) (k/2)=Z4S u k:=by
 unfold Z4S
 have:k.toNat=(k/2).toNat+(k/2).toNat:=by omega
 rw [this,pow_add,Z8M]
theorem pow_odd {u:F} {k:Int} (hk:0<=k) (h1:k % 2=1):u * Z4S (u * u) (k/2)=Z4S u k:=by
 unfold Z4S
 have:k.toNat=((k/2).toNat+(k/2).toNat)+1:=by omega
 rw [this,pow_succ,pow_add,Z8M];grind
theorem Q9L (a n:Int) (w:World) (ha:0<=a) (hn:U64 n):
  Calls Tryz.prog 199 #[.int .u64 a,.int .u64 n] w fun e w'=>e= .returned (.int .u64 (ofF (Z4S (toF a) n)))/\w=w':=by
 go_enter Tryz.func199,Tryz.ntmps199
 go_wp2_with fail
 refine (Q1f _ _ ha).mono ?_
 rintro e w' ⟨rfl,rfl⟩
 go_wp2_with fail
 go_loop [0,1,5] (fun x i o=> ∃(u v:F) (k:Int),U64 k/\x= .int .u64 (ofF u)/\i= .int .u64 k/\o= .int .u64 (ofF v)/\v * Z4S u k=Z4S (toF a) n) (fun _ i _=>(intOf i).toNat)
 case atStart=>exact ⟨toF a,1,n,hn,rfl,rfl,rfl,Y3P _⟩
 case round=>
  obtain ⟨u,v,k,hk,rfl,rfl,rfl,hr⟩:=hrel
  have H:=Qh hr
  clear hr
  have hk0:=hk.1
  rcases (show k=0∨(0<k/\k % 2=0)∨k % 2=1 by omega) with h0|⟨hp,h0⟩|h0
  ·subst h0
   go_wp2_with fail
   go_ret
   have h:=H.out
   rw [show Z4S u 0=1 from Croft.pow_zero u,Z4O] at h
   exact ⟨Q4W (by rw [h]),rfl⟩
  ·have hb:bits .and .u64 k 1=0:=by rw [and_one hk,h0]
   have HA:=Qh h0
   clear h0
   go_wp2_with fail
   refine (Q1t _ _ _ (Q0i _) (Q0i _)).mono ?_
   rintro e w' ⟨rfl,rfl⟩
   go_wp2_with fail
   simp only [Q0m]
   refine ⟨⟨u * u,v,k/2,hk.half,rfl,rfl,rfl, ?_⟩,by simp [intOf];omega⟩
   rw [<-H.out,Y1J hk0 HA.out]
  ·have hb:bits .and .u64 k 1=1:=by rw [and_one hk,h0]
   have hp:0<k:=by omega
   have HA:=Qh h0
   clear h0
   go_wp2_with fail
   refine (Q1t _ _ _ (Q0i _) (Q0i _)).mono ?_
   rintro e w' ⟨rfl,rfl⟩
   go_wp2_with fail
   refine (Q1t _ _ _ (Q0i _) (Q0i _)).mono ?_
   rintro e w' ⟨rfl,rfl⟩
   go_wp2_with fail
   simp only [Q0m]
   refine ⟨⟨u * u,v * u,k/2,hk.half,rfl,rfl,rfl, ?_⟩,by simp [intOf];omega⟩
   rw [<-H.out,<-pow_odd hk0 HA.out];grind
theorem Q9M (a:Int) (w:World) (ha:0<=a):
  Calls Tryz.prog 181 #[.int .u64 a] w fun e w'=>e= .returned (.tuple #[.int .u64 (ofF (inv (toF a))),.int .i64 (Y3S (toF a))])/\w=w':=by
 by_cases h:toF a=0
 ·have h0:ofF (toF a)=0:=by rw [h];rfl
  have h1:Y3S (toF a)=1:=by rw [h];rfl
  have h2:ofF (inv (toF a))=0:=by rw [h,Q7X];rfl
  rw [h1,h2]
  clear h h1 h2
  go_enter Tryz.func181,Tryz.ntmps181
  go_wp2_with fail
  refine (Q1f _ _ ha).mono ?_
  rintro e w' ⟨rfl,rfl⟩
  rw [h0]
  go_wp2_with fail
  go_ret2
  exact ⟨rfl,rfl⟩
 ·have h0:(ofF (toF a)==0)=false:=by rw [beq_eq_false_iff_ne];exact fun hh=>h (Q5x hh)
  have h1:Y3S (toF a)=0:=by unfold Y3S;rw [if_neg h]
  rw [h1]
  clear h h1
  go_enter Tryz.func181,Tryz.ntmps181
  go_wp2_with fail
  refine (Q1f _ _ ha).mono ?_
  rintro e w' ⟨rfl,rfl⟩
  try dsimp only
  go_wp2_with fail
  refine (Q9L _ _ _ ha ⟨by omega,by omega⟩).mono ?_
  rintro e w' ⟨rfl,rfl⟩
  try dsimp only
  go_wp2_with fail
  go_ret2
  exact ⟨by rw [Y1I];rfl,rfl⟩
def Y1K (b:F) (k:Int):F:=toF (ofF b/2^k.toNat)
theorem Y5w (b:F):Y1K b 0=b:=by
 unfold Y1K
 rw [show ((2:Int)^(0:Int).toNat)=1 from rfl,Int.ediv_one,Q0m]
theorem Y4y (b:F):Y1K b (30+1)=0:=by
 unfold Y1K
 rw [show ((2:Int)^(30+1:Int).toNat)=2147483648 from rfl,Int.ediv_eq_zero_of_lt (Q0i b) (by have:=Q2M b;omega),Q1G]
theorem Z8R (b:F) (k:Int) (hk:0<=k):Y1K b k=Y1K b (k+1)+Y1K b (k+1)+toF (ofF b/2^k.toNat % 2):=by
 unfold Y1K
 rw [show (k+1).toNat=k.toNat+1 by omega,Int.pow_succ,<-Int.ediv_ediv_of_nonneg (by exact Int.pow_nonneg (by omega)),<-Q8J,<-Q8J]
 congr 1
 omega
theorem Q1i (a:Int) (w:World) (ha:U64 a):
  Calls Tryz.prog 83 #[.int .u64 a] w fun e w'=>e= .returned (.int .u64 (ofF (toF a)))/\w=w':=by
 rw [Q3C,Z2w]
 obtain ⟨h1,h2⟩:=ha
 have h3:0<=a/2147483647 * 2147483647:=by omega
 have h4:a/2147483647 * 2147483647<=a:=by omega
 go_enter Tryz.func83,Tryz.ntmps83
 go_wp2
 go_ret
 have hP:((2147483647:Nat):Int)=2147483647:=rfl
 exact ⟨Q4W (by rw [hP];omega),rfl⟩
theorem U64.of_ofF (a:F):U64 (ofF a):=by have:=Q0i a;have:=Q2M a;unfold U64;omega
theorem Z4T (u v:F):toF (ofF u+ofF v)=u+v:=by rw [Q8J,Q0m,Q0m]
theorem Q2C (a b:Int) (w:World) (ha:U64 a) (hb:U64 b):
  Calls Tryz.prog 167 #[.int .u64 a,.int .u64 b] w fun e w'=>e= .returned (.int .u64 (ofF (toF a+toF b)))/\w=w':=by
 have h1:=Q0i (toF a);have h2:=Q2M (toF a);have h3:=Q0i (toF b);have h4:=Q2M (toF b)
 go_enter Tryz.func167,Tryz.ntmps167
 go_wp2_with fail
 refine (Q1i _ _ ha).mono ?_
 rintro e w' ⟨rfl,rfl⟩
 try dsimp only
 go_wp2_with fail
 refine (Q1i _ _ hb).mono ?_
 rintro e w' ⟨rfl,rfl⟩
 try dsimp only
 go_wp2_with fail
 refine (Q1i _ _ ⟨by omega,by omega⟩).mono ?_
 rintro e w' ⟨rfl,rfl⟩
 try dsimp only
 go_wp2_with fail
 go_ret
 exact ⟨Q4W (by rw [Z4T]),rfl⟩
theorem Q9N (a:Int) (w:World) (ha:U64 a):
  Calls Tryz.prog 171 #[.int .u64 a] w fun e w'=>e= .returned (.int .u64 (ofF (- toF a)))/\w=w':=by
 have h1:=Q0i (toF a);have h2:=Q2M (toF a)
 go_enter Tryz.func171,Tryz.ntmps171
 go_wp2_with fail
 refine (Q1i _ _ ha).mono ?_
 rintro e w' ⟨rfl,rfl⟩
 try dsimp only
 go_wp2_with fail
 refine (Q1i _ _ ⟨by omega,by omega⟩).mono ?_
 rintro e w' ⟨rfl,rfl⟩
 try dsimp only
 go_wp2_with fail
 go_ret
 exact ⟨Q4W (by rw [Z4P,Q0m,show toF 2147483647=0 from Q5x (by rw [Q3C];rfl)];grind),rfl⟩
theorem Q3k (a b:Int) (w:World) (ha:U64 a) (hb:U64 b):
  Calls Tryz.prog 168 #[.int .u64 a,.int .u64 b] w fun e w'=>e= .returned (.int .u64 (ofF (toF a * toF b)))/\w=w':=by
 go_enter Tryz.func168,Tryz.ntmps168
 go_wp2_with fail
 refine (Q1i _ _ ha).mono ?_
 rintro e w' ⟨rfl,rfl⟩
 try dsimp only
 go_wp2_with fail
 refine (Q1i _ _ hb).mono ?_
 rintro e w' ⟨rfl,rfl⟩
 try dsimp only
 go_wp2_with fail
 have ha1:=Q0i (toF a);have ha2:=Q2M (toF a)
 have hp:=Q0i (toF b)
 go_loop [5,6] (fun o i=> ∃(u:F) (k:Int), -1<=k/\k<=30/\o= .int .u64 (ofF u)/\i= .int .i64 k/\u=toF a * Y1K (toF b) (k+1)) (fun _ i=>(intOf i+1).toNat)
 case atStart=>exact ⟨0,30,by omega,by omega,rfl,rfl,by rw [Y4y,Q4I]⟩
 case round=>
  obtain ⟨u,k,hk1,hk2,rfl,rfl,hr⟩:=hrel
  have H:=Qh hr
  clear hr
  by_cases hk:0<=k
  ·have h1:=Q0i u;have h2:=Q2M u
   have h3:=Q0i (u+u);have h4:=Q2M (u+u)
   have HS:=Qh (Z8R (toF b) k hk)
   go_wp2_with fail
   refine (Q1i _ _ ⟨by omega,by omega⟩).mono ?_
   rintro e w' ⟨rfl,rfl⟩
   rw [Z4T]
   have hn:=Z0c hp k
   have hb:Y1D (ofF (toF b)) k % 2=0∨Y1D (ofF (toF b)) k % 2=1:=by omega
   rcases hb with hb|hb
   ·go_wp2_with (refine Q6L .u64 _ _ _ _ _ k rfl rfl rfl rfl hk (by omega) rfl ?_)
    refine ⟨⟨u+u,k - 1,by omega,by omega,rfl,by go_num, ?_⟩,by simp [intOf];omega⟩
    have h:=HS.out
    rw [show k - 1+1=k by omega,h,H.out,show ofF (toF b)/2^k.toNat % 2=0 from hb,Q1G]
    grind
   ·go_wp2_with (refine Q6L .u64 _ _ _ _ _ k rfl rfl rfl rfl hk (by omega) rfl ?_)
    refine (Q1i _ _ ⟨by omega,by omega⟩).mono ?_
    rintro e w' ⟨rfl,rfl⟩
    rw [Z4T]
    go_wp2_with fail
    refine ⟨⟨u+u+toF a,k - 1,by omega,by omega,rfl,by go_num, ?_⟩,by simp [intOf];omega⟩
    have h:=HS.out
    rw [show k - 1+1=k by omega,h,H.out,show ofF (toF b)/2^k.toNat % 2=1 from hb,Q8K]
    grind
  ·go_wp2_with fail
   go_ret
   obtain rfl:k= -1:=by omega
   exact ⟨Q4W (by rw [H.out,show (-1:Int)+1=0 from rfl,Y5w]),rfl⟩
theorem Z4U {r m:Int} (hr:0<=r) (hm:0<=m):Int.gcd m (r - r/m * m)=Int.gcd r m:=by
 rw [show r - r/m * m=r % m by rw [Int.emod_def,Int.mul_comm]]
 obtain ⟨r,rfl⟩:=Int.eq_ofNat_of_zero_le hr
 obtain ⟨m,rfl⟩:=Int.eq_ofNat_of_zero_le hm
 rw [<-Int.natCast_emod,Int.gcd_natCast_natCast,Int.gcd_natCast_natCast,Nat.gcd_comm,<-Nat.gcd_rec,Nat.gcd_comm]
theorem Z3C (r n:Int) (hr:0<=r) (hn:0<n): ∃q,r/n=q/\0<=q * n/\q * n<=r/\r - q * n<n/\(0<=q/\q<=r)/\Int.gcd n (r - q * n)=Int.gcd r n:=
 ⟨r/n,rfl,Int.mul_nonneg (Int.ediv_nonneg hr (by omega)) (by omega),Int.ediv_mul_le r (by omega),by rw [show r - r/n * n=r % n by rw [Int.emod_def,Int.mul_comm]];exact Int.emod_lt_of_pos _ hn,
  ⟨Int.ediv_nonneg hr (by omega),Int.ediv_le_self _ hr⟩,Z4U hr (by omega)⟩
theorem Y5x :(2147483647:Int)=((P:Nat):Int):=rfl
theorem Y6c :toF 2147483647=0:=by rw [Z4Q];rfl
theorem Y6d {a:F} (h:a≠0):Int.gcd 2147483647 (ofF a)=1:=by
 have: ¬P ∣ a.val:=fun hd=>by
  have h1:=a.isLt
  rcases Nat.eq_zero_or_pos a.val with h2|h2
  ·exact h (Fin.ext h2)
  ·exact absurd (Nat.le_of_dvd h2 hd) (by omega)
 unfold ofF
 rw [Y5x,Int.gcd_natCast_natCast]
 exact Z8H this
theorem Y1L (a:Int) (w:World) (ha:U64 a):
  Calls Tryz.prog 189 #[.int .u64 a] w fun e w'=>e= .returned (.int .u64 (ofF (inv (toF a))))/\w=w':=by
 by_cases h:toF a=0
 ·have h0:ofF (toF a)=0:=by rw [h];rfl
  have h2:ofF (inv (toF a))=0:=by rw [h,Q7X];rfl
  rw [h2]
  clear h h2
  go_enter Tryz.func189,Tryz.ntmps189
  go_wp2_with fail
  refine (Q1i _ _ ha).mono ?_
  rintro e w' ⟨rfl,rfl⟩
  rw [h0]
  go_wp2_with fail
  go_loop [4,5] (fun n x=>n= .int .u64 0/\x= .int .u64 0) (fun _ _=>0)
  case atStart=>exact ⟨rfl,rfl⟩
  case round=>
   obtain ⟨rfl,rfl⟩:=hrel
   go_wp2_with fail
   go_ret
   exact ⟨rfl,rfl⟩
 ·have hg:=Y6d h
  have h1:=Q0i (toF a);have h2:=Q2M (toF a)
  have HG:=Qh hg
  clear h hg
  go_enter Tryz.func189,Tryz.ntmps189
  go_wp2_with fail
  refine (Q1i _ _ ha).mono ?_
  rintro e w' ⟨rfl,rfl⟩
  try dsimp only
  go_wp2_with fail
  go_loop [3,4,5,6] (fun r n x t=> ∃(r' n':Int) (x' t':F),0<=n'/\n'<r'/\r'<=2147483647/\r= .int .u64 r'/\n= .int .u64 n'/\x= .int .u64 (ofF x')/\t= .int .u64 (ofF t')/\Int.gcd r' n'=1/\x' * toF a=toF r'/\t' * toF a=toF n') (fun _ n _ _=>(intOf n).toNat)
  case atStart=>exact ⟨2147483647,ofF (toF a),0,1,h1,h2,by omega,rfl,rfl,rfl,rfl,HG.out,by rw [Q7y,Y6c],by rw [Y3P,Q0m]⟩
  case round=>
   obtain ⟨r,n,x,t,h3,h4,h5,rfl,rfl,rfl,rfl,hg,hx,ht⟩:=hrel
   have HG:=Qh hg
   have HX:=Qh hx
   have HT:=Qh ht
   clear hg hx ht
   by_cases hn:n=0
   ·subst hn
    go_wp2_with fail
    go_ret
    refine ⟨Q4W ?_,rfl⟩
    have hr:r=1:=by have:=HG.out;rw [Int.gcd_zero_right] at this;omega
    have:=HX.out
    rw [hr,Q8K] at this
    rw [Q6I (a:=toF a) (b:=x) (by grind)]
   ·have hp:0<n:=by omega
    have h1n:1<=n:=by omega
    have hr0:0<=r:=by omega
    have hne:(n !=0)=true:=by rw [bne_iff_ne];omega
    clear hn
    obtain ⟨q,hq,hq1,hq2,hq3,hq0,hstep⟩:=Z3C r n hr0 hp
    have HQ:=Qh hq
    have HE:=Qh hstep
    clear hq hstep
    go_wp2_with (refine Z6X _ _ _ _ r n q rfl rfl rfl rfl hr0 h1n (by omega) HQ.out ?_)
    refine (Q3k _ _ _ ⟨by omega,by omega⟩ (U64.of_ofF _)).mono ?_
    rintro e w' ⟨rfl,rfl⟩
    go_wp2_with fail
    refine (Q9N _ _ (U64.of_ofF _)).mono ?_
    rintro e w' ⟨rfl,rfl⟩
    try dsimp only
    go_wp2_with fail
    refine (Q2C _ _ _ (U64.of_ofF _) (U64.of_ofF _)).mono ?_
    rintro e w' ⟨rfl,rfl⟩
    simp only [Q0m]
    go_wp2_with fail
    refine ⟨⟨n,r - q * n,t,_,by omega,by omega,by omega,rfl,rfl,rfl,rfl,by rw [HE.out];exact HG.out,HT.out, ?_⟩,by simp [intOf];omega⟩
    have hx:=HX.out;have ht:=HT.out
    rw [Z4P,Z8J,<-hx,<-ht]
    grind
section
variable {P :Program} {ops:Array Oper} {md:Region.Mode} {C:World->Prop}
def Q4r (P:Program) (md:Region.Mode) (ops:Array Oper) (C:World->Prop) (n:Nat) (L:Array Bool->Act->Prop):Nat->Array Bool->Act->Prop
 |0,listed,a=>L listed a
 |f+1,listed,a=>
  Region.ready md ops listed≠ []/\ ∀i∈Region.ready md ops listed,i<n/\qOp P ops C i (Q4r P md ops C n L f (listed.setIfInBounds i true)) a
theorem Q3L {n g:Nat} {L:Array Bool->Act->Prop} {Q':Exit->Act->World->Prop} (hL: ∀listed a w,C w->L listed a->wpAny P md ops Q' g listed a w):
  ∀(f:Nat) (listed:Array Bool) (a:Act) (w:World),C w->Q4r P md ops C n L f listed a->wpAny P md ops Q' (f+g) listed a w
 |0,listed,a,w,hw,h=>by rw [Nat.zero_add];exact hL _ _ _ hw h
 |f+1,listed,a,w,hw,h=>by
  rw [show f+1+g=(f+g)+1 by omega]
  exact ⟨fun h0=>absurd h0 h.1,fun i hi=>wpOp_of_qOp hw (fun a' w' hw' h'=>Q3L hL f _ a' w' hw' h') (h.2 i hi).2⟩
theorem Z2x {n i:Nat} {oi:Oper} {v:Value} {L:Array Bool->Act->Prop} (hi:ops[i]? =some oi) (hsel: ∀(j:Nat) (o:Oper) cs b,ops[j]? =some o->o.op≠ .select cs b)
  (hs:Region.sinkB md ops n=true) (hc:Region.chainB md ops n=true) (hn:n<ops.size) (hin:i<n)
  (hdone: ∀listed a,L listed a-> ∀j∈Region.ready md ops listed,n<=j):
  ∀(f:Nat) (listed:Array Bool) (a:Act),HeadInv md ops n listed->
   (∀j oj,ops[j]? =some oj->j≠i->listed.getD j true=false->(∀e∈oj.after,Region.binds md e=true->e.on≠i)->oi.apart ops oj=true)->
   i∈Region.ready md ops listed->YieldsIn P ops C oi v a->
   Q4r P md ops C n L f (listed.setIfInBounds i true) (a.put oi.dst v)->Q4r P md ops C n L (f+1) listed a:=by
 intro f
 induction f with
 |zero=>
  intro listed a inv _ hr hy H
  have hun:=(mem_ready.1 hr).1
  refine ⟨fun h=>(by rw [h] at hr;cases hr),fun j hj=> ?_⟩
  have hjn:j<n:=by
   rcases Nat.lt_or_ge j n with h|h
   ·exact h
   ·exact absurd hj (tail_waits hs hc hn inv _ i rfl hin hun j h)
  refine ⟨hjn, ?_⟩
  by_cases hji:j=i
  ·subst hji;exact hy.qOp hi H
  ·have:=hdone _ _ H j (ready_mono hj hji)
   omega
 |succ f ih=>
  intro listed a inv hfree hr hy H
  have hun:=(mem_ready.1 hr).1
  refine ⟨fun h=>(by rw [h] at hr;cases hr),fun j hj=> ?_⟩
  have hjn:j<n:=by
   rcases Nat.lt_or_ge j n with h|h
   ·exact h
   ·exact absurd hj (tail_waits hs hc hn inv _ i rfl hin hun j h)
  refine ⟨hjn, ?_⟩
  by_cases hji:j=i
  ·subst hji;exact hy.qOp hi H
  ·have h1:=(H.2 j (ready_mono hj hji)).2
   obtain ⟨hjun,oj,hoj,hall⟩:=mem_ready.1 hj
   have hnot: ∀e∈oj.after,Region.binds md e=true->e.on≠i:=fun e he hb heq=>by
    have h1:=hall e he hb
    rw [heq,getD_both hun] at h1
    cases h1
   have h2:=qOp_put hoj (hfree j oj hoj hji hjun hnot) (fun cs b=>hsel i oi cs b hi) (fun cs b=>hsel j oj cs b hoj) hy h1
   have hfree': ∀k ok,ops[k]? =some ok->k≠i->(listed.setIfInBounds j true).getD k true=false->
     (∀e∈ok.after,Region.binds md e=true->e.on≠i)->oi.apart ops ok=true:=fun k ok hk hki hun hno=>by
    refine hfree k ok hk hki ?_ hno
    by_cases hjk:j=k
    ·subst hjk;exact hjun
    ·rw [getD_set_ne true hjk] at hun;exact hun
   refine qOp_mono (fun a' h3=>ih (listed.setIfInBounds j true) a' (inv.set hj hjn) hfree' (ready_mono hr (Ne.symm hji)) h3.1 ?_) h2
   rw [Array.setIfInBounds_comm _ _ hji]
   exact h3.2
theorem Z0d {n g:Nat} {Lq:Act->Prop} (hsel:Region.noSelect ops=true) (hs:Region.sinkB md ops n=true) (hc:Region.chainB md ops n=true) (hn:n<ops.size):
  ∀(l:List Oper) (k:Nat) (listed:Array Bool) (a:Act),(∀j,j<l.length->l[j]? =ops[k+j]?)->k+l.length=n->HeadInv md ops n listed->
  Region.lexHead md ops g l.length k listed=true->wpQuiet P ops C Lq l a->
  Q4r P md ops C n (fun listed' a'=>Region.seqB md ops g n listed'=true/\Lq a') l.length listed a
 | [],k,listed,a,_,hk,_,hB,h=>by
  have:k=n:=by simpa using hk
  subst this
  exact ⟨by simpa [Region.lexHead] using hB,h⟩
 |o::l,k,listed,a,hl,hk,inv,hB,h=>by
  have h0:ops[k]? =some o:=by simpa using (hl 0 (by simp)).symm
  simp only [List.length_cons,Region.lexHead,Bool.and_eq_true] at hB
  obtain ⟨⟨hr,hf⟩,hB'⟩:=hB
  have hkn:k<n:=by simp only [List.length_cons] at hk;omega
  have hr':k∈Region.ready md ops listed:=by simpa using hr
  have hst:qOp P ops C k (wpQuiet P ops C Lq l) a:=by unfold qOp;simp only [h0];exact h
  obtain ⟨v,hy,hK⟩:=yieldsIn_of_qOp h0 hst
  exact Z2x h0 (Region.noSelect_spec hsel) hs hc hn hkn (fun listed' a' hL=>seqB_ready hL.1) l.length listed a inv (Region.free_spec h0 hf) hr' hy
   (Z0d hsel hs hc hn l (k+1) _ _ (fun j hj=>by have:=hl (j+1) (by simp;omega);simpa [Nat.add_assoc,Nat.add_comm 1 j] using this) (by simp only [List.length_cons] at hk;omega) (inv.set hr' hkn) hB' hK)
theorem Q0D {id:Nat} {Q:Exit->Act->World->Prop} {a:Act} {w:World} {l:List Oper} (n:Nat) (hm:P.follows .mixedOrders=true) (hB:Region.lexTailB .any l.toArray n=true)
  (h:wpQuiet P l.toArray (fun w'=> ∃n,w'=w.drewN n) (fun a'=> ∀nq,wpList P l.toArray Q (l.drop n) a' (w.drewN nq)) (l.take n) a):(Code.region id l.toArray true).wp P Q a w:=by
 simp only [Region.lexTailB,Bool.and_eq_true,decide_eq_true_eq] at hB
 obtain ⟨⟨⟨⟨hsel,hn⟩,hs⟩,hc⟩,hlex⟩:=hB
 have hn':n<l.length:=by simpa using hn
 have htl:(l.take n).length=n:=by simp;omega
 have hdl:(l.drop n).length=l.toArray.size - n:=by simp
 have inv0:HeadInv .any l.toArray n (Array.replicate l.toArray.size false):=
  ⟨by simp,fun j oj _ hl=>(by rw [getD_replicate_false] at hl;cases hl),fun t _ ht=>getD_in (by simpa using ht) (getD_replicate_false _ _)⟩
 have H:=Z0d (md:= .any) (g:=l.toArray.size - n) hsel hs hc hn (l.take n) 0 _ a (fun j hj=>by
  have hj':j<n:=by rw [htl] at hj;exact hj
  simp [hj']) (by simpa using htl) inv0 (by rw [htl];exact hlex) h
 refine wp_region_any hm ?_
 have:=Q3L (Q':=Q) (g:=l.toArray.size - n) (fun listed a' w' hw' hL=>by
  obtain ⟨nq,rfl⟩:=hw'
  have:=wpAny_of_seq (md:= .any) (Q':=Q) (l.drop n) n listed a' (w.drewN nq) (fun j=>by simp [List.getElem?_drop]) (by rw [hdl];exact hL.1) (hL.2 nq)
  rwa [hdl] at this) _ _ _ {w with drawn:=w.drawn+1} ⟨1,rfl⟩ H
 rw [htl,show n+(l.toArray.size - n)=l.toArray.size by omega] at this
 exact this
def Q9O (md:Region.Mode) (ops:Array Oper) (m n:Nat):Bool:=
 (List.range n).all fun i=>decide (i<m)||(List.range (n+1)).any fun j=>decide (i<j) && Region.waitsFor md ops j i
theorem Z0e {m n:Nat} {listed:Array Bool} (hs:Q9O md ops m n=true) (hc:Region.chainB md ops n=true) (hn:n<ops.size) (inv:HeadInv md ops n listed):
  ∀(d i:Nat),n - i=d->i<n->m<=i->listed.getD i true=false-> ∀t,n<=t->t∉Region.ready md ops listed:=by
 intro d
 induction d using Nat.strongRecOn with
 |_ d ih=>
  intro i hd hi hmi hun t ht hr
  obtain ⟨_,ot,hot,hall⟩:=mem_ready.1 hr
  have htlt:t<ops.size:=(Array.getElem?_eq_some_iff.1 hot).1
  by_cases htn:t=n
  ·subst htn
   have h1:=List.all_eq_true.1 hs i (List.mem_range.2 hi)
   simp only [Bool.or_eq_true,decide_eq_true_eq] at h1
   have h1:=h1.resolve_left (by omega)
   obtain ⟨j,hj,hj2⟩:=List.any_eq_true.1 h1
   simp only [Bool.and_eq_true,decide_eq_true_eq] at hj2
   obtain ⟨oj,hoj,e,he,hb,hon⟩:=Region.waitsFor_spec hj2.2
   have hjle:j<=t:=by have:=List.mem_range.1 hj;omega
   by_cases hjt:j=t
   ·subst hjt
    have:oj=ot:=Option.some.inj (hoj.symm.trans hot)
    subst this
    have h2:=hall e he hb
    rw [hon,getD_both hun] at h2
    cases h2
   ·cases hl:listed.getD j false with
    |true=>
     have h2:=inv.closed j oj hoj hl e he hb
     rw [hon,getD_both hun] at h2
     cases h2
    |false=>
     have hjs:j<listed.size:=by rw [inv.size];omega
     exact ih (t - j) (by omega) j rfl (by omega) (by omega) (getD_in hjs hl) t (Nat.le_refl _) hr
  ·have h1:=List.all_eq_true.1 hc t (List.mem_range.2 htlt)
   simp only [Bool.or_eq_true,decide_eq_true_eq] at h1
   rcases h1 with h1|h1
   ·omega
   ·obtain ⟨o',ho',e,he,hb,hon⟩:=Region.waitsFor_spec h1
    have:o'=ot:=Option.some.inj (ho'.symm.trans hot)
    subst this
    have h2:=hall e he hb
    rw [hon,getD_both (inv.tail (t - 1) (by omega) (by omega))] at h2
    cases h2
theorem Z1u {m n i:Nat} {oi:Oper} {v:Value} {L:Array Bool->Act->Prop} (hi:ops[i]? =some oi) (hsel: ∀(j:Nat) (o:Oper) cs b,ops[j]? =some o->o.op≠ .select cs b)
  (hs:Q9O md ops m n=true) (hc:Region.chainB md ops n=true) (hn:n<ops.size) (hin:i<n) (him:m<=i)
  (hdone: ∀listed a,L listed a-> ∀j∈Region.ready md ops listed,n<=j):
  ∀(f:Nat) (listed:Array Bool) (a:Act),HeadInv md ops n listed->
   (∀j oj,ops[j]? =some oj->j≠i->listed.getD j true=false->(∀e∈oj.after,Region.binds md e=true->e.on≠i)->oi.apart ops oj=true)->
   i∈Region.ready md ops listed->YieldsIn P ops C oi v a->
   Q4r P md ops C n L f (listed.setIfInBounds i true) (a.put oi.dst v)->Q4r P md ops C n L (f+1) listed a:=by
 intro f
 induction f with
 |zero=>
  intro listed a inv _ hr hy H
  have hun:=(mem_ready.1 hr).1
  refine ⟨fun h=>(by rw [h] at hr;cases hr),fun j hj=> ?_⟩
  have hjn:j<n:=by
   rcases Nat.lt_or_ge j n with h|h
   ·exact h
   ·exact absurd hj (Z0e hs hc hn inv _ i rfl hin him hun j h)
  refine ⟨hjn, ?_⟩
  by_cases hji:j=i
  ·subst hji;exact hy.qOp hi H
  ·have:=hdone _ _ H j (ready_mono hj hji)
   omega
 |succ f ih=>
  intro listed a inv hfree hr hy H
  have hun:=(mem_ready.1 hr).1
  refine ⟨fun h=>(by rw [h] at hr;cases hr),fun j hj=> ?_⟩
  have hjn:j<n:=by
   rcases Nat.lt_or_ge j n with h|h
   ·exact h
   ·exact absurd hj (Z0e hs hc hn inv _ i rfl hin him hun j h)
  refine ⟨hjn, ?_⟩
  by_cases hji:j=i
  ·subst hji;exact hy.qOp hi H
  ·have h1:=(H.2 j (ready_mono hj hji)).2
   obtain ⟨hjun,oj,hoj,hall⟩:=mem_ready.1 hj
   have hnot: ∀e∈oj.after,Region.binds md e=true->e.on≠i:=fun e he hb heq=>by
    have h1:=hall e he hb
    rw [heq,getD_both hun] at h1
    cases h1
   have h2:=qOp_put hoj (hfree j oj hoj hji hjun hnot) (fun cs b=>hsel i oi cs b hi) (fun cs b=>hsel j oj cs b hoj) hy h1
   have hfree': ∀k ok,ops[k]? =some ok->k≠i->(listed.setIfInBounds j true).getD k true=false->
     (∀e∈ok.after,Region.binds md e=true->e.on≠i)->oi.apart ops ok=true:=fun k ok hk hki hun hno=>by
    refine hfree k ok hk hki ?_ hno
    by_cases hjk:j=k
    ·subst hjk;exact hjun
    ·rw [getD_set_ne true hjk] at hun;exact hun
   refine qOp_mono (fun a' h3=>ih (listed.setIfInBounds j true) a' (inv.set hj hjn) hfree' (ready_mono hr (Ne.symm hji)) h3.1 ?_) h2
   rw [Array.setIfInBounds_comm _ _ hji]
   exact h3.2
theorem Q9j {m n g:Nat} {Lq:Act->Prop} (hsel:Region.noSelect ops=true) (hs:Q9O md ops m n=true) (hc:Region.chainB md ops n=true) (hn:n<ops.size):
  ∀(l:List Oper) (k:Nat) (listed:Array Bool) (a:Act),(∀j,j<l.length->l[j]? =ops[k+j]?)->k+l.length=n->m<=k->HeadInv md ops n listed->
  Region.lexHead md ops g l.length k listed=true->wpQuiet P ops C Lq l a->
  Q4r P md ops C n (fun listed' a'=>Region.seqB md ops g n listed'=true/\Lq a') l.length listed a
 | [],k,listed,a,_,hk,_,_,hB,h=>by
  have:k=n:=by simpa using hk
  subst this
  exact ⟨by simpa [Region.lexHead] using hB,h⟩
 |o::l,k,listed,a,hl,hk,hm,inv,hB,h=>by
  have h0:ops[k]? =some o:=by simpa using (hl 0 (by simp)).symm
  simp only [List.length_cons,Region.lexHead,Bool.and_eq_true] at hB
  obtain ⟨⟨hr,hf⟩,hB'⟩:=hB
  have hkn:k<n:=by simp only [List.length_cons] at hk;omega
  have hr':k∈Region.ready md ops listed:=by simpa using hr
  have hst:qOp P ops C k (wpQuiet P ops C Lq l) a:=by unfold qOp;simp only [h0];exact h
  obtain ⟨v,hy,hK⟩:=yieldsIn_of_qOp h0 hst
  exact Z1u h0 (Region.noSelect_spec hsel) hs hc hn hkn hm (fun listed' a' hL=>seqB_ready hL.1) l.length listed a inv (Region.free_spec h0 hf) hr' hy
   (Q9j hsel hs hc hn l (k+1) _ _ (fun j hj=>by have:=hl (j+1) (by simp;omega);simpa [Nat.add_assoc,Nat.add_comm 1 j] using this) (by simp only [List.length_cons] at hk;omega) (by omega) (inv.set hr' hkn) hB' hK)
def moved (o:Oper) (a:Act):Value:=match o.op with| .move x=>a.eval x|_=>undef
def Q4s :List Oper->Act->Act
 | [],a=>a
 |o::l,a=>Q4s l (a.put o.dst (moved o a))
def marks :Nat->Nat->Array Bool->Array Bool
 |0,_,listed=>listed
 |m+1,k,listed=>marks m (k+1) (listed.setIfInBounds k true)
def Z6j (md:Region.Mode) (ops:Array Oper):List Oper->Nat->Array Bool->Bool
 | [],_,_=>true
 |o::l,k,listed=>o.guard.isNone && (match o.op with| .move _=>true|_=>false) && o.after.isEmpty && (Region.ready md ops listed).contains k && Region.free md ops listed k && Z6j md ops l (k+1) (listed.setIfInBounds k true)
theorem Z1W {Q:Exit->Act->World->Prop} (hsel:Region.noSelect ops=true) (hQ: ∀c (a:Act) d v w,Q (.panic c) (a.put (some d) v) w->Q (.panic c) a w) (fuel:Nat) (w:World):
  ∀(l:List Oper) (k:Nat) (listed:Array Bool) (a:Act),(∀j,j<l.length->l[j]? =ops[k+j]?)->Z6j md ops l k listed=true->
  wpAny P md ops Q fuel (marks l.length k listed) (Q4s l a) w->wpAny P md ops Q (l.length+fuel) listed a w
 | [],k,listed,a,_,_,h=>by rw [List.length_nil,Nat.zero_add];exact h
 |o::l,k,listed,a,hl,hB,h=>by
  have h0:ops[k]? =some o:=by simpa using (hl 0 (by simp)).symm
  simp only [Z6j,Bool.and_eq_true] at hB
  obtain ⟨⟨⟨⟨⟨hg,hmv⟩,_⟩,hr⟩,hf⟩,hB'⟩:=hB
  have hg':o.guard=none:=by simpa using hg
  rw [List.length_cons,show l.length+1+fuel=(l.length+fuel)+1 by omega]
  refine wpAny_take h0 hsel hf hr (fun c a' w h=>by cases hd:o.dst with
   |none=>rw [hd] at h;exact h
   |some d=>rw [hd] at h;exact hQ c a' d _ w h) (v:=moved o a) (.inl ⟨by simp [Region.wanted,hg'],fun w=> ?_⟩) ?_
  ·unfold moved
   split at hmv
   ·rename_i x hx
    simp [execOp,hx]
   ·cases hmv
  ·exact Z1W hsel hQ fuel w l (k+1) _ _ (fun j hj=>by have:=hl (j+1) (by simp;omega);simpa [Nat.add_assoc,Nat.add_comm 1 j] using this) hB' h
theorem Z1X : ∀(m k:Nat) (listed:Array Bool),(marks m k listed).size=listed.size
 |0,_,_=>rfl
 |m+1,k,listed=>by rw [marks,Z1X];simp
theorem Q7A : ∀(m k:Nat) (listed:Array Bool) (j:Nat) (d:Bool),(j<k∨k+m<=j)->(marks m k listed).getD j d=listed.getD j d
 |0,_,_,_,_,_=>rfl
 |m+1,k,listed,j,d,h=>by rw [marks,Q7A m (k+1) _ j d (by omega),getD_set_ne d (by omega)]
def preB (md:Region.Mode) (l:List Oper) (m n:Nat):Bool:=
 Region.noSelect l.toArray && decide (n<l.length) && decide (m<=n) && Z6j md l.toArray (l.take m) 0 (Array.replicate l.length false) && (l.take m).all (fun o=>o.after.isEmpty) &&
  Q9O md l.toArray m n && Region.chainB md l.toArray n && Region.lexHead md l.toArray (l.length - n) (n - m) m (marks m 0 (Array.replicate l.length false))
theorem Q1u {id:Nat} {Q:Exit->Act->World->Prop} {a:Act} {w:World} {l:List Oper} (m n:Nat) (hm:P.follows .mixedOrders=true) (hB:preB .any l m n=true)
  (hQ: ∀c (a:Act) d v w,Q (.panic c) (a.put (some d) v) w->Q (.panic c) a w)
  (h:wpQuiet P l.toArray (fun w'=> ∃n,w'=w.drewN n) (fun a'=> ∀nq,wpList P l.toArray Q (l.drop n) a' (w.drewN nq)) ((l.take n).drop m) (Q4s (l.take m) a)):(Code.region id l.toArray true).wp P Q a w:=by
 simp only [preB,Bool.and_eq_true,decide_eq_true_eq] at hB
 obtain ⟨⟨⟨⟨⟨⟨⟨hsel,hn⟩,hmn⟩,hmv⟩,hemp⟩,hs⟩,hc⟩,hlex⟩:=hB
 have hn':n<l.toArray.size:=by simpa using hn
 have htl:(l.take m).length=m:=by simp;omega
 have hhl:((l.take n).drop m).length=n - m:=by simp;omega
 have hdl:(l.drop n).length=l.length - n:=by simp
 have inv0:HeadInv .any l.toArray n (marks m 0 (Array.replicate l.length false)):=by
  refine ⟨by rw [Z1X];simp,fun j oj hj hl e he _=> ?_,fun t ht ht'=> ?_⟩
  ·rcases Nat.lt_or_ge j m with hjm|hjm
   ·have hmem:oj∈l.take m:=by
     have:l[j]? =some oj:=by simpa using hj
     refine List.mem_of_getElem? (i:=j) ?_
     rw [List.getElem?_take,if_pos hjm,this]
    have:=List.all_eq_true.1 hemp oj hmem
    simp only [Array.isEmpty_iff] at this
    rw [this] at he
    simp at he
   ·rw [Q7A m 0 _ j _ (by omega),getD_replicate_false] at hl
    cases hl
  ·rw [Q7A m 0 _ t _ (by omega)]
   have:t<l.length:=by simpa using ht'
   simp [Array.getD,this]
 refine wp_region_any hm ?_
 have H:=Q9j (P:=P) (C:=fun w'=> ∃n,w'=w.drewN n) (md:= .any) (g:=l.length - n) hsel hs hc hn' ((l.take n).drop m) m _ (Q4s (l.take m) a) (fun j hj=>by
  rw [hhl] at hj
  rw [List.getElem?_drop,List.getElem?_take,if_pos (by omega)]
  simp) (by rw [hhl];omega) (Nat.le_refl _) inv0 (by rw [hhl];exact hlex) h
 have H2:=Q3L (Q':=Q) (g:=l.length - n) (fun listed a' w' hw' hL=>by
  obtain ⟨nq,rfl⟩:=hw'
  have:=wpAny_of_seq (md:= .any) (Q':=Q) (l.drop n) n listed a' (w.drewN nq) (fun j=>by simp [List.getElem?_drop]) (by rw [hdl];exact hL.1) (hL.2 nq)
  rwa [hdl] at this) _ _ _ {w with drawn:=w.drawn+1} ⟨1,rfl⟩ H
 have H3:=Z1W (P:=P) (md:= .any) hsel hQ ((n - m)+(l.length - n)) {w with drawn:=w.drawn+1} (l.take m) 0 (Array.replicate l.length false) a (fun j hj=>by
  rw [htl] at hj
  rw [List.getElem?_take,if_pos hj]
  simp) hmv (by rw [htl];rw [hhl] at H2;exact H2)
 rw [htl] at H3
 have e:l.toArray.size=m+(n - m+(l.length - n)):=by simp;omega
 rw [e]
 have e2:m+(n - m+(l.length - n))=l.length:=by omega
 rw [e2] at H3⊢
 exact H3
end
end Go.Proofs.YtploomncapiloaaGreatDoor
