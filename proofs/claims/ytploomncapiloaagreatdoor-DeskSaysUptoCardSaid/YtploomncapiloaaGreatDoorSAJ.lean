/- Parts of the proof, put together by a program: PieceW DeskW ShelfZ DeskV. No condition. -/
import Derived.Test.YtploomncapiloaaGreatDoorSAG
import Derived.Test.YtploomncapiloaaGreatDoorSAI
import Derived.Deep.CutBlock
import Derived.Deep.CutRange
import Derived.Deep.RegionLaw
import Derived.Lib.SliceRun
import Derived.PlainAid
import Derived.Shelf.Strings.Builder2
import Derived.Shelf.Strings.Builder2Cap
import Derived.Shelf.Strings.BuilderCap
import Derived.Shelf.Strings.OnBuilder
import Derived.Shelf.Strings.Prefix
set_option maxRecDepth 100000
set_option maxHeartbeats 8000000
namespace Go.Proofs.YtploomncapiloaaGreatDoor
open Go.RowKit Go.Sort Go.PlainAid Croft
theorem Y4D {l:List UInt8} {k:Nat} {b:UInt8} (h:l[k]? =some b):bt (bs l) k=b.toNat:=by
 obtain ⟨hk,rfl⟩:=List.getElem?_eq_some_iff.1 h
 unfold bt
 rw [dif_pos (by rw [Q0q];exact hk)]
 rfl
theorem Z6q {l:List UInt8} {k:Nat} {b:UInt8} (h:l[k]? =some b) (hb:Z4W b=false):Q2s l= -1:=by
 unfold Q2s
 split
 ·rfl
 ·rw [if_neg]
  intro ha
  have:=List.all_eq_true.1 ha b (List.mem_of_getElem? h)
  rw [hb] at this;cases this
theorem Q8k {l:List UInt8} {k:Nat} {b:UInt8} (h:l[k]? =some b) (hb:Z4W b=true) (ha:(l.take k).all Z4W=true):(l.take (k+1)).all Z4W=true:=by
 rw [List.take_add_one,h,List.all_append,ha];simp [hb]
theorem Z3L {l:List UInt8} {k:Nat} {b:UInt8} (h:l[k]? =some b):Z3t (l.take (k+1))=10 * Z3t (l.take k)+((b.toNat:Int) - 48):=by
 rw [List.take_add_one,h];exact Z3H _ _
theorem Z6r {k:Nat} (h:k<=9):(10:Int)^k<=1000000000:=by
 obtain rfl|rfl|rfl|rfl|rfl|rfl|rfl|rfl|rfl|rfl:k=0∨k=1∨k=2∨k=3∨k=4∨k=5∨k=6∨k=7∨k=8∨k=9:=by omega
 all_goals decide
theorem Z7o {k:Nat} (h:k<=10):(10:Int)^k<=10000000000:=by
 by_cases q:k=10
 ·subst q;decide
 ·have:=Z6r (k:=k) (by omega);omega
theorem Z0t (l:List UInt8) (w:World) (hl:l.length<=1000000000):
  Calls Tryz.prog 54 #[.string (bs l)] w fun e w'=>e= .returned (.int .i64 (Q2s l))/\w=w':=by
 obtain ⟨s,hs⟩: ∃s,s=bs l:=⟨_,rfl⟩
 have hz:s.size=l.length:=by rw [hs,Q0q]
 have hg:=get_bt s
 have HB:Hid (∀(k:Nat) (b:UInt8),l[k]? =some b->bt s k=b.toNat):=fun k b h=>by rw [hs];exact Y4D h
 rw [<-hs]
 clear hs
 by_cases h1:l.length<1
 ·have hr:Q2s l= -1:=by unfold Q2s;rw [if_pos (.inl h1)]
  rw [hr]
  clear hr hg
  go_enter Tryz.func54,Tryz.ntmps54
  go_wp2_with fail
  all_goals (go_ret;exact ⟨rfl,rfl⟩)
 ·by_cases h2:10<l.length
  ·have hr:Q2s l= -1:=by unfold Q2s;rw [if_pos (.inr (.inl h2))]
   rw [hr]
   clear hr hg
   go_enter Tryz.func54,Tryz.ntmps54
   go_wp2_with fail
   all_goals (go_ret;exact ⟨rfl,rfl⟩)
  ·obtain ⟨c,hc⟩: ∃c,l[0]? =some c:=⟨_,List.getElem?_eq_getElem (by omega)⟩
   have hb0:bt s 0=c.toNat:=HB.out 0 c hc
   by_cases h3:c.toNat=48/\1<l.length
   ·have hc48:c=48:=by
     apply UInt8.toNat_inj.1;rw [h3.1];rfl
    have hr:Q2s l= -1:=by unfold Q2s;rw [if_pos (.inr (.inr ⟨h3.2,by rw [hc,hc48]⟩))]
    rw [hr]
    have h31:=h3.1
    have h32:=h3.2
    clear hr h3
    go_enter Tryz.func54,Tryz.ntmps54
    go_wp2_with fail
    all_goals (go_ret;exact ⟨rfl,rfl⟩)
   ·have HN:Hid (Q2s l=if l.all Z4W then Z3t l else -1):=by
     unfold Q2s
     rw [if_neg]
     ·rfl
     rintro (h|h|⟨h,h'⟩)
     ·exact h1 h
     ·exact h2 h
     ·rw [hc] at h'
      exact h3 ⟨by rw [Option.some.inj h'];rfl,h⟩
    have HC0:=Qh hc
    clear hc
    go_enter Tryz.func54,Tryz.ntmps54
    go_wp2_with fail
    all_goals
     go_loopw [3,25] (fun n i wr=> ∃k:Nat,k<=l.length/\i= .int .i64 k/\n= .int .i64 (Z3t (l.take k))/\(l.take k).all Z4W=true/\wr=w) (fun _ i _=>l.length - (intOf i).toNat)
     case atStart=>exact ⟨0,Nat.zero_le _,rfl,rfl,rfl,rfl⟩
     case round=>
      obtain ⟨k,hk,rfl,rfl,hall,rfl⟩:=hrel
      by_cases hlt:k<l.length
      ·obtain ⟨b,hbk⟩: ∃b,l[k]? =some b:=⟨_,List.getElem?_eq_getElem hlt⟩
       have hbt:bt s k=b.toNat:=HB.out k b hbk
       have HD:=Qh (@Z6q l k b hbk)
       have HA:=Qh (fun hd=>Q8k hbk hd hall)
       have HF:=Qh (Z3L hbk)
       obtain ⟨cv,hcv⟩: ∃cv:Int,cv=b.toNat:=⟨_,rfl⟩
       rw [<-hcv] at hbt HF
       have HDG:=Qh (show Z4W b=(decide (48<=cv) && decide (cv<=57)) by unfold Z4W;rw [hcv];congr 1<;>simp<;>omega)
       have hrg:=Q8Q k (l.take k) (by rw [List.length_take];omega) hall
       have hp10:=Z6r (k:=k) (by omega)
       obtain ⟨m,hm⟩: ∃m,m=Z3t (l.take k):=⟨_,rfl⟩
       rw [<-hm] at hrg HF⊢
       have hm0:0<=m:=hrg.1
       have hm1:m<1000000000:=by omega
       have HLT:=Qh hlt
       have hcv0:0<=cv:=by omega
       have hcv1:cv<=255:=by have:=b.toNat_lt;omega
       clear hrg hp10 hm hcv hall hbk
       by_cases h48:48<=cv
       ·by_cases h57:cv<=57
        ·go_wp2_with fail
         go_roundw
         case rel=>exact ⟨k+1,by omega,by simp,by rw [HF.out],HA.out (by rw [HDG.out];simp [h48,h57]),trivial⟩
         case measure=>simp [intOf];omega
        ·have hr:=HD.out (by rw [HDG.out];simp;omega)
         have HR:=Qh hr
         clear hr
         go_wp2_with fail
         go_ret
         exact ⟨by rw [HR.out];rfl,rfl⟩
       ·have hr:=HD.out (by rw [HDG.out];simp;omega)
        have HR:=Qh hr
        clear hr
        go_wp2_with fail
        go_ret
        exact ⟨by rw [HR.out];rfl,rfl⟩
      ·obtain rfl:k=l.length:=by omega
       rw [List.take_length] at hall⊢
       have hr:Q2s l=Z3t l:=by rw [HN.out,if_pos hall]
       have HR:=Qh hr
       clear hr
       go_wp2_with fail
       go_ret
       exact ⟨by rw [HR.out];rfl,rfl⟩
theorem Z5i (l:List UInt8) (w:World) (hl:l.length<=1000000000):
  Calls Tryz.prog 78 #[.string (bs l)] w fun e w'=>e= .returned (.int .i64 (Q2s l))/\w=w':=by
 obtain ⟨s,hs⟩: ∃s,s=bs l:=⟨_,rfl⟩
 have hz:s.size=l.length:=by rw [hs,Q0q]
 have hg:=get_bt s
 have HB:Hid (∀(k:Nat) (b:UInt8),l[k]? =some b->bt s k=b.toNat):=fun k b h=>by rw [hs];exact Y4D h
 rw [<-hs]
 clear hs
 go_enter Tryz.func78,Tryz.ntmps78
 go_wp2_with fail
 go_loopw [3,4] (fun n i wr=> ∃k:Nat,k<=l.length/\k<=11/\i= .int .i64 k/\n= .int .i64 (Z3t (l.take k))/\(l.take k).all Z4W=true/\wr=w) (fun _ i _=>l.length - (intOf i).toNat)
 case atStart=>exact ⟨0,Nat.zero_le _,by omega,rfl,rfl,rfl,rfl⟩
 case round=>
  obtain ⟨k,hk,hk11,rfl,rfl,hall,rfl⟩:=hrel
  by_cases hlt:k<l.length/\k<11
  ·obtain ⟨hlt,hk10⟩:=hlt
   obtain ⟨b,hbk⟩: ∃b,l[k]? =some b:=⟨_,List.getElem?_eq_getElem hlt⟩
   have hbt:bt s k=b.toNat:=HB.out k b hbk
   have HD:=Qh (@Z6q l k b hbk)
   have HA:=Qh (fun hd=>Q8k hbk hd hall)
   have HF:=Qh (Z3L hbk)
   obtain ⟨cv,hcv⟩: ∃cv:Int,cv=b.toNat:=⟨_,rfl⟩
   rw [<-hcv] at hbt HF
   have HDG:=Qh (show Z4W b=(decide (48<=cv) && decide (cv<=57)) by unfold Z4W;rw [hcv];congr 1<;>simp<;>omega)
   have hrg:=Q8Q k (l.take k) (by rw [List.length_take];omega) hall
   have hp10:=Z7o (k:=k) (by omega)
   obtain ⟨m,hm⟩: ∃m,m=Z3t (l.take k):=⟨_,rfl⟩
   rw [<-hm] at hrg HF⊢
   have hm0:0<=m:=hrg.1
   have hm1:m<10000000000:=by omega
   have HLT:=Qh hlt
   have hcv0:0<=cv:=by omega
   have hcv1:cv<=255:=by have:=b.toNat_lt;omega
   clear hrg hp10 hm hcv hall hbk
   by_cases h48:48<=cv
   ·by_cases h57:cv<=57
    ·go_wp2_with fail
     go_roundw
     case rel=>exact ⟨k+1,by omega,by omega,by simp,by rw [HF.out];congr 1;omega,HA.out (by rw [HDG.out];simp [h48,h57]),trivial⟩
     case measure=>simp [intOf];omega
    ·have HR:=Qh (HD.out (by rw [HDG.out];simp;omega))
     go_wp2_with fail
     go_ret
     exact ⟨by rw [HR.out];rfl,rfl⟩
   ·have HR:=Qh (HD.out (by rw [HDG.out];simp;omega))
    go_wp2_with fail
    go_ret
    exact ⟨by rw [HR.out];rfl,rfl⟩
  ·have CI:=Qh (Q1N l.length 1 10)
   by_cases hin:1<=l.length/\l.length<=10
   ·have hb1:decide ((1:Int)<=(l.length:Int)/\(l.length:Int)<=10)=true:=by simp;omega
    obtain rfl:k=l.length:=by omega
    rw [List.take_length] at hall⊢
    obtain ⟨c,hc⟩: ∃c,l[0]? =some c:=⟨_,List.getElem?_eq_getElem (by omega)⟩
    have hb0:bt s 0=c.toNat:=HB.out 0 c hc
    have HR:=Qh (show Q2s l=if c.toNat=48/\1<l.length then -1 else Z3t l by
     unfold Q2s
     by_cases q:c.toNat=48/\1<l.length
     ·have hc48:c=48:=by apply UInt8.toNat_inj.1;rw [q.1];rfl
      rw [if_pos (.inr (.inr ⟨q.2,by rw [hc,hc48]⟩)),if_pos q]
     ·rw [if_neg,if_pos hall,if_neg q]
      rintro (h|h|⟨h,h'⟩)
      ·omega
      ·omega
      ·rw [hc] at h'
       exact q ⟨by rw [Option.some.inj h'];rfl,h⟩)
    have h0:0<l.length:=by omega
    clear hc hall
    go_wp2_with fail
    refine (CI.out _).mono ?_
    rintro e w' ⟨rfl,rfl⟩
    rw [hb1]
    try dsimp only
    by_cases h2:1<l.length
    ·by_cases h48:c.toNat=48
     ·have HR2:=Qh (show Q2s l= -1 by rw [HR.out,if_pos ⟨h48,h2⟩])
      go_wp2_with fail
      all_goals
       go_ret
       exact ⟨by rw [HR2.out];rfl,rfl⟩
     ·have HR2:=Qh (show Q2s l=Z3t l by rw [HR.out,if_neg (fun q=>h48 q.1)])
      go_wp2_with fail
      all_goals
       go_ret
       exact ⟨by rw [HR2.out];rfl,rfl⟩
    ·have HR2:=Qh (show Q2s l=Z3t l by rw [HR.out,if_neg (fun q=>h2 q.2)])
     go_wp2_with fail
     all_goals
      go_ret
      exact ⟨by rw [HR2.out];rfl,rfl⟩
   ·have hb1:decide ((1:Int)<=(l.length:Int)/\(l.length:Int)<=10)=false:=by simp;omega
    have HR:=Qh (show Q2s l= -1 by unfold Q2s;rw [if_pos (by omega)])
    go_wp2_with fail
    all_goals
     refine (CI.out _).mono ?_
     rintro e w' ⟨rfl,rfl⟩
     rw [hb1]
     try dsimp only
     go_wp2_with fail
     go_ret
     exact ⟨by rw [HR.out];rfl,rfl⟩
def Q0x (ws:List (List UInt8)):List Int:=if Q0X ws then ws.map Q2s else []
theorem Q8U {ws:List (List UInt8)} {k:Nat} {x:List UInt8} (h:ws[k]? =some x) (hx:Q2s x<0):Q0X ws=false:=by
 unfold Q0X
 rw [List.all_eq_false]
 exact ⟨x,List.mem_of_getElem? h,by simp only [decide_eq_true_eq];omega⟩
theorem Q7F {ws:List (List UInt8)} {k:Nat} {x:List UInt8} (h:ws[k]? =some x) (hx:0<=Q2s x) (ha:Q0X (ws.take k)=true):Q0X (ws.take (k+1))=true:=by
 unfold Q0X at *
 rw [List.take_add_one,h,List.all_append,ha];simp [hx]
theorem Z0u {ws:List (List UInt8)} {k:Nat} {x:List UInt8} (h:ws[k]? =some x):(ws.take (k+1)).map Q2s=(ws.take k).map Q2s++ [Q2s x]:=by
 rw [List.take_add_one,h];simp
theorem Q9R (x:List UInt8):I64 (Q2s x):=by
 have:=Q8R x
 exact ⟨by omega,by omega⟩
theorem Q3R (va:Value) (ws:List (List UInt8)) (w:World) (h1:Q1g w va ws) (hsz: ∀x∈ws,x.length<=1000000000):
  Calls Tryz.prog 35 #[va] w fun e w'=> ∃v,e= .returned (.tuple #[v,.bool (Q0X ws)])/\Q0j w' w.heap.size v (Q0x ws)/\Below w.heap.size w w':=by
 have KS:=Qh h1
 have HX:=Qh hsz
 obtain ⟨A1,c1,rfl,hc1,hm1,hl1,hr1⟩:=h1
 suffices hgoal: ∀Post:Ending->World->Prop,(∀v w',Q0j w' w.heap.size v (Q0x ws)->Below w.heap.size w w'->Post (.returned (.tuple #[v,.bool (Q0X ws)])) w')->Calls Tryz.prog 35 #[.slice A1 ws.length c1] w Post from hgoal _ fun v w' h1 h2=>⟨v,rfl,h1,h2⟩
 intro Post hpo
 have HP:=Qh hpo
 clear hm1 hpo hr1 hsz
 go_enter Tryz.func35,Tryz.ntmps35
 go_wp2_with fail
 go_loopw [4,5] (fun v i wr=> ∃k:Nat,k<=ws.length/\i= .int .i64 k/\Q0X (ws.take k)=true/\Q0j wr w.heap.size v ((ws.take k).map Q2s)/\Below w.heap.size w wr) (fun _ i _=>ws.length - (intOf i).toNat)
 case atStart=>exact ⟨0,Nat.zero_le _,rfl,rfl,Q0j.nil _ _,Below.refl _ _⟩
 case round=>
  obtain ⟨k,hk,rfl,hok,hown,hbel⟩:=hrel
  have KW:=Qh hown
  have BEL:=Qh hbel
  have HOK:=Qh hok
  have hs1:=hbel.size
  clear hown hbel hok
  by_cases hlt:k<ws.length
  ·obtain ⟨A,c,hA,_,_,_,hr⟩:=KS.out.below BEL.out
   injection hA with hA1 hA2 hA3
   subst hA1 hA3
   obtain ⟨b1,o1,x,rfl,hb1,hx,hcx⟩:=Q2W hr hlt
   have CD:=Qh (fun W=>Z5i x W (HX.out x (List.mem_of_getElem? hx)))
   have HNX:=Qh (Z0u hx)
   have HOK1:=Qh (fun h=>Q7F hx h HOK.out)
   have HBAD:=Qh (fun h=>Q8U hx h)
   have hi64:=Q9R x
   have HI:=Qh hi64
   obtain ⟨z,hz⟩: ∃z,z=Q2s x:=⟨_,rfl⟩
   rw [<-hz] at CD HNX HOK1 HBAD HI hi64
   clear hr hb1 hx hA2 hz
   by_cases hneg:z<0
   ·have HB:=Qh (HBAD.out hneg)
    go_wp2_with fail
    refine (CD.out _).mono ?_
    rintro e w' ⟨rfl,rfl⟩
    try dsimp only
    go_wp2_with fail
    have hp:=HP.out (.slice none 0 0) _ (by unfold Q0x;rw [HB.out];exact Q0j.nil _ _) BEL.out
    rw [HB.out] at hp
    exact hp
   ·have h0:0<=z:=by omega
    have HOK2:=Qh (HOK1.out h0)
    have hkl:((ws.take k).map Q2s).length=k:=by rw [List.length_map,List.length_take];omega
    have HKL:=Qh hkl
    clear hneg hkl
    go_wp2_with fail
    refine (CD.out _).mono ?_
    rintro e w' ⟨rfl,rfl⟩
    try dsimp only
    go_wp2_with fail
    refine (CD.out _).mono ?_
    rintro e w' ⟨rfl,rfl⟩
    try dsimp only
    go_wp2_with (at_builtin;go_loud (refine Q1M rfl _ _ rfl w.heap.size _ _ z wr.heap.size 1 rfl (KW.out.alloc _) rfl (Q0o _ _ _) HI.out (by rw [HKL.out];omega) (by rw [size_alloc];omega) ?_))
    intro v' w5 hown' hbel'
    have K5:=Qh hown'
    have B5:=Qh ((BEL.out.alloc hs1 (.cells #[.int .i64 z] 3)).trans hbel')
    clear hown' hbel'
    go_wp2_with fail
    exact ⟨⟨k+1,by omega,by go_num,HOK2.out,by rw [HNX.out,List.map_take];exact K5.out,B5.out⟩,by simp [intOf]<;>omega⟩
  ·obtain rfl:k=ws.length:=by omega
   rw [show ws.take ws.length=ws from List.take_length] at KW HOK
   go_wp2_with fail
   have hp:=HP.out _ _ (show Q0j wr w.heap.size _ (Q0x ws) by unfold Q0x;rw [HOK.out,if_pos rfl];exact KW.out) BEL.out
   rw [HOK.out] at hp
   exact hp
theorem Z7p {l:List UInt8} {k:Nat} {b:UInt8} (h:l[k]? =some b):(bs l).extract k (k+1)=bs [b]:=by
 obtain ⟨hk,rfl⟩:=List.getElem?_eq_some_iff.1 h
 rw [Lib.extract_eq]
 unfold bs
 congr 2
 rw [Nat.add_sub_cancel_left]
 show (l.drop k).take 1= [l[k]]
 rw [List.drop_eq_getElem_cons hk]
 rfl
theorem Q7G (l:List UInt8) (c:UInt8) (w:World) (hl:l.length<=4294967280):
  Calls Tryz.prog 19 #[.string (bs l),.int .u8 c.toNat] w fun e w'=> ∃v,e= .returned v/\Q0J w' w.heap.size v (pieces c l)/\Below w.heap.size w w':=by
 obtain ⟨s,hs⟩: ∃s,s=bs l:=⟨_,rfl⟩
 have hz:s.size=l.length:=by rw [hs,Q0q]
 have hg:=get_bt s
 have HB:Hid (∀(k:Nat) (b:UInt8),l[k]? =some b->bt s k=b.toNat):=fun k b h=>by rw [hs];exact Y4D h
 have HE:Hid (∀(k:Nat) (b:UInt8),l[k]? =some b->s.extract k (k+1)=bs [b]):=fun k b h=>by rw [hs];exact Z7p h
 rw [<-hs]
 clear hs
 obtain ⟨cc,hcc⟩: ∃cc:Int,cc=c.toNat:=⟨_,rfl⟩
 rw [<-hcc]
 have HCC:=Qh hcc
 clear hcc
 suffices hgoal: ∀Post:Ending->World->Prop,(∀v w',Q0J w' w.heap.size v (pieces c l)->Below w.heap.size w w'->Post (.returned v) w')->Calls Tryz.prog 19 #[.string s,.int .u8 cc] w Post from hgoal _ fun v w' h1 h2=>⟨v,rfl,h1,h2⟩
 intro Post hpo
 have HP:=Qh hpo
 clear hpo
 have HL0:=Qh (Z2F w w.heap.size [[]] (by simp) (Nat.le_refl _))
 have HB0:=Qh ((Below.refl w.heap.size w).alloc (Nat.le_refl _) (.cells #[.string ⟨#[]⟩] 9))
 go_enter Tryz.func19,Tryz.ntmps19
 go_wp2_with fail
 go_loopw [5,6] (fun v i wr=> ∃k:Nat,k<=l.length/\i= .int .i64 k/\Q0J wr w.heap.size v (pieces c (l.take k))/\Below w.heap.size w wr) (fun _ i _=>l.length - (intOf i).toNat)
 case atStart=>exact ⟨0,Nat.zero_le _,rfl,HL0.out,HB0.out⟩
 case round=>
  obtain ⟨k,hk,rfl,hown,hbel⟩:=hrel
  have KW:=Qh hown
  have BEL:=Qh hbel
  have hs1:=hbel.size
  clear hown hbel
  by_cases hlt:k<l.length
  ·obtain ⟨b,hb⟩: ∃b,l[k]? =some b:=⟨_,List.getElem?_eq_getElem hlt⟩
   have hbt:=HB.out k b hb
   have hpl:(pieces c (l.take k)).length<=k+1:=by have:=Q3m c (l.take k);rw [List.length_take] at this;omega
   have HPL:=Qh hpl
   have HBK:=Qh hb
   clear hpl
   by_cases hbc:b=c
   ·have HNX:=Qh (Z0k hb hbc)
    have hbv:(bt s k==cc)=true:=by rw [hbt,HCC.out,hbc];simp
    clear hb hbt
    go_wp2_with (at_builtin;go_loud (refine Q3o rfl _ _ rfl w.heap.size _ _ [] wr.heap.size 1 rfl (KW.out.alloc _) rfl (Q0o _ _ _) (by have:=HPL.out;omega) (by rw [size_alloc];omega) ?_))
    intro v' w5 hown' hbel'
    have K5:=Qh hown'
    have B5:=Qh ((BEL.out.alloc hs1 (.cells #[.string ⟨#[]⟩] 9)).trans hbel')
    clear hown' hbel'
    go_wp2_with fail
    exact ⟨⟨k+1,by omega,by go_num,by rw [HNX.out];exact K5.out,B5.out⟩,by simp [intOf]<;>omega⟩
   ·have hbv:(bt s k==cc)=false:=by
     rw [hbt,HCC.out,beq_eq_false_iff_ne]
     intro e
     exact hbc (UInt8.toNat_inj.1 (by omega))
    obtain ⟨P,hP⟩: ∃P,P=pieces c (l.take k):=⟨_,rfl⟩
    have hn1:0<P.length:=by rw [hP,List.length_pos_iff];exact Q0I _ _
    obtain ⟨n,hn⟩: ∃n,P.length=n+1:=⟨P.length - 1,by omega⟩
    obtain ⟨x,hx⟩: ∃x,P[n]? =some x:=⟨_,List.getElem?_eq_getElem (by omega)⟩
    have hxl:x.length<=l.length:=by
     have h1:=Q2N c (l.take k) x (by rw [<-hP];exact List.mem_of_getElem? hx)
     rw [List.length_take] at h1;omega
    have HNX:=Qh (Q9v hb hbc (by rw [<-hP];exact hn) (by rw [<-hP];exact hx))
    rw [<-hP] at KW HNX HPL
    have hnk:n<=k:=by have:=HPL.out;omega
    obtain ⟨A,cap,rfl,_,_⟩:=Q0k KW.out.1
    obtain ⟨g,rfl⟩: ∃g,A=some ⟨g,0,none⟩:=by
     rcases KW.out.1.2 with ⟨hv,_⟩|⟨g,cap',cur,hv,_⟩
     ·injection hv with _ hv _;omega
     ·injection hv with hv;exact ⟨g,hv⟩
    rw [hn] at KW⊢
    have hcell:=KW.out.cell hx
    have hfr:=KW.out.frozen n
    have HBS:=Qh (KW.out.base_le)
    have hsl: ∀W,(Instr.slice 9 (.string s) (some (.int .i64 k)) (some (.int .i64 ((k:Int)+1))) none).run Tryz.prog W= .ok (.string (bs [b])) W:=fun W=>by
     have h1:=run_slice_string (P:=Tryz.prog) (w:=W) 9 s .i64 .i64 (k:Int) ((k:Int)+1) Tryz.underlying9 (by omega) (by omega) (by omega)
     rw [h1]
     rw [show ((k:Int)).toNat=k by omega,show ((k:Int)+1).toNat=k+1 by omega,HE.out k b HBK.out]
    have hadd: ∀W,(Op.stringOp .add (bs x) (bs [b])).run Tryz.prog W= .ok (.string (bs (x++ [b]))) W:=fun W=>by
     rw [run_string_add_sum W (bs x) (bs [b]) (by rw [Q0q,Q0q];simp;omega),Q0p]
    clear hx hb hn1 hbt hP
    go_wp2_with fail
    refine Q0D 13 (by kernel_rfl) (by kernel_rfl) ?_
    simp only [List.take_succ_cons,List.take_zero,List.drop_succ_cons,List.drop_zero]
    repeat (go_big_quiet_step ((fail)))
    refine wpQuiet_nil ?_
    intro nq
    go_wp2_with fail
    exact ⟨⟨k+1,by omega,by go_num,by rw [HNX.out];exact (KW.out.drewN nq).set_ n (x++ [b]),(below_drewN BEL.out nq).setCell (p:=⟨g,n,none⟩) HBS.out.1 _⟩,by simp [intOf]<;>omega⟩
  ·obtain rfl:k=l.length:=by omega
   rw [show l.take l.length=l from List.take_length] at KW
   go_wp2_with fail
   exact HP.out _ _ KW.out BEL.out
theorem Q6s (va:Value) (ws:List (List UInt8)) (w:World) (h1:Q1g w va ws) (hsz: ∀x∈ws,x.length<=1000000000):
  Calls Tryz.prog 29 #[va] w fun e w'=> ∃v,e= .returned (.tuple #[v,.bool (Q0X ws)])/\Q0j w' w.heap.size v (Q0x ws)/\Below w.heap.size w w':=by
 have KS:=Qh h1
 have HX:=Qh hsz
 obtain ⟨A1,c1,rfl,hc1,hm1,hl1,hr1⟩:=h1
 suffices hgoal: ∀Post:Ending->World->Prop,(∀v w',Q0j w' w.heap.size v (Q0x ws)->Below w.heap.size w w'->Post (.returned (.tuple #[v,.bool (Q0X ws)])) w')->Calls Tryz.prog 29 #[.slice A1 ws.length c1] w Post from hgoal _ fun v w' h1 h2=>⟨v,rfl,h1,h2⟩
 intro Post hpo
 have HP:=Qh hpo
 clear hm1 hpo hr1 hsz
 go_enter Tryz.func29,Tryz.ntmps29
 go_wp2_with fail
 go_loopw [4,10] (fun v i wr=> ∃k:Nat,k<=ws.length/\i= .int .i64 k/\Q0X (ws.take k)=true/\Q0j wr w.heap.size v ((ws.take k).map Q2s)/\Below w.heap.size w wr) (fun _ i _=>ws.length - (intOf i).toNat)
 case atStart=>exact ⟨0,Nat.zero_le _,rfl,rfl,Q0j.nil _ _,Below.refl _ _⟩
 case round=>
  obtain ⟨k,hk,rfl,hok,hown,hbel⟩:=hrel
  have KW:=Qh hown
  have BEL:=Qh hbel
  have HOK:=Qh hok
  have hs1:=hbel.size
  clear hown hbel hok
  by_cases hlt:k<ws.length
  ·obtain ⟨A,c,hA,_,_,_,hr⟩:=KS.out.below BEL.out
   injection hA with hA1 hA2 hA3
   subst hA1 hA3
   obtain ⟨b1,o1,x,rfl,hb1,hx,hcx⟩:=Q2W hr hlt
   have CD:=Qh (fun W=>Z0t x W (HX.out x (List.mem_of_getElem? hx)))
   have HNX:=Qh (Z0u hx)
   have HOK1:=Qh (fun h=>Q7F hx h HOK.out)
   have HBAD:=Qh (fun h=>Q8U hx h)
   have hi64:=Q9R x
   have HI:=Qh hi64
   obtain ⟨z,hz⟩: ∃z,z=Q2s x:=⟨_,rfl⟩
   rw [<-hz] at CD HNX HOK1 HBAD HI hi64
   clear hr hb1 hx hA2 hz
   by_cases hneg:z<0
   ·have HB:=Qh (HBAD.out hneg)
    go_wp2_with fail
    refine (CD.out _).mono ?_
    rintro e w' ⟨rfl,rfl⟩
    try dsimp only
    go_wp2_with fail
    have hp:=HP.out (.slice none 0 0) _ (by unfold Q0x;rw [HB.out];exact Q0j.nil _ _) BEL.out
    rw [HB.out] at hp
    exact hp
   ·have h0:0<=z:=by omega
    have HOK2:=Qh (HOK1.out h0)
    have hkl:((ws.take k).map Q2s).length=k:=by rw [List.length_map,List.length_take];omega
    have HKL:=Qh hkl
    clear hneg hkl
    go_wp2_with fail
    refine (CD.out _).mono ?_
    rintro e w' ⟨rfl,rfl⟩
    try dsimp only
    go_wp2_with (at_builtin;go_loud (refine Q1M rfl _ _ rfl w.heap.size _ _ z wr.heap.size 1 rfl (KW.out.alloc _) rfl (Q0o _ _ _) HI.out (by rw [HKL.out];omega) (by rw [size_alloc];omega) ?_))
    intro v' w5 hown' hbel'
    have K5:=Qh hown'
    have B5:=Qh ((BEL.out.alloc hs1 (.cells #[.int .i64 z] 3)).trans hbel')
    clear hown' hbel'
    go_wp2_with fail
    exact ⟨⟨k+1,by omega,by go_num,HOK2.out,by rw [HNX.out,List.map_take];exact K5.out,B5.out⟩,by simp [intOf]<;>omega⟩
  ·obtain rfl:k=ws.length:=by omega
   rw [show ws.take ws.length=ws from List.take_length] at KW HOK
   go_wp2_with fail
   have hp:=HP.out _ _ (show Q0j wr w.heap.size _ (Q0x ws) by unfold Q0x;rw [HOK.out,if_pos rfl];exact KW.out) BEL.out
   rw [HOK.out] at hp
   exact hp
theorem Q2H (E:Int) (w:World) (h0:0<=E) (h1:E<=1000) (htab:Lib.TabIs Tryz.prog w "internal/strconv.uint64pow10" .u64 Lib.pow10Tab):
  Calls Tryz.prog 30 #[.int .i64 E] w fun e w'=>e= .returned (.string (bs (Q2h E)))/\Below w.heap.size w w':=by
 obtain ⟨sn,hsn⟩: ∃sn,sn=bs (Q3y E):=⟨_,rfl⟩
 have CI:=Qh (Q3n E w h0 (by omega) htab)
 rw [<-hsn] at CI
 have hss:sn.size<=20:=by rw [hsn,Q0q];exact Q1c _ (by omega)
 have HT:=Qh (show (⟨#[101,114,114,111,114,32]⟩:ByteArray)++sn=bs (Q2h E) by rw [hsn];exact Q0p [101,114,114,111,114,32] (Q3y E))
 clear hsn
 go_enter Tryz.func30,Tryz.ntmps30
 go_wp2_with fail
 refine CI.out.mono ?_
 rintro e w' ⟨rfl,k,os,rfl⟩
 try dsimp only
 go_wp2_with fail
 go_ret
 exact ⟨by rw [<-HT.out];rfl,below_grow w k os⟩
end Go.Proofs.YtploomncapiloaaGreatDoor
namespace Go.Proofs.YtploomncapiloaaGreatDoor
open Go.Proofs
open Go.Shelf
def Q7o :Go.Shelf.Ren:=⟨fun|156=>48|165=>103|166=>15|169=>17|240=>26|241=>141|276=>47|277=>173|n=>n,fun|31=>24|9=>9|3=>3|4=>4|0=>0|20=>20|72=>36|76=>40|70=>33|37=>34|75=>39|127=>61|164=>79|5=>5|80=>43|n=>n,fun|n=>n⟩
theorem Z2i :Go.Proofs.Lays.n156 Tryz.prog Q7o:= {
 mixed:=by kernel_rfl
 f156:=Tryz.func48.trans (congrArg some (by kernel_rfl))
 f165:=Tryz.func103.trans (congrArg some (by kernel_rfl))
 f166:=Tryz.func15.trans (congrArg some (by kernel_rfl))
 f169:=Tryz.func17.trans (congrArg some (by kernel_rfl))
 f240:=Tryz.func26.trans (congrArg some (by kernel_rfl))
 f241:=Tryz.func141.trans (congrArg some (by kernel_rfl))
 f276:=Tryz.func47.trans (congrArg some (by kernel_rfl))
 f277:=Tryz.func173.trans (congrArg some (by kernel_rfl))
 t0:=Tryz.underlying0
 a0:=Tryz.isAgg0
 z0:=Tryz.sizeOf0
 v0:=Tryz.zeroValue0
 t3:=Tryz.underlying3
 a3:=Tryz.isAgg3
 z3:=Tryz.sizeOf3
 v3:=Tryz.zeroValue3
 t4:=Tryz.underlying4
 a4:=Tryz.isAgg4
 z4:=Tryz.sizeOf4
 v4:=Tryz.zeroValue4
 t9:=Tryz.underlying9
 a9:=Tryz.isAgg9
 z9:=Tryz.sizeOf9
 v9:=Tryz.zeroValue9
 t20:=Tryz.underlying20
 a20:=Tryz.isAgg20
 z20:=Tryz.sizeOf20
 v20:=Tryz.zeroValue20
 t31:=Tryz.underlying24
 a31:=Tryz.isAgg24
 z31:=Tryz.sizeOf24
 v31:=Tryz.zeroValue24
 t37:=Tryz.underlying34
 a37:=Tryz.isAgg34
 z37:=Tryz.sizeOf34
 v37:=Tryz.zeroValue34
 t70:=Tryz.underlying33
 a70:=Tryz.isAgg33
 z70:=Tryz.sizeOf33
 v70:=Tryz.zeroValue33
 t72:=Tryz.underlying36
 a72:=Tryz.isAgg36
 z72:=Tryz.sizeOf36
 v72:=Tryz.zeroValue36
 t75:=Tryz.underlying39
 a75:=Tryz.isAgg39
 z75:=Tryz.sizeOf39
 v75:=Tryz.zeroValue39
 t76:=Tryz.underlying40
 a76:=Tryz.isAgg40
 z76:=Tryz.sizeOf40
 v76:=Tryz.zeroValue40
 t127:=Tryz.underlying61
 a127:=Tryz.isAgg61
 z127:=Tryz.sizeOf61
 v127:=Tryz.zeroValue61
 t164:=Tryz.underlying79
 a164:=Tryz.isAgg79
 z164:=Tryz.sizeOf79
 v164:=Tryz.zeroValue79}
theorem Q4e :Builder.Extra Tryz.prog Q7o:= {
 sizeBuilder:=by kernel_rfl
 liesBuilder:=by kernel_rfl
 t5:=Tryz.underlying5
 a5:=Tryz.isAgg5
 z5:=Tryz.sizeOf5
 v5:=Tryz.zeroValue5
 infoByte:=by kernel_rfl
 cellsByte:=by kernel_rfl
 sizeByte:=by kernel_rfl
 neB5:=by decide}
open Go.RowKit in
theorem Q7i (a:Option Addr) (c:Nat) (sep:ByteArray) (w:World):
  Calls Tryz.prog 48 #[.slice a 0 c,.string sep] w fun e w'=>e= .returned (.string ⟨#[]⟩)/\w'=w:=Any.strings_Join_none Z2i Q4e a c sep w
open Go.RowKit in
theorem Z0v (bk o c:Nat) (xs:List ByteArray) (sep:ByteArray) (w:World) (hcells: ∀(j:Nat) x,xs[j]? =some x->w.cell? ⟨bk,o+j,none⟩=some (.string x)) (hbk:bk<w.heap.size) (hN:xs.length<=140737488355328) (hcap:xs.length<=c) (hlen:(Lib.join (xs.map (·.data.toList)) sep.data.toList).length<=140737488355328):
  Calls Tryz.prog 48 #[.slice (some ⟨bk,o,none⟩) xs.length c,.string sep] w fun e w'=>e= .returned (.string ⟨(Lib.join (xs.map (·.data.toList)) sep.data.toList).toArray⟩)/\Below w.heap.size w w':=Any.strings_Join Z2i Q4e bk o c xs sep w hcells hbk hN hcap hlen
open Go.Sort Go.RowKit in
def Y1x :Go.Shelf.Ren:=⟨fun|206=>23|n=>n,fun|9=>9|4=>4|3=>3|n=>n,fun|n=>n⟩
def Z1F :Go.Shelf.Ren:=⟨fun|102=>14|209=>25|207=>46|n=>n,fun|9=>9|4=>4|3=>3|n=>n,fun|n=>n⟩
theorem Z7q :Go.Proofs.Lays.n102 Tryz.prog Z1F:= {
 mixed:=by kernel_rfl
 f102:=Tryz.func14.trans (congrArg some (by kernel_rfl))
 f207:=Tryz.func46.trans (congrArg some (by kernel_rfl))
 f209:=Tryz.func25.trans (congrArg some (by kernel_rfl))
 t3:=Tryz.underlying3
 a3:=Tryz.isAgg3
 z3:=Tryz.sizeOf3
 v3:=Tryz.zeroValue3
 t4:=Tryz.underlying4
 a4:=Tryz.isAgg4
 z4:=Tryz.sizeOf4
 v4:=Tryz.zeroValue4
 t9:=Tryz.underlying9
 a9:=Tryz.isAgg9
 z9:=Tryz.sizeOf9
 v9:=Tryz.zeroValue9}
open Go.RowKit Go.Lib in
theorem Q6t (s p:ByteArray) (w:World) (hs:s.size<=9223372036854775807):
  Calls Tryz.prog 14 #[.string s,.string p] w fun e w'=>e= .returned (.string ⟨(Lib.trimSuffix s.data.toList p.data.toList).toArray⟩)/\w'=w:=Any.strings_TrimSuffix Z7q s p w hs
end Go.Proofs.YtploomncapiloaaGreatDoor
namespace Go.Proofs.YtploomncapiloaaGreatDoor
open Go.RowKit Go.Sort Go.PlainAid Croft
theorem Z2j : ∀(l:List (List UInt8)),Lib.join l [32]=Q1A l
 | []=>rfl
 | [x]=>Lib.join_one x _
 |x::y::l=>by
  have ih:=Z2j (y::l)
  rw [Lib.join_cons] at ih⊢
  rw [Z7f x (y::l) (by simp),<-ih]
  simp [Lib.joinTail]
theorem Y2m (l:List (List UInt8)):(l.map bs).map (·.data.toList)=l:=by
 rw [List.map_map]
 conv=>rhs;rw [<-List.map_id l]
 apply List.map_congr_left
 intro x _
 simp [bs]
theorem Z6s (v:Value) (l:List (List UInt8)) (w:World) (h:Q1g w v l) (hlen:(Q1A l).length<=100000000):
  Calls Tryz.prog 48 #[v,.string ⟨#[32]⟩] w fun e w'=>e= .returned (.string (bs (Q1A l)))/\Below w.heap.size w w':=by
 obtain ⟨A,c,rfl,hc,hm,hl,hr⟩:=h
 cases l with
 |nil=>
  refine (Q7i A c ⟨#[32]⟩ w).mono fun e w' hh=> ?_
  obtain ⟨rfl,rfl⟩:=hh
  exact ⟨rfl,Below.refl _ _⟩
 |cons x l=>
  obtain ⟨b,o,rfl,hb,hcell⟩:=hr.at_ (j:=0) (by simp [sts])
  have hj:Lib.join (((x::l).map bs).map (·.data.toList)) (⟨#[32]⟩:ByteArray).data.toList=Q1A (x::l):=by
   rw [Y2m];exact Z2j _
  have hh:=Z0v b o c ((x::l).map bs) ⟨#[32]⟩ w (fun j y hy=> ?_) hb (by rw [List.length_map];omega) (by rw [List.length_map];exact hc) (by rw [hj];omega)
  ·rw [hj,List.length_map] at hh
   exact hh
  ·have hjl:=(List.getElem?_eq_some_iff.1 hy).1
   rw [List.length_map] at hjl
   rw [hcell j (by rw [Q1d];exact hjl),Q3Y]
   rw [List.getElem?_map] at hy
   cases hx:(x::l)[j]? with
   |none=>rw [hx] at hy;cases hy
   |some z=>rw [hx] at hy;rw [<-Option.some.inj hy];rfl
theorem Q9S (E:Int) (w:World) (h0:0<=E) (h1:E<=1000) (htab:Lib.TabIs Tryz.prog w "internal/strconv.uint64pow10" .u64 Lib.pow10Tab):
  Calls Tryz.prog 62 #[.int .i64 E] w fun e w'=>e= .returned (.string (bs (Z9b E)))/\Below w.heap.size w w':=by
 have CF:=Qh (Q2H E w h0 h1 htab)
 by_cases hE:E=0
 ·subst hE
  go_enter Tryz.func62,Tryz.ntmps62
  go_wp2_with fail
  go_ret
  exact ⟨rfl,Below.refl _ _⟩
 ·have HD:=Qh (show Z9b E=Q2h E from if_neg hE)
  have hb:(E !=0)=true:=by rw [bne_iff_ne];exact hE
  clear hE
  go_enter Tryz.func62,Tryz.ntmps62
  go_wp2_with fail
  refine CF.out.mono ?_
  rintro e w' ⟨rfl,hb⟩
  try dsimp only
  go_wp2_with fail
  go_ret
  exact ⟨by rw [HD.out];rfl,hb⟩
theorem Q4R (va:Value) (zs:List Int) (w:World) (h1:Q0y w va zs) (h0: ∀z∈zs,0<=z):
  Calls Tryz.prog 52 #[va] w fun e w'=> ∃v,e= .returned v/\Q0c w' w.heap.size v zs/\Below w.heap.size w w':=by
 have KS:=Qh h1
 have H0:=Qh h0
 obtain ⟨A1,c1,rfl,hc1,hm1,hl1,hi1,hr1⟩:=h1
 suffices hgoal: ∀Post:Ending->World->Prop,(∀v w',Q0c w' w.heap.size v zs->Below w.heap.size w w'->Post (.returned v) w')->Calls Tryz.prog 52 #[.slice A1 zs.length c1] w Post from hgoal _ fun v w' h1 h2=>⟨v,rfl,h1,h2⟩
 intro Post hpo
 have HP:=Qh hpo
 clear hm1 hpo hr1 hi1 h0
 go_enter Tryz.func52,Tryz.ntmps52
 go_wp2_with fail
 go_loopw [3,8] (fun v i wr=> ∃k:Nat,k<=zs.length/\i= .int .i64 k/\Q0c wr w.heap.size v (zs.take k)/\Below w.heap.size w wr) (fun _ i _=>zs.length - (intOf i).toNat)
 case atStart=>exact ⟨0,Nat.zero_le _,rfl,Q0c.nil _ _,Below.refl _ _⟩
 case round=>
  obtain ⟨k,hk,rfl,hown,hbel⟩:=hrel
  have KW:=Qh hown
  have BEL:=Qh hbel
  have hs1:=hbel.size
  clear hown hbel
  by_cases hlt:k<zs.length
  ·obtain ⟨A,c,hA,_,_,_,hi,hr⟩:=KS.out.below BEL.out
   injection hA with hA1 hA2 hA3
   subst hA1 hA3
   obtain ⟨b1,o1,z,rfl,hb1,hz,hz64,hcz⟩:=ints_at hr hi hlt
   have hz0:=H0.out z (List.mem_of_getElem? hz)
   have hzu:U64 z:=⟨hz0,by have:=hz64.2;omega⟩
   have HZU:=Qh hzu
   have hwz:IntKind.u64.wrap z=z:=u64_nonneg hz0 (by have:=hz64.2;omega)
   have HNX:=Qh (show zs.take (k+1)=zs.take k++ [z] by rw [List.take_add_one,hz];rfl)
   have HKL:=Qh (show (zs.take k).length=k by rw [List.length_take];omega)
   clear hr hi hb1 hz hA2 hzu
   go_wp2_with (at_builtin;go_loud (refine Q0B rfl _ _ rfl w.heap.size _ _ z wr.heap.size 1 rfl (KW.out.alloc _) rfl (Q0o _ _ _) HZU.out (by rw [HKL.out];omega) (by rw [size_alloc];omega) ?_))
   intro v' w5 hown' hbel'
   have K5:=Qh hown'
   have B5:=Qh ((BEL.out.alloc hs1 (.cells #[.int .u64 z] 67)).trans hbel')
   clear hown' hbel'
   go_wp2_with fail
   exact ⟨⟨k+1,by omega,by go_num,by rw [HNX.out];exact K5.out,B5.out⟩,by simp [intOf]<;>omega⟩
  ·obtain rfl:k=zs.length:=by omega
   rw [show zs.take zs.length=zs from List.take_length] at KW
   go_wp2_with fail
   exact HP.out _ _ KW.out BEL.out
end Go.Proofs.YtploomncapiloaaGreatDoor
