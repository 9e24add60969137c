/- Parts of the proof, put together by a program: BenPf. No condition. -/
import Derived.Test.YtploomncapiloaaGreatDoorSBP
set_option maxRecDepth 100000
set_option maxHeartbeats 8000000
namespace Go.Proofs.YtploomncapiloaaGreatDoor
open Go.RowKit Go.Sort Go.PlainAid Croft
theorem Z8w (base db m:Nat) (b:Q1O) (v:List UInt8) (va:Value) (ws:List (List UInt8)) (w:World) (hd:Q2Z w base db b) (hok:b.Ok m) (hm:m<=999) (hdb:db<base) (hbw:base<=w.heap.size) (h1:Q1g w va ws)
  (htot:tot ws<=100000) (hL:Z1t db w) (n_C: ¬v=Q3M) (n_W: ¬v=Q9a):
  Calls Tryz.prog 18 #[.pointer (some ⟨db,0,none⟩),.string (bs v),va] w fun e w'=>e= .returned (.string (bs (Q0C b v ws).1))/\Q2Z w' base db (Q0C b v ws).2/\Left base db w w':=by
 have HD:=Qh hd
 have HL:=Qh hL
 have KS:=Qh h1
 have HOK:=Qh hok
 have HSZ:=Qh (show∀x∈ws,x.length<=1000000000 from fun x hx=>by have:=Z1q ws x hx;omega)
 have hwl:ws.length<=100000:=by have:=Q4q ws;omega
 have hdl:db<w.heap.size:=by obtain ⟨kp,h,_⟩:=hd;exact h.lt
 have CI:=Qh (Z6b [47] va ws w h1)
 obtain ⟨A,c,rfl,hc,_,_,_⟩:=h1
 suffices hgoal: ∀Post:Ending->World->Prop,(∀w',Q2Z w' base db (Q0C b v ws).2->Left base db w w'->Post (.returned (.string (bs (Q0C b v ws).1))) w')->Calls Tryz.prog 18 #[.pointer (some ⟨db,0,none⟩),.string (bs v),.slice A ws.length c] w Post from hgoal _ fun w' h1 h2=>⟨rfl,h1,h2⟩
 intro Post hpo
 have HP:=Qh hpo
 have HNEW:=Qh (show∀s b',Q0C b v ws=(s,b')-> ∀w',Q2Z w' base db b'->Left base db w w'->Post (.returned (.string (bs s))) w' from fun s b' h w' h2 h3=>by
  have hp:=HP.out w' (by rw [h];exact h2) h3
  rw [h] at hp
  exact hp)
 have HSAME:=Qh (show∀s,Q0C b v ws=(s,b)-> ∀w',Below w.heap.size w w'->Post (.returned (.string (bs s))) w' from fun s h w' hb=>HNEW.out s b h w' (HD.out.below hb) (.of_below hb))
 obtain ⟨sv,hsv⟩: ∃sv,sv=bs v:=⟨_,rfl⟩
 have t_Circuit:(sv.toList== [99,105,114,99,117,105,116])=false:=by rw [hsv,Q0a,beq_eq_false_iff_ne];exact n_C
 have t_Work:(sv.toList== [119,111,114,107])=false:=by rw [hsv,Q0a,beq_eq_false_iff_ne];exact n_W
 have CN:=Qh (Q3R _ ws w KS.out HSZ.out)
 have HBAD:=Qh (fun h=>HSAME.out (Q2h 3) (Y1m n_C n_W h))
 have HGOOD:=Qh (fun h3=>Q7W (b:=b) (ws:=ws) n_C n_W h3)
 obtain ⟨j,hj⟩: ∃j:Int,j=(if Z3d [47] ws<ws.length then (Z3d [47] ws:Int) else -1):=⟨_,rfl⟩
 rw [<-hj] at CI
 have hkl:Q0X ws=true->(Q0x ws).length=ws.length:=fun h=>by rw [Q7R h,List.length_map]
 have HKL:=Qh hkl
 obtain ⟨N,hN⟩: ∃N,N=ws.length:=⟨_,rfl⟩
 obtain ⟨o1,ho1⟩: ∃o1,o1=Q0X ws:=⟨_,rfl⟩
 have HO1:=Qh ho1
 have HNL:=Qh hN
 have HSV:=Qh hsv
 rw [<-ho1,<-hN] at HBAD
 rw [<-ho1] at CN
 rw [<-hN] at CI CN⊢
 rw [<-hsv]
 clear hpo hd hok hL htot hj hkl hN ho1 hsv n_C n_W
 go_enter Tryz.func18,Tryz.ntmps18
 go_wp2_with fail
 refine CI.out.mono ?_
 rintro e w' ⟨rfl,rfl⟩
 try dsimp only
 go_wp2_with fail
 refine CN.out.mono ?_
 rintro e W2 ⟨v2,rfl,hw2',hb2⟩
 obtain ⟨A3,c3,rfl,hcc3,_⟩:=Q0k hw2'.1
 have K2:=Qh hw2'
 obtain ⟨k,hk⟩: ∃k,k=(Q0x ws).length:=⟨_,rfl⟩
 have HK:=Qh hk
 rw [<-hk] at hcc3⊢
 have B2:=Qh hb2
 have hs2:=hb2.size
 have LW:=Qh (HL.out.low (B2.out.mono (Nat.le_of_lt hdl)))
 clear hw2' hb2 hk CI CN
 try dsimp only
 go_upto_block 2 with fail
 go_cut [13] from 92 to 159 (fun okv wx=>wx=W2/\okv= .bool (o1 && Q7x v k))
 case first=>
  as_aux_lemma=>
   by_cases n_Deal:v=Z1P
   ·have HR:=Qh (show Q7x v k=decide (2<=k) by rw [n_Deal];rfl)
    have t_Deal:(sv.toList== [100,101,97,108])=true:=by rw [HSV.out,Q0a,n_Deal];rfl
    have t_Multiply:(sv.toList== [109,117,108,116,105,112,108,121])=false:=by rw [HSV.out,Q0a,n_Deal];decide
    have t_Open:(sv.toList== [111,112,101,110])=false:=by rw [HSV.out,Q0a,n_Deal];decide
    have t_Refresh:(sv.toList== [114,101,102,114,101,115,104])=false:=by rw [HSV.out,Q0a,n_Deal];decide
    have t_Clear:(sv.toList== [99,108,101,97,114])=false:=by rw [HSV.out,Q0a,n_Deal];decide
    have t_Show:(sv.toList== [115,104,111,119])=false:=by rw [HSV.out,Q0a,n_Deal];decide
    have t_Keys:(sv.toList== [107,101,121,115])=false:=by rw [HSV.out,Q0a,n_Deal];decide
    have t_Tweak:(sv.toList== [116,119,101,97,107])=false:=by rw [HSV.out,Q0a,n_Deal];decide
    have t_Combine:(sv.toList== [99,111,109,98,105,110,101])=false:=by rw [HSV.out,Q0a,n_Deal];decide
    have t_Key:(sv.toList== [107,101,121])=false:=by rw [HSV.out,Q0a,n_Deal];decide
    have t_Drop:(sv.toList== [100,114,111,112])=false:=by rw [HSV.out,Q0a,n_Deal];decide
    have t_Run:(sv.toList== [114,117,110])=false:=by rw [HSV.out,Q0a,n_Deal];decide
    have t_Gen:(sv.toList== [103,101,110])=false:=by rw [HSV.out,Q0a,n_Deal];decide
    clear n_Deal
    cases o1 with
    |false=>
     go_wp2_with fail
     go_meet
     case rel=>exact ⟨rfl,rfl⟩
    |true=>
     go_wp2_with fail
     go_meet
     case rel=>exact ⟨rfl,by rw [HR.out,Bool.true_and];congr 1;rw [Bool.eq_iff_iff];simp<;>omega⟩
   by_cases n_Multiply:v=Q2z
   ·have HR:=Qh (show Q7x v k=decide (2<=k) by rw [n_Multiply];rfl)
    have t_Deal:(sv.toList== [100,101,97,108])=false:=by rw [HSV.out,Q0a,n_Multiply];decide
    have t_Multiply:(sv.toList== [109,117,108,116,105,112,108,121])=true:=by rw [HSV.out,Q0a,n_Multiply];rfl
    have t_Open:(sv.toList== [111,112,101,110])=false:=by rw [HSV.out,Q0a,n_Multiply];decide
    have t_Refresh:(sv.toList== [114,101,102,114,101,115,104])=false:=by rw [HSV.out,Q0a,n_Multiply];decide
    have t_Clear:(sv.toList== [99,108,101,97,114])=false:=by rw [HSV.out,Q0a,n_Multiply];decide
    have t_Show:(sv.toList== [115,104,111,119])=false:=by rw [HSV.out,Q0a,n_Multiply];decide
    have t_Keys:(sv.toList== [107,101,121,115])=false:=by rw [HSV.out,Q0a,n_Multiply];decide
    have t_Tweak:(sv.toList== [116,119,101,97,107])=false:=by rw [HSV.out,Q0a,n_Multiply];decide
    have t_Combine:(sv.toList== [99,111,109,98,105,110,101])=false:=by rw [HSV.out,Q0a,n_Multiply];decide
    have t_Key:(sv.toList== [107,101,121])=false:=by rw [HSV.out,Q0a,n_Multiply];decide
    have t_Drop:(sv.toList== [100,114,111,112])=false:=by rw [HSV.out,Q0a,n_Multiply];decide
    have t_Run:(sv.toList== [114,117,110])=false:=by rw [HSV.out,Q0a,n_Multiply];decide
    have t_Gen:(sv.toList== [103,101,110])=false:=by rw [HSV.out,Q0a,n_Multiply];decide
    clear n_Multiply
    cases o1 with
    |false=>
     go_wp2_with fail
     go_meet
     case rel=>exact ⟨rfl,rfl⟩
    |true=>
     go_wp2_with fail
     go_meet
     case rel=>exact ⟨rfl,by rw [HR.out,Bool.true_and];congr 1;rw [Bool.eq_iff_iff];simp<;>omega⟩
   by_cases n_Open:v=Z1Q
   ·have HR:=Qh (show Q7x v k=decide (k % 2=1) by rw [n_Open];rfl)
    have t_Deal:(sv.toList== [100,101,97,108])=false:=by rw [HSV.out,Q0a,n_Open];decide
    have t_Multiply:(sv.toList== [109,117,108,116,105,112,108,121])=false:=by rw [HSV.out,Q0a,n_Open];decide
    have t_Open:(sv.toList== [111,112,101,110])=true:=by rw [HSV.out,Q0a,n_Open];rfl
    have t_Refresh:(sv.toList== [114,101,102,114,101,115,104])=false:=by rw [HSV.out,Q0a,n_Open];decide
    have t_Clear:(sv.toList== [99,108,101,97,114])=false:=by rw [HSV.out,Q0a,n_Open];decide
    have t_Show:(sv.toList== [115,104,111,119])=false:=by rw [HSV.out,Q0a,n_Open];decide
    have t_Keys:(sv.toList== [107,101,121,115])=false:=by rw [HSV.out,Q0a,n_Open];decide
    have t_Tweak:(sv.toList== [116,119,101,97,107])=false:=by rw [HSV.out,Q0a,n_Open];decide
    have t_Combine:(sv.toList== [99,111,109,98,105,110,101])=false:=by rw [HSV.out,Q0a,n_Open];decide
    have t_Key:(sv.toList== [107,101,121])=false:=by rw [HSV.out,Q0a,n_Open];decide
    have t_Drop:(sv.toList== [100,114,111,112])=false:=by rw [HSV.out,Q0a,n_Open];decide
    have t_Run:(sv.toList== [114,117,110])=false:=by rw [HSV.out,Q0a,n_Open];decide
    have t_Gen:(sv.toList== [103,101,110])=false:=by rw [HSV.out,Q0a,n_Open];decide
    clear n_Open
    cases o1 with
    |false=>
     go_wp2_with fail
     go_meet
     case rel=>exact ⟨rfl,rfl⟩
    |true=>
     go_wp2_with fail
     go_meet
     case rel=>exact ⟨rfl,by rw [HR.out,Bool.true_and];congr 1;rw [Bool.eq_iff_iff];simp<;>omega⟩
   by_cases n_Refresh:v=Q3s
   ·have HR:=Qh (show Q7x v k=decide (1<=k) by rw [n_Refresh];rfl)
    have t_Deal:(sv.toList== [100,101,97,108])=false:=by rw [HSV.out,Q0a,n_Refresh];decide
    have t_Multiply:(sv.toList== [109,117,108,116,105,112,108,121])=false:=by rw [HSV.out,Q0a,n_Refresh];decide
    have t_Open:(sv.toList== [111,112,101,110])=false:=by rw [HSV.out,Q0a,n_Refresh];decide
    have t_Refresh:(sv.toList== [114,101,102,114,101,115,104])=true:=by rw [HSV.out,Q0a,n_Refresh];rfl
    have t_Clear:(sv.toList== [99,108,101,97,114])=false:=by rw [HSV.out,Q0a,n_Refresh];decide
    have t_Show:(sv.toList== [115,104,111,119])=false:=by rw [HSV.out,Q0a,n_Refresh];decide
    have t_Keys:(sv.toList== [107,101,121,115])=false:=by rw [HSV.out,Q0a,n_Refresh];decide
    have t_Tweak:(sv.toList== [116,119,101,97,107])=false:=by rw [HSV.out,Q0a,n_Refresh];decide
    have t_Combine:(sv.toList== [99,111,109,98,105,110,101])=false:=by rw [HSV.out,Q0a,n_Refresh];decide
    have t_Key:(sv.toList== [107,101,121])=false:=by rw [HSV.out,Q0a,n_Refresh];decide
    have t_Drop:(sv.toList== [100,114,111,112])=false:=by rw [HSV.out,Q0a,n_Refresh];decide
    have t_Run:(sv.toList== [114,117,110])=false:=by rw [HSV.out,Q0a,n_Refresh];decide
    have t_Gen:(sv.toList== [103,101,110])=false:=by rw [HSV.out,Q0a,n_Refresh];decide
    clear n_Refresh
    cases o1 with
    |false=>
     go_wp2_with fail
     go_meet
     case rel=>exact ⟨rfl,rfl⟩
    |true=>
     go_wp2_with fail
     go_meet
     case rel=>exact ⟨rfl,by rw [HR.out,Bool.true_and];congr 1;rw [Bool.eq_iff_iff];simp<;>omega⟩
   by_cases n_Clear:v=Q7v
   ·have HR:=Qh (show Q7x v k=decide (k=0) by rw [n_Clear];rfl)
    have t_Deal:(sv.toList== [100,101,97,108])=false:=by rw [HSV.out,Q0a,n_Clear];decide
    have t_Multiply:(sv.toList== [109,117,108,116,105,112,108,121])=false:=by rw [HSV.out,Q0a,n_Clear];decide
    have t_Open:(sv.toList== [111,112,101,110])=false:=by rw [HSV.out,Q0a,n_Clear];decide
    have t_Refresh:(sv.toList== [114,101,102,114,101,115,104])=false:=by rw [HSV.out,Q0a,n_Clear];decide
    have t_Clear:(sv.toList== [99,108,101,97,114])=true:=by rw [HSV.out,Q0a,n_Clear];rfl
    have t_Show:(sv.toList== [115,104,111,119])=false:=by rw [HSV.out,Q0a,n_Clear];decide
    have t_Keys:(sv.toList== [107,101,121,115])=false:=by rw [HSV.out,Q0a,n_Clear];decide
    have t_Tweak:(sv.toList== [116,119,101,97,107])=false:=by rw [HSV.out,Q0a,n_Clear];decide
    have t_Combine:(sv.toList== [99,111,109,98,105,110,101])=false:=by rw [HSV.out,Q0a,n_Clear];decide
    have t_Key:(sv.toList== [107,101,121])=false:=by rw [HSV.out,Q0a,n_Clear];decide
    have t_Drop:(sv.toList== [100,114,111,112])=false:=by rw [HSV.out,Q0a,n_Clear];decide
    have t_Run:(sv.toList== [114,117,110])=false:=by rw [HSV.out,Q0a,n_Clear];decide
    have t_Gen:(sv.toList== [103,101,110])=false:=by rw [HSV.out,Q0a,n_Clear];decide
    clear n_Clear
    cases o1 with
    |false=>
     go_wp2_with fail
     go_meet
     case rel=>exact ⟨rfl,rfl⟩
    |true=>
     go_wp2_with fail
     go_meet
     case rel=>exact ⟨rfl,by rw [HR.out,Bool.true_and];congr 1;rw [Bool.eq_iff_iff];simp<;>omega⟩
   by_cases n_Show:v=Q8v
   ·have HR:=Qh (show Q7x v k=decide (k=0) by rw [n_Show];rfl)
    have t_Deal:(sv.toList== [100,101,97,108])=false:=by rw [HSV.out,Q0a,n_Show];decide
    have t_Multiply:(sv.toList== [109,117,108,116,105,112,108,121])=false:=by rw [HSV.out,Q0a,n_Show];decide
    have t_Open:(sv.toList== [111,112,101,110])=false:=by rw [HSV.out,Q0a,n_Show];decide
    have t_Refresh:(sv.toList== [114,101,102,114,101,115,104])=false:=by rw [HSV.out,Q0a,n_Show];decide
    have t_Clear:(sv.toList== [99,108,101,97,114])=false:=by rw [HSV.out,Q0a,n_Show];decide
    have t_Show:(sv.toList== [115,104,111,119])=true:=by rw [HSV.out,Q0a,n_Show];rfl
    have t_Keys:(sv.toList== [107,101,121,115])=false:=by rw [HSV.out,Q0a,n_Show];decide
    have t_Tweak:(sv.toList== [116,119,101,97,107])=false:=by rw [HSV.out,Q0a,n_Show];decide
    have t_Combine:(sv.toList== [99,111,109,98,105,110,101])=false:=by rw [HSV.out,Q0a,n_Show];decide
    have t_Key:(sv.toList== [107,101,121])=false:=by rw [HSV.out,Q0a,n_Show];decide
    have t_Drop:(sv.toList== [100,114,111,112])=false:=by rw [HSV.out,Q0a,n_Show];decide
    have t_Run:(sv.toList== [114,117,110])=false:=by rw [HSV.out,Q0a,n_Show];decide
    have t_Gen:(sv.toList== [103,101,110])=false:=by rw [HSV.out,Q0a,n_Show];decide
    clear n_Show
    cases o1 with
    |false=>
     go_wp2_with fail
     go_meet
     case rel=>exact ⟨rfl,rfl⟩
    |true=>
     go_wp2_with fail
     go_meet
     case rel=>exact ⟨rfl,by rw [HR.out,Bool.true_and];congr 1;rw [Bool.eq_iff_iff];simp<;>omega⟩
   by_cases n_Keys:v=Z1R
   ·have HR:=Qh (show Q7x v k=decide (k=2) by rw [n_Keys];rfl)
    have t_Deal:(sv.toList== [100,101,97,108])=false:=by rw [HSV.out,Q0a,n_Keys];decide
    have t_Multiply:(sv.toList== [109,117,108,116,105,112,108,121])=false:=by rw [HSV.out,Q0a,n_Keys];decide
    have t_Open:(sv.toList== [111,112,101,110])=false:=by rw [HSV.out,Q0a,n_Keys];decide
    have t_Refresh:(sv.toList== [114,101,102,114,101,115,104])=false:=by rw [HSV.out,Q0a,n_Keys];decide
    have t_Clear:(sv.toList== [99,108,101,97,114])=false:=by rw [HSV.out,Q0a,n_Keys];decide
    have t_Show:(sv.toList== [115,104,111,119])=false:=by rw [HSV.out,Q0a,n_Keys];decide
    have t_Keys:(sv.toList== [107,101,121,115])=true:=by rw [HSV.out,Q0a,n_Keys];rfl
    have t_Tweak:(sv.toList== [116,119,101,97,107])=false:=by rw [HSV.out,Q0a,n_Keys];decide
    have t_Combine:(sv.toList== [99,111,109,98,105,110,101])=false:=by rw [HSV.out,Q0a,n_Keys];decide
    have t_Key:(sv.toList== [107,101,121])=false:=by rw [HSV.out,Q0a,n_Keys];decide
    have t_Drop:(sv.toList== [100,114,111,112])=false:=by rw [HSV.out,Q0a,n_Keys];decide
    have t_Run:(sv.toList== [114,117,110])=false:=by rw [HSV.out,Q0a,n_Keys];decide
    have t_Gen:(sv.toList== [103,101,110])=false:=by rw [HSV.out,Q0a,n_Keys];decide
    clear n_Keys
    cases o1 with
    |false=>
     go_wp2_with fail
     go_meet
     case rel=>exact ⟨rfl,rfl⟩
    |true=>
     go_wp2_with fail
     go_meet
     case rel=>exact ⟨rfl,by rw [HR.out,Bool.true_and];congr 1;rw [Bool.eq_iff_iff];simp<;>omega⟩
   by_cases n_Tweak:v=Q6E
   ·have HR:=Qh (show Q7x v k=decide (k=2) by rw [n_Tweak];rfl)
    have t_Deal:(sv.toList== [100,101,97,108])=false:=by rw [HSV.out,Q0a,n_Tweak];decide
    have t_Multiply:(sv.toList== [109,117,108,116,105,112,108,121])=false:=by rw [HSV.out,Q0a,n_Tweak];decide
    have t_Open:(sv.toList== [111,112,101,110])=false:=by rw [HSV.out,Q0a,n_Tweak];decide
    have t_Refresh:(sv.toList== [114,101,102,114,101,115,104])=false:=by rw [HSV.out,Q0a,n_Tweak];decide
    have t_Clear:(sv.toList== [99,108,101,97,114])=false:=by rw [HSV.out,Q0a,n_Tweak];decide
    have t_Show:(sv.toList== [115,104,111,119])=false:=by rw [HSV.out,Q0a,n_Tweak];decide
    have t_Keys:(sv.toList== [107,101,121,115])=false:=by rw [HSV.out,Q0a,n_Tweak];decide
    have t_Tweak:(sv.toList== [116,119,101,97,107])=true:=by rw [HSV.out,Q0a,n_Tweak];rfl
    have t_Combine:(sv.toList== [99,111,109,98,105,110,101])=false:=by rw [HSV.out,Q0a,n_Tweak];decide
    have t_Key:(sv.toList== [107,101,121])=false:=by rw [HSV.out,Q0a,n_Tweak];decide
    have t_Drop:(sv.toList== [100,114,111,112])=false:=by rw [HSV.out,Q0a,n_Tweak];decide
    have t_Run:(sv.toList== [114,117,110])=false:=by rw [HSV.out,Q0a,n_Tweak];decide
    have t_Gen:(sv.toList== [103,101,110])=false:=by rw [HSV.out,Q0a,n_Tweak];decide
    clear n_Tweak
    cases o1 with
    |false=>
     go_wp2_with fail
     go_meet
     case rel=>exact ⟨rfl,rfl⟩
    |true=>
     go_wp2_with fail
     go_meet
     case rel=>exact ⟨rfl,by rw [HR.out,Bool.true_and];congr 1;rw [Bool.eq_iff_iff];simp<;>omega⟩
   by_cases n_Combine:v=Q3t
   ·have HR:=Qh (show Q7x v k=decide (k=4) by rw [n_Combine];rfl)
    have t_Deal:(sv.toList== [100,101,97,108])=false:=by rw [HSV.out,Q0a,n_Combine];decide
    have t_Multiply:(sv.toList== [109,117,108,116,105,112,108,121])=false:=by rw [HSV.out,Q0a,n_Combine];decide
    have t_Open:(sv.toList== [111,112,101,110])=false:=by rw [HSV.out,Q0a,n_Combine];decide
    have t_Refresh:(sv.toList== [114,101,102,114,101,115,104])=false:=by rw [HSV.out,Q0a,n_Combine];decide
    have t_Clear:(sv.toList== [99,108,101,97,114])=false:=by rw [HSV.out,Q0a,n_Combine];decide
    have t_Show:(sv.toList== [115,104,111,119])=false:=by rw [HSV.out,Q0a,n_Combine];decide
    have t_Keys:(sv.toList== [107,101,121,115])=false:=by rw [HSV.out,Q0a,n_Combine];decide
    have t_Tweak:(sv.toList== [116,119,101,97,107])=false:=by rw [HSV.out,Q0a,n_Combine];decide
    have t_Combine:(sv.toList== [99,111,109,98,105,110,101])=true:=by rw [HSV.out,Q0a,n_Combine];rfl
    have t_Key:(sv.toList== [107,101,121])=false:=by rw [HSV.out,Q0a,n_Combine];decide
    have t_Drop:(sv.toList== [100,114,111,112])=false:=by rw [HSV.out,Q0a,n_Combine];decide
    have t_Run:(sv.toList== [114,117,110])=false:=by rw [HSV.out,Q0a,n_Combine];decide
    have t_Gen:(sv.toList== [103,101,110])=false:=by rw [HSV.out,Q0a,n_Combine];decide
    clear n_Combine
    cases o1 with
    |false=>
     go_wp2_with fail
     go_meet
     case rel=>exact ⟨rfl,rfl⟩
    |true=>
     go_wp2_with fail
     go_meet
     case rel=>exact ⟨rfl,by rw [HR.out,Bool.true_and];congr 1;rw [Bool.eq_iff_iff];simp<;>omega⟩
   by_cases n_Key:v=Y0r
   ·have HR:=Qh (show Q7x v k=decide (k=1) by rw [n_Key];rfl)
    have t_Deal:(sv.toList== [100,101,97,108])=false:=by rw [HSV.out,Q0a,n_Key];decide
    have t_Multiply:(sv.toList== [109,117,108,116,105,112,108,121])=false:=by rw [HSV.out,Q0a,n_Key];decide
    have t_Open:(sv.toList== [111,112,101,110])=false:=by rw [HSV.out,Q0a,n_Key];decide
    have t_Refresh:(sv.toList== [114,101,102,114,101,115,104])=false:=by rw [HSV.out,Q0a,n_Key];decide
    have t_Clear:(sv.toList== [99,108,101,97,114])=false:=by rw [HSV.out,Q0a,n_Key];decide
    have t_Show:(sv.toList== [115,104,111,119])=false:=by rw [HSV.out,Q0a,n_Key];decide
    have t_Keys:(sv.toList== [107,101,121,115])=false:=by rw [HSV.out,Q0a,n_Key];decide
    have t_Tweak:(sv.toList== [116,119,101,97,107])=false:=by rw [HSV.out,Q0a,n_Key];decide
    have t_Combine:(sv.toList== [99,111,109,98,105,110,101])=false:=by rw [HSV.out,Q0a,n_Key];decide
    have t_Key:(sv.toList== [107,101,121])=true:=by rw [HSV.out,Q0a,n_Key];rfl
    have t_Drop:(sv.toList== [100,114,111,112])=false:=by rw [HSV.out,Q0a,n_Key];decide
    have t_Run:(sv.toList== [114,117,110])=false:=by rw [HSV.out,Q0a,n_Key];decide
    have t_Gen:(sv.toList== [103,101,110])=false:=by rw [HSV.out,Q0a,n_Key];decide
    clear n_Key
    cases o1 with
    |false=>
     go_wp2_with fail
     go_meet
     case rel=>exact ⟨rfl,rfl⟩
    |true=>
     go_wp2_with fail
     go_meet
     case rel=>exact ⟨rfl,by rw [HR.out,Bool.true_and];congr 1;rw [Bool.eq_iff_iff];simp<;>omega⟩
   by_cases n_Drop:v=Z1f
   ·have HR:=Qh (show Q7x v k=decide (k=1) by rw [n_Drop];rfl)
    have t_Deal:(sv.toList== [100,101,97,108])=false:=by rw [HSV.out,Q0a,n_Drop];decide
    have t_Multiply:(sv.toList== [109,117,108,116,105,112,108,121])=false:=by rw [HSV.out,Q0a,n_Drop];decide
    have t_Open:(sv.toList== [111,112,101,110])=false:=by rw [HSV.out,Q0a,n_Drop];decide
    have t_Refresh:(sv.toList== [114,101,102,114,101,115,104])=false:=by rw [HSV.out,Q0a,n_Drop];decide
    have t_Clear:(sv.toList== [99,108,101,97,114])=false:=by rw [HSV.out,Q0a,n_Drop];decide
    have t_Show:(sv.toList== [115,104,111,119])=false:=by rw [HSV.out,Q0a,n_Drop];decide
    have t_Keys:(sv.toList== [107,101,121,115])=false:=by rw [HSV.out,Q0a,n_Drop];decide
    have t_Tweak:(sv.toList== [116,119,101,97,107])=false:=by rw [HSV.out,Q0a,n_Drop];decide
    have t_Combine:(sv.toList== [99,111,109,98,105,110,101])=false:=by rw [HSV.out,Q0a,n_Drop];decide
    have t_Key:(sv.toList== [107,101,121])=false:=by rw [HSV.out,Q0a,n_Drop];decide
    have t_Drop:(sv.toList== [100,114,111,112])=true:=by rw [HSV.out,Q0a,n_Drop];rfl
    have t_Run:(sv.toList== [114,117,110])=false:=by rw [HSV.out,Q0a,n_Drop];decide
    have t_Gen:(sv.toList== [103,101,110])=false:=by rw [HSV.out,Q0a,n_Drop];decide
    clear n_Drop
    cases o1 with
    |false=>
     go_wp2_with fail
     go_meet
     case rel=>exact ⟨rfl,rfl⟩
    |true=>
     go_wp2_with fail
     go_meet
     case rel=>exact ⟨rfl,by rw [HR.out,Bool.true_and];congr 1;rw [Bool.eq_iff_iff];simp<;>omega⟩
   by_cases n_Run:v=Z6G
   ·have HR:=Qh (show Q7x v k=decide (True) by rw [n_Run];rfl)
    have t_Deal:(sv.toList== [100,101,97,108])=false:=by rw [HSV.out,Q0a,n_Run];decide
    have t_Multiply:(sv.toList== [109,117,108,116,105,112,108,121])=false:=by rw [HSV.out,Q0a,n_Run];decide
    have t_Open:(sv.toList== [111,112,101,110])=false:=by rw [HSV.out,Q0a,n_Run];decide
    have t_Refresh:(sv.toList== [114,101,102,114,101,115,104])=false:=by rw [HSV.out,Q0a,n_Run];decide
    have t_Clear:(sv.toList== [99,108,101,97,114])=false:=by rw [HSV.out,Q0a,n_Run];decide
    have t_Show:(sv.toList== [115,104,111,119])=false:=by rw [HSV.out,Q0a,n_Run];decide
    have t_Keys:(sv.toList== [107,101,121,115])=false:=by rw [HSV.out,Q0a,n_Run];decide
    have t_Tweak:(sv.toList== [116,119,101,97,107])=false:=by rw [HSV.out,Q0a,n_Run];decide
    have t_Combine:(sv.toList== [99,111,109,98,105,110,101])=false:=by rw [HSV.out,Q0a,n_Run];decide
    have t_Key:(sv.toList== [107,101,121])=false:=by rw [HSV.out,Q0a,n_Run];decide
    have t_Drop:(sv.toList== [100,114,111,112])=false:=by rw [HSV.out,Q0a,n_Run];decide
    have t_Run:(sv.toList== [114,117,110])=true:=by rw [HSV.out,Q0a,n_Run];rfl
    have t_Gen:(sv.toList== [103,101,110])=false:=by rw [HSV.out,Q0a,n_Run];decide
    clear n_Run
    cases o1 with
    |false=>
     go_wp2_with fail
     go_meet
     case rel=>exact ⟨rfl,rfl⟩
    |true=>
     go_wp2_with fail
     go_meet
     case rel=>exact ⟨rfl,by rw [HR.out];rfl⟩
   by_cases n_Gen:v=Y0q
   ·have HR:=Qh (show Q7x v k=decide (True) by rw [n_Gen];rfl)
    have t_Deal:(sv.toList== [100,101,97,108])=false:=by rw [HSV.out,Q0a,n_Gen];decide
    have t_Multiply:(sv.toList== [109,117,108,116,105,112,108,121])=false:=by rw [HSV.out,Q0a,n_Gen];decide
    have t_Open:(sv.toList== [111,112,101,110])=false:=by rw [HSV.out,Q0a,n_Gen];decide
    have t_Refresh:(sv.toList== [114,101,102,114,101,115,104])=false:=by rw [HSV.out,Q0a,n_Gen];decide
    have t_Clear:(sv.toList== [99,108,101,97,114])=false:=by rw [HSV.out,Q0a,n_Gen];decide
    have t_Show:(sv.toList== [115,104,111,119])=false:=by rw [HSV.out,Q0a,n_Gen];decide
    have t_Keys:(sv.toList== [107,101,121,115])=false:=by rw [HSV.out,Q0a,n_Gen];decide
    have t_Tweak:(sv.toList== [116,119,101,97,107])=false:=by rw [HSV.out,Q0a,n_Gen];decide
    have t_Combine:(sv.toList== [99,111,109,98,105,110,101])=false:=by rw [HSV.out,Q0a,n_Gen];decide
    have t_Key:(sv.toList== [107,101,121])=false:=by rw [HSV.out,Q0a,n_Gen];decide
    have t_Drop:(sv.toList== [100,114,111,112])=false:=by rw [HSV.out,Q0a,n_Gen];decide
    have t_Run:(sv.toList== [114,117,110])=false:=by rw [HSV.out,Q0a,n_Gen];decide
    have t_Gen:(sv.toList== [103,101,110])=true:=by rw [HSV.out,Q0a,n_Gen];rfl
    clear n_Gen
    cases o1 with
    |false=>
     go_wp2_with fail
     go_meet
     case rel=>exact ⟨rfl,rfl⟩
    |true=>
     go_wp2_with fail
     go_meet
     case rel=>exact ⟨rfl,by rw [HR.out];rfl⟩
   have HR:=Qh (Z6R k n_Deal n_Multiply n_Open n_Refresh n_Clear n_Show n_Keys n_Tweak n_Combine n_Key n_Drop n_Run n_Gen)
   have t_Deal:(sv.toList== [100,101,97,108])=false:=by rw [HSV.out,Q0a,beq_eq_false_iff_ne];exact n_Deal
   have t_Multiply:(sv.toList== [109,117,108,116,105,112,108,121])=false:=by rw [HSV.out,Q0a,beq_eq_false_iff_ne];exact n_Multiply
   have t_Open:(sv.toList== [111,112,101,110])=false:=by rw [HSV.out,Q0a,beq_eq_false_iff_ne];exact n_Open
   have t_Refresh:(sv.toList== [114,101,102,114,101,115,104])=false:=by rw [HSV.out,Q0a,beq_eq_false_iff_ne];exact n_Refresh
   have t_Clear:(sv.toList== [99,108,101,97,114])=false:=by rw [HSV.out,Q0a,beq_eq_false_iff_ne];exact n_Clear
   have t_Show:(sv.toList== [115,104,111,119])=false:=by rw [HSV.out,Q0a,beq_eq_false_iff_ne];exact n_Show
   have t_Keys:(sv.toList== [107,101,121,115])=false:=by rw [HSV.out,Q0a,beq_eq_false_iff_ne];exact n_Keys
   have t_Tweak:(sv.toList== [116,119,101,97,107])=false:=by rw [HSV.out,Q0a,beq_eq_false_iff_ne];exact n_Tweak
   have t_Combine:(sv.toList== [99,111,109,98,105,110,101])=false:=by rw [HSV.out,Q0a,beq_eq_false_iff_ne];exact n_Combine
   have t_Key:(sv.toList== [107,101,121])=false:=by rw [HSV.out,Q0a,beq_eq_false_iff_ne];exact n_Key
   have t_Drop:(sv.toList== [100,114,111,112])=false:=by rw [HSV.out,Q0a,beq_eq_false_iff_ne];exact n_Drop
   have t_Run:(sv.toList== [114,117,110])=false:=by rw [HSV.out,Q0a,beq_eq_false_iff_ne];exact n_Run
   have t_Gen:(sv.toList== [103,101,110])=false:=by rw [HSV.out,Q0a,beq_eq_false_iff_ne];exact n_Gen
   clear n_Deal n_Multiply n_Open n_Refresh n_Clear n_Show n_Keys n_Tweak n_Combine n_Key n_Drop n_Run n_Gen
   go_wp2_with fail
   go_meet
   case rel=>exact ⟨rfl,by rw [HR.out,Bool.and_false]⟩
 case rest=>
  obtain ⟨rfl,rfl⟩:=hcut
  have hwc:=HSAME.out
  cases hokc:(o1 && Q7x v k) with
  |false=>
   have HE:=Qh (show∀w',Below w.heap.size w w'->Post (.returned (.string (bs (Q2h 3)))) w' from by
    cases h1:o1 with
    |false=>exact HBAD.out (by rw [h1];rfl)
    |true=>
     have hkN:k=N:=by rw [HK.out,HNL.out];exact HKL.out (by rw [<-HO1.out];exact h1)
     exact HBAD.out (by rw [<-hkN];exact hokc))
   have CF:=Qh (Q1L 3 wc (by omega) (by omega) LW.out.lay.2.1)
   clear hokc hwc
   go_wp2_with fail
   refine CF.out.mono ?_
   rintro e W3 ⟨rfl,hb⟩
   have BB:=Qh (Q0b B2.out hb hs2)
   clear hb
   try dsimp only
   go_wp2_with fail
   exact HE.out _ BB.out
  |true=>
   rw [Bool.and_eq_true] at hokc
   obtain ⟨ho,hcb⟩:=hokc
   have hok:=HO1.out.symm.trans ho
   have hkN:k=N:=by rw [HK.out,HNL.out];exact HKL.out hok
   have HST:=Qh (HGOOD.out hok)
   obtain ⟨n,hn⟩: ∃n,n=ws.map Q2s:=⟨_,rfl⟩
   have hkn:k=n.length:=by rw [hkN,HNL.out,hn,List.length_map]
   have HKN:=Qh hkn
   have HN0:=Qh (show∀z∈n,0<=z by rw [hn];exact Q3v hok)
   have K3:=Qh (show Q0j wc w.heap.size (.slice A3 k c3) n by rw [hkn];have h:=K2.out;rw [Q7R hok,<-hn] at h;exact h)
   have HCB:=Qh hcb
   rw [<-hn] at HST
   have hk5:k<=100000:=by rw [hkN,HNL.out];exact hwl
   have D2:=Qh (HD.out.below B2.out)
   obtain ⟨kp,hbx,hkp⟩:=D2.out
   have BX2:=Qh hbx
   have HKP2:=Qh hkp
   have hdl2:=hbx.lt
   clear ho hcb hok hkN hn hkn hwc hbx hkp
   by_cases n_Clear:v=Q7v
   ·have hz:=0
    have t_Deal:(sv.toList== [100,101,97,108])=false:=by rw [HSV.out,Q0a,n_Clear];decide
    have t_Open:(sv.toList== [111,112,101,110])=false:=by rw [HSV.out,Q0a,n_Clear];decide
    have t_Clear:(sv.toList== [99,108,101,97,114])=true:=by rw [HSV.out,Q0a,n_Clear];rfl
    have t_Show:(sv.toList== [115,104,111,119])=false:=by rw [HSV.out,Q0a,n_Clear];decide
    have t_Run:(sv.toList== [114,117,110])=false:=by rw [HSV.out,Q0a,n_Clear];decide
    have t_Keys:(sv.toList== [107,101,121,115])=false:=by rw [HSV.out,Q0a,n_Clear];decide
    have hk0:n.length=0:=by have:=HCB.out;rw [n_Clear,Z6P] at this;rw [<-HKN.out];exact of_decide_eq_true this
    have HK9:=Qh (HNEW.out okT ⟨[],b.ks⟩ (by rw [HST.out,show Q0P b v n=some (okT,⟨[],b.ks⟩) from by unfold Q0P;rw [if_neg (by rw [n_Clear];decide),if_neg (by rw [n_Clear];decide),if_pos n_Clear,if_pos hk0]];rfl) (wc.setCell ⟨db,0,none⟩ (.string (bs []))) ⟨kp,(show Box _ db 47 [.string (bs []),kp] from BX2.out.set 0 (.string (bs []))),HKP2.out.grown (Q0F wc db 0 (.string (bs []))) hdb⟩ ((Left.of_below B2.out).trans (.of_grown (Q0F wc db 0 (.string (bs []))))))
    have hf0:=BX2.out.frozen 0
    have hq0:=BX2.out.cell (i:=0) rfl
    clear n_Clear hz hk0
    go_wp2_with fail
    exact HK9.out
   by_cases n_Show:v=Q8v
   ·have hz:=0
    have t_Deal:(sv.toList== [100,101,97,108])=false:=by rw [HSV.out,Q0a,n_Show];decide
    have t_Open:(sv.toList== [111,112,101,110])=false:=by rw [HSV.out,Q0a,n_Show];decide
    have t_Clear:(sv.toList== [99,108,101,97,114])=false:=by rw [HSV.out,Q0a,n_Show];decide
    have t_Show:(sv.toList== [115,104,111,119])=true:=by rw [HSV.out,Q0a,n_Show];rfl
    have t_Run:(sv.toList== [114,117,110])=false:=by rw [HSV.out,Q0a,n_Show];decide
    have t_Keys:(sv.toList== [107,101,121,115])=false:=by rw [HSV.out,Q0a,n_Show];decide
    have hk0:n.length=0:=by have:=HCB.out;rw [n_Show,Y1j] at this;rw [<-HKN.out];exact of_decide_eq_true this
    have HK9:=Qh (HSAME.out (Q5e b.tx Q7Q) (by rw [HST.out,show Q0P b v n=some (Q5e b.tx Q7Q,b) from by unfold Q0P;rw [if_neg (by rw [n_Show];decide),if_neg (by rw [n_Show];decide),if_neg (by rw [n_Show];decide),if_pos n_Show,if_pos hk0]];rfl))
    clear hk0
    have CC:=Qh (Z6g (.slice A3 k c3) (.slice none 0 0) db b.tx kp wc BX2.out LW.out.lay)
    rw [show bs Q8v=sv by rw [HSV.out,n_Show]] at CC
    clear n_Show hz
    go_wp2_with fail
    refine CC.out.mono ?_
    rintro e W3 ⟨rfl,hb⟩
    have BB:=Qh (Q0b B2.out hb hs2)
    clear hb
    try dsimp only
    go_wp2_with fail
    exact HK9.out _ BB.out
   by_cases n_Run:v=Z6G
   ·have hz:=0
    have t_Deal:(sv.toList== [100,101,97,108])=false:=by rw [HSV.out,Q0a,n_Run];decide
    have t_Open:(sv.toList== [111,112,101,110])=false:=by rw [HSV.out,Q0a,n_Run];decide
    have t_Clear:(sv.toList== [99,108,101,97,114])=false:=by rw [HSV.out,Q0a,n_Run];decide
    have t_Show:(sv.toList== [115,104,111,119])=false:=by rw [HSV.out,Q0a,n_Run];decide
    have t_Run:(sv.toList== [114,117,110])=true:=by rw [HSV.out,Q0a,n_Run];rfl
    have t_Keys:(sv.toList== [107,101,121,115])=false:=by rw [HSV.out,Q0a,n_Run];decide
    have HK9:=Qh (HSAME.out (Q5e b.tx (Z3x n)) (by rw [HST.out,show Q0P b v n=some (Q5e b.tx (Z3x n),b) from by unfold Q0P;rw [if_neg (by rw [n_Run];decide),if_neg (by rw [n_Run];decide),if_neg (by rw [n_Run];decide),if_neg (by rw [n_Run];decide),if_pos n_Run]];rfl))
    have CC:=Qh (Z8v (.slice A3 k c3) (.slice none 0 0) n db b.tx kp wc BX2.out LW.out.lay K3.out.is HN0.out)
    rw [show bs Z6G=sv by rw [HSV.out,n_Run]] at CC
    clear n_Run hz
    go_wp2_with fail
    refine CC.out.mono ?_
    rintro e W3 ⟨rfl,hb⟩
    have BB:=Qh (Q0b B2.out hb hs2)
    clear hb
    try dsimp only
    go_wp2_with fail
    exact HK9.out _ BB.out
   by_cases n_Keys:v=Z1R
   ·have hz:=0
    have t_Deal:(sv.toList== [100,101,97,108])=false:=by rw [HSV.out,Q0a,n_Keys];decide
    have t_Open:(sv.toList== [111,112,101,110])=false:=by rw [HSV.out,Q0a,n_Keys];decide
    have t_Clear:(sv.toList== [99,108,101,97,114])=false:=by rw [HSV.out,Q0a,n_Keys];decide
    have t_Show:(sv.toList== [115,104,111,119])=false:=by rw [HSV.out,Q0a,n_Keys];decide
    have t_Run:(sv.toList== [114,117,110])=false:=by rw [HSV.out,Q0a,n_Keys];decide
    have t_Keys:(sv.toList== [107,101,121,115])=true:=by rw [HSV.out,Q0a,n_Keys];rfl
    have hk2:n.length=2:=by have:=HCB.out;rw [n_Keys,Y1k] at this;rw [<-HKN.out];exact of_decide_eq_true this
    have HPLN:=Qh (show Q0P b v n=some (Y0t b (n.getD 0 0) (n.getD 1 0)) from by unfold Q0P;rw [if_neg (by rw [n_Keys];decide),if_neg (by rw [n_Keys];decide),if_neg (by rw [n_Keys];decide),if_neg (by rw [n_Keys];decide),if_neg (by rw [n_Keys];decide),if_pos n_Keys,if_pos hk2])
    obtain ⟨z0,z1,rfl⟩: ∃z0 z1,n= [z0,z1]:=by
     match n,hk2 with
     | [z0,z1],_=>exact ⟨z0,z1,rfl⟩
    have hkk:k=2:=HKN.out
    obtain ⟨b3,c3',hv,hlo3,l_b,hcell⟩:=Q1E K3.out (by simp)
    injection hv with hv1 hv2 hv3
    subst hv1 hv3
    clear hv2
    subst hkk
    have hdb3:db≠b3:=by omega
    have y0:=hcell 0 z0 rfl
    have y1:=hcell 1 z1 rfl
    have CE:=Qh (fun W (hW:Lay W)=>Q1L 1 W (by omega) (by omega) hW.2.1)
    by_cases hok:0<=z1/\z1<=4/\1<=z0/\z0<=9/\2 * z1+1<=z0
    ·have HOK2:=Qh hok
     have CI1:=Qh (fun q=>Q1N z1 0 4 (wc.drewN q))
     have CI2:=Qh (fun q=>Q1N z0 (2 * z1+1) 9 (wc.drewN q))
     rw [decide_eq_true (show 0<=z1/\z1<=4 by omega)] at CI1
     rw [decide_eq_true (show 2 * z1+1<=z0/\z0<=9 by omega)] at CI2
     have hwm:IntKind.i64.wrap (2 * z1)=2 * z1:=IntWalk.i64_in _ (by omega)
     have hwa:IntKind.i64.wrap (2 * z1+1)=2 * z1+1:=IntWalk.i64_in _ (by omega)
     clear hok n_Keys hz hk2 hcell CE
     go_wp2_with fail
     go_quiet (first|with_reducible exact Q1b (CI1.out _)|with_reducible exact Q1b (CI2.out _))
     have hok:=HOK2.out
     have HK9:=Qh (HNEW.out okT ⟨b.tx,some ⟨z0.toNat,z1.toNat,0,0,fun _=>none⟩⟩ (by rw [HST.out,HPLN.out];exact if_pos hok))
     obtain ⟨Tn,rfl⟩:=Int.eq_ofNat_of_zero_le hok.1
     obtain ⟨Nn,rfl⟩:=Int.eq_ofNat_of_zero_le (show 0<=z0 by omega)
     rw [Int.toNat_natCast,Int.toNat_natCast] at HK9
     clear hok hwm hwa
     obtain ⟨wq,hwq⟩: ∃wq,wq=wc.drewN nq:=⟨_,rfl⟩
     rw [<-hwq]
     have BQ:=Qh (show Below wc.heap.size wc wq by rw [hwq];exact below_drewN (Below.refl _ _) nq)
     have CN:=Qh (fun q=>Y5a Nn Tn (wq.drewN q))
     have hsq:=BQ.out.size
     have lbq:=Nat.lt_of_lt_of_le l_b hsq
     have yq0:=(BQ.out.cell (p:=⟨b3,0,none⟩) l_b).trans y0
     have yq1:=(BQ.out.cell (p:=⟨b3,1,none⟩) l_b).trans y1
     have BXQ:=Qh (BX2.out.below BQ.out)
     have hbq:base<=wq.heap.size:=Nat.le_trans hbw (Nat.le_trans hs2 hsq)
     clear hwq CI1 CI2 y0 y1
     go_wp2_with fail
     go_region_held3 (fun w'=>w'.cell? ⟨b3,0,none⟩=some (.int .i64 (Nn:Int))/\w'.cell? ⟨b3,1,none⟩=some (.int .i64 (Tn:Int))) (go_keep) ((go_at_call 42;refine (CN.out _).mono ?_;rintro e W1 ⟨kb,mb,V,rfl,hk,hb⟩;have D1:=Qh ((below_drewN (Below.refl wq.heap.size wq) _).trans hb);have q1_0:=(D1.out.cell (p:=⟨b3,0,none⟩) lbq).trans yq0;have q1_1:=(D1.out.cell (p:=⟨b3,1,none⟩) lbq).trans yq1;have BXN:=Qh (BXQ.out.below D1.out);have HKS:=Qh hk;have hf1:=BXN.out.frozen 1;have hq1:=BXN.out.cell (i:=1) rfl;have qs0:=(World.cell?_setCell_far W1 ⟨db,1,none⟩ ⟨b3,0,none⟩ (.pointer (some ⟨kb,0,none⟩)) hdb3).trans q1_0;have qs1:=(World.cell?_setCell_far W1 ⟨db,1,none⟩ ⟨b3,1,none⟩ (.pointer (some ⟨kb,0,none⟩)) hdb3).trans q1_1;clear hk hb CN))
     have G3:=Qh (Q0F W1 db 1 (.pointer (some ⟨kb,0,none⟩)))
     have KI3:=Qh (Q8w.grown (show Q8w W1 base (.pointer (some ⟨kb,0,none⟩)) (some ⟨Nn,Tn,0,0,fun _=>none⟩) from ⟨kb,mb,V,rfl,HKS.out.less hbq⟩) G3.out hdb)
     have HKK:=Qh (HK9.out _ ⟨_,BXN.out.set 1 (.pointer (some ⟨kb,0,none⟩)),KI3.out⟩ ((((Left.of_below B2.out).below BQ.out).below D1.out).trans (.of_grown G3.out)))
     go_wp2_with fail
     exact HKK.out
    ·have HK9:=Qh (HSAME.out (Q2h 1) (by rw [HST.out,HPLN.out];exact if_neg hok))
     have CI1:=Qh (fun q=>Q1N z1 0 4 (wc.drewN q))
     have CI2:=Qh (fun q=>Q1N z0 (2 * z1+1) 9 (wc.drewN q))
     by_cases h4:0<=z1/\z1<=4
     ·have h5: ¬(2 * z1+1<=z0/\z0<=9):=fun h=>hok (by omega)
      rw [decide_eq_true h4] at CI1
      rw [decide_eq_false h5] at CI2
      have hwm:IntKind.i64.wrap (2 * z1)=2 * z1:=IntWalk.i64_in _ (by omega)
      have hwa:IntKind.i64.wrap (2 * z1+1)=2 * z1+1:=IntWalk.i64_in _ (by omega)
      clear hok h4 h5 n_Keys hz hk2 hcell
      go_wp2_with fail
      go_quiet (first|with_reducible exact Q1b (CI1.out _)|with_reducible exact Q1b (CI2.out _))
      go_wp2_with fail
      refine (CE.out _ (LW.out.lay.below (below_drewN (Below.refl _ _) nq))).mono ?_
      rintro e W3 ⟨rfl,hb⟩
      have BB:=Qh (Q0b (below_drewN B2.out nq) hb hs2)
      clear hb
      try dsimp only
      go_wp2_with fail
      exact HK9.out _ BB.out
     ·rw [decide_eq_false h4] at CI1
      clear hok h4 n_Keys hz hk2 hcell
      go_wp2_with fail
      go_quiet (first|with_reducible exact Q1b (CI1.out _)|with_reducible exact Q1b (CI2.out _))
      go_wp2_with fail
      refine (CE.out _ (LW.out.lay.below (below_drewN (Below.refl _ _) nq))).mono ?_
      rintro e W3 ⟨rfl,hb⟩
      have BB:=Qh (Q0b (below_drewN B2.out nq) hb hs2)
      clear hb
      try dsimp only
      go_wp2_with fail
      exact HK9.out _ BB.out
   by_cases n_Deal:v=Z1P
   ·have hz:=0
    have t_Deal:(sv.toList== [100,101,97,108])=true:=by rw [HSV.out,Q0a,n_Deal];rfl
    have t_Open:(sv.toList== [111,112,101,110])=false:=by rw [HSV.out,Q0a,n_Deal];decide
    have t_Clear:(sv.toList== [99,108,101,97,114])=false:=by rw [HSV.out,Q0a,n_Deal];decide
    have t_Show:(sv.toList== [115,104,111,119])=false:=by rw [HSV.out,Q0a,n_Deal];decide
    have t_Run:(sv.toList== [114,117,110])=false:=by rw [HSV.out,Q0a,n_Deal];decide
    have t_Keys:(sv.toList== [107,101,121,115])=false:=by rw [HSV.out,Q0a,n_Deal];decide
    have hk2:2<=n.length:=by have:=HCB.out;rw [n_Deal,Y1h] at this;rw [<-HKN.out];exact of_decide_eq_true this
    have HK9:=Qh (HSAME.out (Y0s n) (by rw [HST.out,show Q0P b v n=some (Y0s n,b) from by unfold Q0P;rw [if_pos n_Deal,if_pos hk2]];rfl))
    have hcc:=0
    obtain ⟨z0,z1,r,rfl⟩: ∃z0 z1 r,n=z0::z1::r:=by
     match n,hk2 with
     |z0::z1::r,_=>exact ⟨z0,z1,r,rfl⟩
    have hkk:k>=2:=by have:=HKN.out;simp at this;omega
    obtain ⟨b3,c3',hv,_,l_b,hcell⟩:=Q1E K3.out (by simp)
    injection hv with hv1 hv2 hv3
    subst hv1 hv3
    have y0:=hcell 0 z0 rfl
    have i_0:=K3.out.2.2 z0 (by simp)
    have p_0:=HN0.out z0 (by simp)
    have hwz0:IntKind.u64.wrap z0=z0:=u64_nonneg p_0 (by have:=i_0.2;omega)
    have u_0:U64 z0:=⟨p_0,by have:=i_0.2;omega⟩
    have hI0:(0:Int)<(k:Int):=by omega
    have y1:=hcell 1 z1 rfl
    have i_1:=K3.out.2.2 z1 (by simp)
    have p_1:=HN0.out z1 (by simp)
    have hwz1:IntKind.u64.wrap z1=z1:=u64_nonneg p_1 (by have:=i_1.2;omega)
    have u_1:U64 z1:=⟨p_1,by have:=i_1.2;omega⟩
    have hI1:(1:Int)<(k:Int):=by omega
    have hJ0:0<k:=by omega
    have hcut:=Q4A (lo:=2) (show Q0y wc (.slice (some ⟨b3,0,none⟩) (z0::z1::r).length c3) (z0::z1::r) by rw [<-HKN.out];exact K3.out.is) (by simp)
    rw [<-HKN.out] at hcut
    have hl1:=Q2A (some ⟨b3,0,none⟩) k c3 2 2 rfl (by omega)
    have hl2:=Q2B (some ⟨b3,0,none⟩) k c3 2 2 rfl (by omega)
    obtain ⟨vt,hvt⟩: ∃vt,vt=Value.slice (if c3=2 then some ⟨b3,0,none⟩ else (some (⟨b3,0,none⟩:Addr)).map (·.add (2 * 1))) (k - 2) (c3 - 2):=⟨_,rfl⟩
    rw [<-hvt] at hcut hl1 hl2
    have KT:=Qh hcut
    have CW:=Qh (fun q=>Q4B _ r (wc.drewN q) (KT.out.drewN q) (fun z hz=>HN0.out z (by simp [hz])))
    have hxl:=Z1n z1 r z0
    obtain ⟨X,hX⟩: ∃X,X=Z3c z1 r z0 (Z1g r z0):=⟨_,rfl⟩
    obtain ⟨E,hE⟩: ∃E,E=Z1e (Z1g r z0):=⟨_,rfl⟩
    have hE0:0<=E:=by rw [hE];unfold Z1e;split<;>omega
    have hE1:E<=1:=by rw [hE];unfold Z1e;split<;>omega
    have CD:=Qh (fun vd W (h:Q0h W vd r)=>Y0p z1 vd r z0 _ (Z3m r z0) W u_1 h)
    have HKK:=Qh (show∀w',Below w.heap.size w w'->Post (.returned (.string (bs (Q2G X E)))) w' by rw [hX,hE];exact HK9.out)
    rw [<-hX] at hxl
    rw [<-hX,<-hE] at CD
    clear n_Deal hz hk2 hcc hv2 hcell hcut hvt hX hE HK9
    go_wp2_with fail
    go_region_held3 (fun w'=>w'.cell? ⟨b3,0,none⟩=some (.int .i64 z0)/\w'.cell? ⟨b3,1,none⟩=some (.int .i64 z1)) (go_keep) (first|(go_at_call 38;refine (CW.out _).mono ?_;rintro e W1 ⟨vw,rfl,ho,hb⟩;have D1:=Qh ((below_drewN (Below.refl wc.heap.size wc) _).trans hb);have q1_0:=(D1.out.cell (p:=⟨b3,0,none⟩) l_b).trans y0;have q1_1:=(D1.out.cell (p:=⟨b3,1,none⟩) l_b).trans y1;have CX:=Qh (CD.out vw W1 ho.is);clear ho hb CW)|(go_at_call 37;refine (CX.out).mono ?_;rintro e W2 ⟨vx,rfl,ho,hb⟩;have D2:=Qh (Q0b D1.out hb D1.out.size);have q2_0:=(D2.out.cell (p:=⟨b3,0,none⟩) l_b).trans y0;have q2_1:=(D2.out.cell (p:=⟨b3,1,none⟩) l_b).trans y1;have CT:=Qh (Q5u vx X E W2 ho.is (by omega) hE0 (by omega) (LW.out.lay.below (D2.out.mono (Nat.le_refl _))).2.1);clear ho hb CX q1_0 q1_1)|(go_at_call 36;refine (CT.out).mono ?_;rintro e W3 ⟨rfl,hb⟩;have D3:=Qh (Q0b D2.out hb D2.out.size);have q3_0:=(D3.out.cell (p:=⟨b3,0,none⟩) l_b).trans y0;have q3_1:=(D3.out.cell (p:=⟨b3,1,none⟩) l_b).trans y1;clear hb CT q2_0 q2_1))
    go_wp2_with fail
    exact HKK.out _ (Q0b B2.out D3.out hs2)
   by_cases n_Open:v=Z1Q
   ·have hz:=0
    have t_Deal:(sv.toList== [100,101,97,108])=false:=by rw [HSV.out,Q0a,n_Open];decide
    have t_Open:(sv.toList== [111,112,101,110])=true:=by rw [HSV.out,Q0a,n_Open];rfl
    have t_Clear:(sv.toList== [99,108,101,97,114])=false:=by rw [HSV.out,Q0a,n_Open];decide
    have t_Show:(sv.toList== [115,104,111,119])=false:=by rw [HSV.out,Q0a,n_Open];decide
    have t_Run:(sv.toList== [114,117,110])=false:=by rw [HSV.out,Q0a,n_Open];decide
    have t_Keys:(sv.toList== [107,101,121,115])=false:=by rw [HSV.out,Q0a,n_Open];decide
    have hk2:n.length % 2=1:=by have:=HCB.out;rw [n_Open,Y1i] at this;rw [<-HKN.out];exact of_decide_eq_true this
    have HK9:=Qh (HSAME.out (Q9H n) (by rw [HST.out,show Q0P b v n=some (if n.length % 2=0 then Q2h 3 else Q9H n,b) from by unfold Q0P;rw [if_neg (by rw [n_Open];decide),if_pos n_Open,if_pos (by omega)],if_neg (by omega)];rfl))
    obtain ⟨z0,r,rfl⟩: ∃z0 r,n=z0::r:=by
     cases n with
     |nil=>simp at hk2
     |cons z0 r=>exact ⟨z0,r,rfl⟩
    obtain ⟨b3,c3',hv,_,l_b,hcell⟩:=Q1E K3.out (by simp)
    injection hv with hv1 hv2 hv3
    subst hv1 hv3
    have HCELL:=Qh hcell
    obtain ⟨M,hM⟩: ∃M,k=2 * M+1:=⟨k/2,by have:=HKN.out;omega⟩
    have HM:=Qh hM
    have HRL:=Qh (show r.length=2 * M by have h1:=HKN.out;have h2:=HM.out;rw [List.length_cons] at h1;omega)
    obtain ⟨L,hL⟩: ∃L,L=Q5s r:=⟨_,rfl⟩
    have HLM:=Qh (show L.length=M by rw [hL,Q4U,HRL.out];omega)
    have HLQ:=Qh hL
    have HPL:=Qh (show Q9H (z0::r)=Q2G ((Q7w z0 L).1::(Q7w z0 L).2.1) (Q7w z0 L).2.2 by unfold Q9H;rw [hL];rfl)
    rw [HPL.out] at HK9
    have c0:=HCELL.out 0 z0 rfl
    have hML:M<=50000:=by omega
    clear hL hM n_Open hz hk2 hcell hv2
    go_wp2_with fail
    go_loopw [15,16] (fun v i wr=> ∃kk p:Nat,kk<=M/\p=2 * kk+1/\i= .int .i64 p/\Q0r wr wc.heap.size v (L.take kk)/\Below wc.heap.size wc wr) (fun _ i _=>(k+2) - (intOf i).toNat)
    case atStart=>exact ⟨0,1,Nat.zero_le _,rfl,rfl,Q0r.nil _ _,Below.refl _ _⟩
    case round=>
     obtain ⟨kk,p,hk,hp,rfl,hown,hbel⟩:=hrel
     have KO:=Qh hown
     have BEL:=Qh hbel
     have HPK:=Qh hp
     have hsz:=hbel.size
     have hMN:=HM.out
     by_cases hlt:kk<M
     ·obtain ⟨x,hx⟩: ∃x,r[2 * kk]? =some x:=⟨_,List.getElem?_eq_getElem (by rw [HRL.out];omega)⟩
      obtain ⟨y,hy⟩: ∃y,r[2 * kk+1]? =some y:=⟨_,List.getElem?_eq_getElem (by rw [HRL.out];omega)⟩
      have hxi:=K3.out.2.2 x (List.mem_cons_of_mem _ (List.mem_of_getElem? hx))
      have hyi:=K3.out.2.2 y (List.mem_cons_of_mem _ (List.mem_of_getElem? hy))
      have hy0:=HN0.out y (List.mem_cons_of_mem _ (List.mem_of_getElem? hy))
      have hyu:U64 y:=⟨hy0,by have:=hyi.2;omega⟩
      have hwy:IntKind.u64.wrap y=y:=u64_nonneg hy0 (by have:=hyi.2;omega)
      have cx:=(BEL.out.cell (p:=⟨b3,p,none⟩) l_b).trans (HCELL.out p x (by rw [hp];exact hx))
      have cy:=(BEL.out.cell (p:=⟨b3,p+1,none⟩) l_b).trans (HCELL.out (p+1) y (by rw [hp];exact hy))
      obtain ⟨Lk,hLk⟩: ∃Lk,Lk=L.take kk:=⟨_,rfl⟩
      have HT:=Qh (show L.take (kk+1)=Lk++ [(x,y)] by rw [hLk,List.take_add_one,HLQ.out,Z1j r kk x y hx hy];rfl)
      have HTL:=Qh (show Lk.length=kk by rw [hLk,List.length_take,HLM.out];omega)
      replace KO:=Qh (show Q0r wr wc.heap.size u15 Lk by rw [hLk];exact KO.out)
      have hB:wc.heap.size<=(wr.alloc (.cells #[.int .i64 x,.int .u64 y] 71)).heap.size:=by rw [size_alloc];exact Nat.le_succ_of_le hsz
      have hlr:=Nat.lt_of_lt_of_le l_b hsz
      have hpN:p<k:=by omega
      have hpI:(p:Int)<(k:Int):=by omega
      have hpN2:p+1<k:=by omega
      have hpI2:(p:Int)+1<(k:Int):=by omega
      have hw1:IntKind.i64.wrap ((p:Int)+1)=(p:Int)+1:=IntWalk.i64_in _ (by omega)
      have hw2:IntKind.i64.wrap ((p:Int)+2)=(p:Int)+2:=IntWalk.i64_in _ (by omega)
      have hp0:(0:Int)<=(p:Int)+1:=by omega
      have hpt:((p:Int)+1).toNat=p+1:=by omega
      clear hx hy hp hown hbel hMN hLk
      go_wp2_with fail
      go_region_held3 (fun w'=>w'.cell? ⟨b3,p,none⟩=some (.int .i64 x)/\w'.cell? ⟨b3,p+1,none⟩=some (.int .i64 y)) (go_keep) ((refine Q6G rfl _ _ (by rfl) wc.heap.size _ Lk x y _ 1 (by rfl) ((KO.out.drewN 1).alloc _) (by rfl) (Q2D _ _ _ _) (Q2E _ _ _ _) hxi hyu (by rw [HTL.out];omega) hB ?_;intro bb cap w7 ho7 hb7;have q0:=(hb7.cell (p:=⟨b3,p,none⟩) l_b).trans ((World.cell?_alloc_lt wr _ _ hlr).trans cx);have q1:=(hb7.cell (p:=⟨b3,p+1,none⟩) l_b).trans ((World.cell?_alloc_lt wr _ _ hlr).trans cy)))
      have K7:=Qh ho7
      have B7:=Qh ((BEL.out.alloc hsz (.cells #[.int .i64 x,.int .u64 y] 71)).trans (Q9t hb7))
      clear ho7 hb7 q0 q1 cx cy
      go_wp2_with fail
      exact ⟨⟨kk+1,p+2,by omega,by have:=HPK.out;omega,by go_num,by rw [HT.out];exact K7.out,B7.out⟩,by simp [intOf]<;>omega⟩
     ·obtain rfl:kk=M:=by omega
      have hpN:p=k:=by omega
      rw [show L.take kk=L from List.take_of_length_le (by rw [HLM.out];exact Nat.le_refl _)] at KO
      have hc0:=(BEL.out.cell (p:=⟨b3,0,none⟩) l_b).trans c0
      have hN1:0<k:=by omega
      have hNI:(0:Int)<(k:Int):=by omega
      obtain ⟨rf1,rf2,rf3,rf4,rf5⟩:=Q9d z0 L
      rw [HLM.out] at rf2
      obtain ⟨X,hX⟩: ∃X,X=(Q7w z0 L).1:=⟨_,rfl⟩
      obtain ⟨BL,hB⟩: ∃BL,BL=(Q7w z0 L).2.1:=⟨_,rfl⟩
      obtain ⟨E,hE⟩: ∃E,E=(Q7w z0 L).2.2:=⟨_,rfl⟩
      have CO:=Qh ((Z6H z0 L).2 _ _ KO.out.is)
      rw [<-hX,<-hB,<-hE] at CO
      rw [<-hX,<-hB,<-hE] at HK9
      rw [<-hB] at rf1 rf2
      rw [<-hX] at rf3
      rw [<-hE] at rf4 rf5
      have RF1:=Qh rf1
      have RF3:=Qh rf3
      clear hX hB hE rf1 rf3 hp hown hMN HPK
      subst hpN
      go_wp2_with fail
      refine CO.out.mono ?_
      rintro e W1 ⟨vb,rfl,hob,hb⟩
      have KB:=Qh hob.is
      have B1:=Qh (Q0b BEL.out hb hsz)
      have HLO:=Qh (Q5a W1 W1.heap.size [X] (by intro q hq;simp only [List.mem_singleton] at hq;subst hq;exact RF3.out) (by simp) (Nat.le_refl _))
      have BA:=Qh ((Below.refl W1.heap.size W1).alloc (Nat.le_refl _) (.cells #[.int .u64 X] 67))
      have CW:=Qh (Q4B vb BL _ (KB.out.below BA.out) RF1.out)
      clear hob hb
      try dsimp only
      go_wp2_with fail
      refine CW.out.mono ?_
      rintro e W2 ⟨vw,rfl,how,hbw⟩
      have KW:=Qh how.is
      have B2':=Qh (Q0b BA.out hbw BA.out.size)
      have HLO2:=Qh (HLO.out.below hbw)
      have hs2':=B2'.out.size
      clear how hbw
      try dsimp only
      go_wp2_with (at_builtin;go_loud (refine Q3H rfl _ _ rfl W1.heap.size _ _ [X] BL rfl HLO2.out rfl KW.out (by simp;omega) hs2' ?_))
      intro v3 W3 ho3 hb3'
      have CT:=Qh (Q5u v3 (X::BL) E W3 (show Q0h W3 v3 (X::BL) from Q0c.is ho3) (by simp;omega) rf4 (by omega) (LW.out.lay.below (Q0b B1.out (B2'.out.trans hb3') B1.out.size)).2.1)
      have B3:=Qh (Q0b B1.out (B2'.out.trans hb3') B1.out.size)
      clear ho3 hb3'
      go_wp2_with fail
      refine CT.out.mono ?_
      rintro e W4 ⟨rfl,hb⟩
      have B4:=Qh (Q0b B3.out hb B3.out.size)
      clear hb
      try dsimp only
      go_wp2_with fail
      exact HK9.out _ (Q0b B2.out B4.out hs2)
   have t_Deal:(sv.toList== [100,101,97,108])=false:=by rw [HSV.out,Q0a,beq_eq_false_iff_ne];exact n_Deal
   have t_Open:(sv.toList== [111,112,101,110])=false:=by rw [HSV.out,Q0a,beq_eq_false_iff_ne];exact n_Open
   have t_Clear:(sv.toList== [99,108,101,97,114])=false:=by rw [HSV.out,Q0a,beq_eq_false_iff_ne];exact n_Clear
   have t_Show:(sv.toList== [115,104,111,119])=false:=by rw [HSV.out,Q0a,beq_eq_false_iff_ne];exact n_Show
   have t_Run:(sv.toList== [114,117,110])=false:=by rw [HSV.out,Q0a,beq_eq_false_iff_ne];exact n_Run
   have t_Keys:(sv.toList== [107,101,121,115])=false:=by rw [HSV.out,Q0a,beq_eq_false_iff_ne];exact n_Keys
   obtain ⟨f,hf⟩:=Y3K (n:=n) (by rw [<-HKN.out];exact HCB.out) n_Deal n_Open n_Clear n_Show n_Run n_Keys
   have HS9:=Qh (show Q0C b v ws=Q6F b f by rw [HST.out,Z4L b n n_Deal n_Open n_Clear n_Show n_Run n_Keys,Option.getD_none];unfold Q2P;rw [hf])
   have HF:=Qh hf
   clear n_Deal n_Open n_Clear n_Show n_Run n_Keys hf
   cases hks:b.ks with
   |none=>
    have hkp0:kp= .pointer none:=by have:=HKP2.out;rw [hks] at this;exact this
    subst hkp0
    have hq1:=BX2.out.cell (i:=1) rfl
    have HK9:=Qh (HSAME.out (Q2h 4) (by rw [HS9.out];unfold Q6F;rw [hks]))
    have CF:=Qh (Q1L 4 wc (by omega) (by omega) LW.out.lay.2.1)
    clear hks
    go_wp2_with fail
    refine CF.out.mono ?_
    rintro e W3 ⟨rfl,hb⟩
    have BB:=Qh (Q0b B2.out hb hs2)
    clear hb
    try dsimp only
    go_wp2_with fail
    exact HK9.out _ BB.out
   |some q=>
    have h0:=HKP2.out
    rw [hks] at h0
    obtain ⟨kb,mb,V,rfl,href⟩:=h0
    have hq1:=BX2.out.cell (i:=1) rfl
    have hk0:kb<w.heap.size/\mb<w.heap.size:=by
     obtain ⟨kp0,h5,h6⟩:=HD.out
     have e1:=(h5.below B2.out).cell (i:=1) rfl
     rw [hq1] at e1
     injection e1 with e1
     rw [hks] at h6
     obtain ⟨kb',mb',V',h7,h8⟩:=h6
     rw [h7] at e1
     injection e1 with e1
     injection e1 with e1
     injection e1 with e1
     subst e1
     have e2:=(h8.below B2.out).cell
     rw [href.cell] at e2
     injection e2 with e2
     injection e2 with e2
     have e3:=congrArg (fun a:Array Value=>a[3]?) e2
     simp at e3
     subst e3
     exact ⟨h8.lt,h8.store.lt⟩
    have HE:=Qh (show Q7S wc base db kb mb w.heap.size b.tx q (.slice A3 k c3) n from
     ⟨BX2.out,⟨V,href⟩,by have:=HOK.out.2 q hks;exact ⟨this.1,this.2.1,this.2.2.1,by have:=this.2.2.2.1;omega,this.2.2.2.2⟩,K3.out,HN0.out,LW.out.mono (Nat.le_of_lt hdb),hk0.1,hk0.2,hdb⟩)
    have HK9:=Qh (HNEW.out (f q).1 ⟨b.tx,some (f q).2⟩ (by rw [HS9.out];unfold Q6F;rw [hks]))
    have CK:=Qh (Y3L v HF.out HE.out)
    rw [<-HSV.out] at CK
    have HREF:=Qh href
    clear hks href hk0
    go_wp2_with fail
    refine CK.out.mono ?_
    rintro e W4 ⟨rfl,hki,hnr⟩
    have HKK:=Qh (HK9.out W4 (by
     obtain ⟨V',hki⟩:=hki
     have:=HREF.out.le
     have:=HREF.out.store.le
     exact ⟨_,(hnr.block db hdl2 (by omega) (by omega)).trans BX2.out,kb,mb,V',rfl,hki⟩) ((Left.of_below B2.out).trans (.of_ref HREF.out hnr)))
    clear hki hnr
    try dsimp only
    go_wp2_with fail
    exact HKK.out
end Go.Proofs.YtploomncapiloaaGreatDoor
